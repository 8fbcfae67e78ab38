/- More operations that change no memory. -/
import Derived.Test.YtelobnllkhnpaaaEvFrz
namespace Go.Ev
set_option linter.unusedVariables false
set_option linter.unusedSimpArgs false

variable {P : Program} {C : Cfg} {Γ : Ctx} {t : Nat} {ti : TI} {base n0 f : Nat} {β : Nat → Nat} {s s' : St} {a : Act} {o : Oper} {K : Callee}

theorem rp_drop {xs : List AV} {ad : Addr} (h : RelV Γ (.rp xs) (.pointer (some ad))) (off : Nat) : RelV Γ (.rp (xs.drop off)) (.pointer (some (ad.add off))) := by
  cases h with
  | rp g h1 hmem hrel =>
    refine .rp (fun j => g (off + j)) (fun x hx => h1 x (List.mem_of_mem_drop hx)) (fun j hj => ?_) (fun j x hj => ?_)
    · rw [List.length_drop] at hj
      rw [add_add, add_block]
      exact hmem (off + j) (by omega)
    · rw [List.getElem?_drop] at hj
      exact hrel _ x hj

theorem hp_off {id n off k : Nat} {ad : Addr} (h : RelV Γ (.hp id n off) (.pointer (some ad))) : RelV Γ (.hp id n (off + k)) (.pointer (some (ad.add k))) := by
  cases h with
  | hp hin h1 hh =>
    refine .hp hin ⟨_, rfl⟩ fun T xs hx => ⟨(hh T xs hx).1, fun hn => ?_⟩
    obtain ⟨b', hb, hv⟩ := (hh T xs hx).2 hn
    injection hv with hv; injection hv with hv; subst hv
    exact ⟨b', hb, by rw [add_off]⟩

theorem run_fieldAt {s : TypeId} {fs : List (Nat × Nat)} (ht : TIOk P s ti) (hk : ti.kind = .struct fs) {j off ft : Nat} (hj : fs[j]? = some (off, ft)) {fi : TI} (hf : TIOk P ft fi) (hsz : fi.sz ≠ 0) (ad : Addr) (w : World) :
    (Instr.fieldAt s (.pointer (some ad)) j).run P w = .ok (.pointer (some (ad.add off))) w := by
  obtain ⟨gs, h1, h2⟩ := ht.struct hk
  have hg : ∃ g : Field, gs[j]? = some g ∧ g.offset = off ∧ g.type = ft := by
    rw [← h2, List.getElem?_map] at hj
    cases hg : gs[j]? with
    | none => rw [Array.getElem?_toList, hg] at hj; cases hj
    | some g => rw [Array.getElem?_toList, hg] at hj; injection hj with hj; injection hj with e1 e2; exact ⟨g, rfl, e1, e2⟩
  obtain ⟨g, hg, rfl, rfl⟩ := hg
  simp [Instr.fieldAt, run_underlying h1, hg, Instr.sureAddr, fieldPlace, hf.run_size, hsz]

theorem pure_fieldAddr (hT : TabOk P C.tab) (R : RelS base n0 Γ β s a) {t : TypeId} {x : Operand} {j : Nat} (ho : o.op = .fieldAddr t x j) (h : oper C K f o s = some s') : PureOk P Γ β s a o s' := by
  unfold oper at h
  rw [ho] at h
  dsimp only at h
  have hex : execOp a.eval o = (do pure (.value (← Instr.fieldAt t (a.eval x) j))) := by unfold execOp; rw [ho]
  split at h
  · rename_i fs sz by_ zr sl ht hx
    split at h
    · rename_i off ft hj
      split at h
      · rename_i fi hf
        split at h
        · cases h
        · rename_i hsz
          have key : ∀ (ad : Addr) (y : Slot), a.eval x = .pointer (some ad) → RelX Γ β y (.pointer (some (ad.add off))) → s' = s.put o.dst y → PureOk P Γ β s a o s' := by
            intro ad y hx hr e
            refine ⟨y, _, ?_, hr, e⟩
            rw [hex, hx]
            simp [run_fieldAt (hT _ _ ht) rfl hj (hT _ _ hf) hsz ad Γ.w]
          split at h
          · rename_i d o'
            injection h with h
            refine key _ _ (R.slot hx) ?_ h.symm
            rw [add_off]; rfl
          · rename_i id n o'
            injection h with h
            have hr : RelV Γ (.hp id n o') (a.eval x) := R.slot hx
            obtain ⟨ad, hv⟩ := somePtr_sound (a := .hp id n o') rfl hr
            refine key _ _ hv ?_ h.symm
            rw [hv] at hr
            exact hp_off hr
          · rename_i xs
            injection h with h
            have hr : RelV Γ (.rp xs) (a.eval x) := R.slot hx
            generalize hv : a.eval x = u at hr
            cases hr with
            | rp g h1 hmem hrel => exact key _ (.v (.rp (xs.drop off))) hv (rp_drop (.rp g h1 hmem hrel) off) h.symm
          · cases h
      · cases h
    · cases h
  · cases h

/-- A field of a value, or of a zero value. -/
theorem part_sound {t : Nat} (ht : TIOk P t ti) {xs : List AV} {cs : Array Value} (hc : RelC Γ xs cs) {off : Nat} {r : AV} (h : part ti xs off = some r) (w : World) : ∃ v, (_root_.Go.part t cs off).run P w = .ok v w ∧ RelV Γ r v := by
  unfold part at h
  unfold Go.part
  simp only [Sem.run_bind, ht.run_agg, Result.andThen_ok]
  split at h
  · rename_i hk
    split at h
    · rename_i hle
      injection h with h; subst h
      refine ⟨.agg (cs.extract off (off + ti.sz)), by simp [hk, ht.run_size], .agg ?_ (fun x hx => hc.2.1 x (List.mem_of_mem_drop (List.mem_of_mem_take hx))) (fun i x hx => ?_)⟩
      · have := hc.1; simp; omega
      · have hi : i < ti.sz := by
          rcases Nat.lt_or_ge i ti.sz with h' | h'
          · exact h'
          · rw [List.getElem?_take_eq_none h'] at hx; cases hx
        rw [List.getElem?_take_of_lt hi, List.getElem?_drop] at hx
        have h2 := hc.2.2 _ x hx
        have h1 := hc.1
        have e : (cs.extract off (off + ti.sz)).getD i undef = cs.getD (off + i) undef := by
          rw [Array.getD_eq_getD_getElem?, Array.getD_eq_getD_getElem?, Array.getElem?_extract, if_pos (by omega)]
        rw [e]; exact h2
    · cases h
  · rename_i hk
    have hlt : off < cs.size := by
      rcases Nat.lt_or_ge off xs.length with h' | h'
      · have := hc.1; omega
      · rw [List.getElem?_eq_none h'] at h; cases h
    refine ⟨cs.getD off undef, ?_, hc.2.2 off r h⟩
    simp [hk, hlt, Array.getD_eq_getD_getElem?]

theorem pure_field (hT : TabOk P C.tab) (R : RelS base n0 Γ β s a) {t : TypeId} {x : Operand} {j : Nat} (ho : o.op = .field t x j) (h : oper C K f o s = some s') : PureOk P Γ β s a o s' := by
  unfold oper at h
  rw [ho] at h
  dsimp only at h
  split at h
  · rename_i fs sz by_ zr xs ht hx
    split at h
    · rename_i off ft hj
      split at h
      · rename_i fi hf
        obtain ⟨r, hr, e⟩ := putv_of_map h
        have hv := R.val hx
        generalize hv' : a.eval x = u at hv
        cases hv with
        | agg hn h1 hrel =>
          rename_i cs
          obtain ⟨gs, e1, e2⟩ := (hT _ _ ht).struct rfl
          have hg : ∃ g : Field, gs[j]? = some g ∧ g.offset = off ∧ g.type = ft := by
            rw [← e2, List.getElem?_map] at hj
            cases hg : gs[j]? with
            | none => rw [Array.getElem?_toList, hg] at hj; cases hj
            | some g => rw [Array.getElem?_toList, hg] at hj; injection hj with hj; injection hj with e1 e2; exact ⟨g, rfl, e1, e2⟩
          obtain ⟨g, hg, rfl, rfl⟩ := hg
          obtain ⟨v, hv, hrv⟩ := part_sound (hT _ _ hf) (⟨hn, h1, hrel⟩ : RelC Γ xs cs) hr Γ.w
          refine ⟨.v r, v, ?_, hrv, e⟩
          unfold execOp
          rw [ho]
          simp [hv', Instr.field, run_underlying e1, hg, asAgg, hv]
      · cases h
    · cases h
  · cases h

theorem rp_row {sz : Nat} {xs : List (List AV)} {A : Option Addr} {n c : Nat} (h : RelT Γ.S Γ.w (.vs sz xs) (.slice A n c)) {i : Nat} {r : List AV} (hi : xs[i]? = some r) : ∃ ad, A = some ad ∧ i < n ∧ RelV Γ (.rp r) (.pointer (some (ad.add (i * sz)))) := by
  cases h with
  | vs g hn hc hsz hA hmem hrel =>
    have hlt : i < xs.length := by
      rcases Nat.lt_or_ge i xs.length with h' | h'
      · exact h'
      · rw [List.getElem?_eq_none h'] at hi; cases hi
    obtain ⟨ad, rfl⟩ := hA (by omega)
    have hm := hsz r (List.mem_of_getElem? hi)
    refine ⟨ad, rfl, by omega, .rp (fun j => g i j) hm.2 (fun j hj => ?_) (fun j x hj => hrel i j r x hi hj)⟩
    rw [add_add, add_block]
    have := hmem ad rfl i j (by omega) (by omega)
    exact this

theorem pure_indexAddr (hT : TabOk P C.tab) (R : RelS base n0 Γ β s a) {t : TypeId} {x i : Operand} (ho : o.op = .indexAddr t x i) (h : oper C K f o s = some s') : PureOk P Γ β s a o s' := by
  unfold oper at h
  rw [ho] at h
  dsimp only at h
  split at h
  · rename_i e sz0 by_ zr av k iv ht hx hi
    split at h
    · rename_i ei he
      split at h
      · rename_i h0
        have hi' : a.eval i = .int k iv := by
          have := R.val hi
          generalize a.eval i = u at this
          cases this; rfl
        have key : ∀ (ad : Addr) (len c : Nat) (y : AV), a.eval x = .slice (some ad) len c → iv < len → RelV Γ y (.pointer (some (ad.add (iv.toNat * ei.sz)))) → s' = s.put o.dst (.v y) → PureOk P Γ β s a o s' := by
          intro ad len c y hx hlt hr e'
          refine ⟨.v y, _, ?_, hr, e'⟩
          unfold execOp
          rw [ho]
          simp [hx, hi', Instr.indexAt, asIntOf, run_underlying ((hT _ _ ht).slice rfl), h0, hlt, (hT _ _ he).run_size]
        split at h
        · rename_i id sz off len
          split at h
          · rename_i T xs hH
            split at h
            · rename_i hc
              injection h with h
              obtain ⟨c1, c2, c3⟩ := hc
              subst c1
              rw [← R.heap] at hH
              obtain ⟨b, c, arr, T', fr, hb, hv, hle, hh, hsz⟩ := sl_slice (R.val hx) hH c3
              refine key _ _ _ _ hv c2 ?_ h.symm
              rw [add_off]
              refine .hp (R.inv.dom id b hb).1 ⟨_, rfl⟩ fun T2 ys hy => ?_
              rw [hH] at hy
              injection hy with hy; injection hy with _ hy; subst hy
              exact ⟨Nat.le_refl _, fun _ => ⟨b, hb, rfl⟩⟩
            · cases h
          · cases h
        · rename_i sz xs
          split at h
          · rename_i hsz
            subst hsz
            cases hr : xs[iv.toNat]? with
            | none => rw [hr] at h; cases h
            | some r =>
              rw [hr] at h
              injection h with h
              have hv := R.val hx
              generalize hv' : a.eval x = u at hv
              cases hv with
              | vs hT => cases hT with
               | vs g hn hc hsz hA hmem hrel =>
                obtain ⟨ad, rfl, hlt, hrp⟩ := rp_row (.vs g hn hc hsz hA hmem hrel) hr
                exact key _ _ _ _ hv' (by omega) hrp h.symm
          · cases h
        · cases h
      · cases h
    · cases h
  · cases h

end Go.Ev
