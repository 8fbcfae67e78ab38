/- Maps made and written; objects written. -/
import Derived.Test.YtelobnllkhnpaaaEvOp6
namespace Go.Ev
set_option linter.unusedVariables false
set_option linter.unusedSimpArgs false

variable {P : Program} {C : Cfg} {Γ : Ctx} {t : Nat} {ti : TI} {base n0 f : Nat} {β : Nat → Nat} {s s' : St} {a : Act} {o : Oper} {K : Callee}

theorem post_makeMap (R : RelS base n0 Γ β s a) {t : TypeId} (ho : o.op = .makeMap t none) (h : oper C K f o s = some s') :
    ∃ v w', Runs P o a Γ.w w' v ∧ HeapPost base Γ β s o.dst s' v w' := by
  unfold oper at h
  rw [ho] at h
  dsimp only at h
  injection h with h
  refine ⟨.map (some Γ.w.heap.size), Γ.w.alloc (.map #[] 0), .inl ?_, push_post R (ob := .map []) ⟨_, _, rfl, rfl, fun i e he => by simp at he⟩ (x := .v (.mp Γ.H.length)) ?_ ?_⟩
  · unfold execOp
    rw [ho]
    rfl
  · exact RelV.mp (by simp [Ctx.push]) ⟨_, rfl⟩ fun es hy => ⟨_, push_self.2, rfl⟩
  · rw [← h, R.heap]; exact put_heap _ _ _ _

theorem upd_post {x : Slot} {v : Value} {d : Option Tmp} {id b : Nat} {ob : HObj} {o' : Obj} (R : RelS base n0 Γ β s a) (hρ : Γ.ρ id = some b) (e : Ext s.lo (fun _ => False) Γ (Γ.upd id b ob o')) (hob : ObjOk Γ ob o')
    (hx : RelX (Γ.upd id b ob o') β x v) (e' : s' = ({ s with heap := s.heap.set id ob } : St).put d x) : HeapPost base Γ β s d s' v { Γ.w with heap := Γ.w.heap.setIfInBounds b o' } := by
  refine ⟨Γ.upd id b ob o', x, rfl, e, R.inv.upd hρ e hob, hx, ?_⟩
  rw [e', ← R.heap]
  rfl

theorem setCells_len_le {xs ys : List AV} {off : Nat} (h : off + ys.length ≤ xs.length) : (setCells xs off ys).length = xs.length := setCells_length _ _ _ h

theorem post_store (hT : TabOk P C.tab) (R : RelS base n0 Γ β s a) {t : TypeId} {x y : Operand} (ho : o.op = .store t x y) (hnl : ∀ d off, s.slot x ≠ some (.p d off)) (h : oper C K f o s = some s') :
    ∃ v w', Runs P o a Γ.w w' v ∧ HeapPost base Γ β s o.dst s' v w' := by
  unfold oper at h
  rw [ho] at h
  dsimp only at h
  split at h
  · rename_i hx _
    exact absurd hx (hnl _ _)
  · rename_i ti id n off ys ht hx hy
    split at h
    · rename_i e xs hH
      split at h
      · rename_i hc
        obtain ⟨c1, c2, c3, c4⟩ := hc
        injection h with h
        rw [← R.heap] at hH
        obtain ⟨b, hb, hv⟩ := hp_ptr (R.slot hx) hH c2
        obtain ⟨arr, h1, h2, h3, h4⟩ := R.inv.cells id b e xs hb hH
        obtain ⟨yv, hyv, hyc⟩ := Option.bind_eq_some_iff.1 hy
        have hr := R.val hyv
        have hfit : off + ys.length ≤ xs.length := by omega
        obtain ⟨q1, q2, q3⟩ := cells_rel hr hyc
        have hsz : (arr.toList.take off ++ (a.eval y).cells.toList ++ arr.toList.drop (off + ys.length)).toArray.size = arr.size := by
          have : (a.eval y).cells.toList.length = ys.length := by simpa using q1
          simp [q1]; omega
        have hst := store_sound (w := Γ.w) (off := off) (hT _ _ ht) h1 hr hyc c3 (by omega)
        refine ⟨undef, _, .inr ⟨?_, rfl⟩, upd_post R hb (Ext.updCells R.inv c1 hb hH h1 hsz (Nat.le_of_eq (setCells_length _ _ _ hfit).symm)) ⟨_, rfl, ?_, fun z hz => ?_, fun i z hz => ?_⟩ (x := .v (.tup [])) (RelV.tup rfl (by simp)) h.symm⟩
        · unfold execOp
          rw [ho]
          dsimp only
          rw [hv]
          have : (Instr.storeAt t (.pointer (some ⟨b, off, none⟩)) (a.eval y)) = storeVar t ⟨b, off, none⟩ (a.eval y) := by
            unfold Instr.storeAt Instr.sureAddr
            rw [pure_bind]
          rw [this, Sem.run_bind, hst]
          rfl
        · rw [setCells_length _ _ _ hfit, hsz]; exact h2
        · rcases setCells_mem hz with hz | hz
          · exact h3 z hz
          · exact q2 z hz
        · exact splice_rel hr hyc hfit h2 h4 i z hz
      · cases h
    · cases h
  · cases h

theorem sameBits_of {kk : TK} {d : TypeDesc} (hk : keyDesc kk d) {v u : Value} (h : Instr.sameNow d v u = some true) (n : Nat) : Instr.sameBits (n + 1) u v = true := by
  cases kk <;> simp only [keyDesc] at hk <;> subst hk
  · cases v <;> cases u <;> simp only [Instr.sameNow] at h <;> first | (cases h; done) | skip
    split at h
    · rename_i e; subst e
      injection h with h
      simp [Instr.sameBits] at h ⊢
      exact h.symm
    · cases h
  · cases v <;> cases u <;> simp only [Instr.sameNow] at h <;> first | (cases h; done) | skip
    injection h with h
    simp [Instr.sameBits] at h ⊢
    exact h.symm
  · cases v <;> cases u <;> simp only [Instr.sameNow] at h <;> first | (cases h; done) | skip
    injection h with h
    simp only [Instr.sameBits]
    rw [beq_toListBytes, beq_iff_eq] at h ⊢
    exact h.symm

theorem mapPut_sound {kk : TK} {d : TypeDesc} (hk : keyDesc kk d) {x y : AV} {v u : Value} (hx : RelV Γ x v) (hy : RelV Γ y u) : ∀ {l l' : List (AV × AV)} {ms : List MapEntry} (i : Nat), RelMs Γ l ms → mapPut kk l x y = some l' →
    (∃ q m, Instr.findNow d v ms i = some (some (i + q, m.val)) ∧ ms[q]? = some m ∧ Instr.sameNow d v m.key = some true ∧ RelMs Γ l' (ms.modify q fun e => { e with key := v, val := u })) ∨
    (Instr.findNow d v ms i = some none ∧ ∀ c, RelMs Γ l' (ms ++ [{ key := v, val := u, born := c }]))
  | [], l', _, i, .nil, h => by
    injection h with h; subst h
    exact .inr ⟨rfl, fun c => .cons hx hy .nil⟩
  | (k, z) :: l, l', m :: ms, i, .cons h1 h2 h3, h => by
    unfold mapPut at h
    split at h
    · rename_i e
      injection h with h; subst h
      have hs := sameNow_sound hk e hx h1
      exact .inl ⟨0, m, by simp only [Instr.findNow, hs, Nat.add_zero], rfl, hs, .cons hx hy h3⟩
    · rename_i e
      simp only [Option.map_eq_some_iff] at h
      obtain ⟨l2, hl2, rfl⟩ := h
      have hs := sameNow_sound hk e hx h1
      rcases mapPut_sound hk hx hy (i + 1) h3 hl2 with ⟨q, m', a1, a2, a3, a4⟩ | ⟨a1, a2⟩
      · refine .inl ⟨q + 1, m', ?_, by simpa using a2, a3, ?_⟩
        · simp only [Instr.findNow, hs, a1]
          rw [show i + 1 + q = i + (q + 1) by omega]
        · rw [List.modify_succ_cons]
          exact .cons h1 h2 a4
      · exact .inr ⟨by simp only [Instr.findNow, hs, a1], fun c => .cons h1 h2 (a2 c)⟩
    · cases h

theorem RelMs.to_array {l : List (AV × AV)} {ms : List MapEntry} (h : RelMs Γ l ms) : ms.length = l.length ∧ ∀ (i : Nat) (e : AV × AV), l[i]? = some e → ∃ m : MapEntry, ms[i]? = some m ∧ RelV Γ e.1 m.key ∧ RelV Γ e.2 m.val := by
  induction h with
  | nil => exact ⟨rfl, fun i e he => by simp at he⟩
  | cons hk hv _ ih =>
    refine ⟨by simp [ih.1], fun i e he => ?_⟩
    cases i with
    | zero => simp at he; subst he; exact ⟨_, rfl, hk, hv⟩
    | succ i => simpa using ih.2 i e (by simpa using he)

theorem post_mapUpdate (hT : TabOk P C.tab) (R : RelS base n0 Γ β s a) {t : TypeId} {m k x : Operand} (ho : o.op = .mapUpdate t m k x) (h : oper C K f o s = some s') :
    ∃ v w', Runs P o a Γ.w w' v ∧ HeapPost base Γ β s o.dst s' v w' := by
  unfold oper at h
  rw [ho] at h
  dsimp only at h
  split at h
  · rename_i id kv xv kt e sz by_ zr hm hk hx ht
    split at h
    · rename_i es hH
      split at h
      · rename_i kk hkk
        split at h
        · rename_i hlo
          simp only [Option.map_eq_some_iff] at h
          obtain ⟨es', hp, e'⟩ := h
          rw [← R.heap] at hH
          obtain ⟨b, hb, hmv⟩ := mp_map (R.val hm) hH
          obtain ⟨ms, cl, h1, h2, h3⟩ := R.inv.map id b es hb hH
          obtain ⟨d, hd, hkd⟩ := keyKind_desc hT hkk
          have hMs : RelMs Γ es ms.toList := RelMs.of_array (by simpa using h2) (fun i e he => by
            obtain ⟨m, a1, a2⟩ := h3 i e he
            exact ⟨m, by rw [Array.getElem?_toList]; exact a1, a2⟩)
          have hu : P.underlying t = some (.map kt e) := (hT _ _ ht).map rfl
          have hset : ∀ (w : World) (o' : Obj), w.heap[b]? = some (.map ms cl) → (setObj b o').run P w = .ok () { w with heap := w.heap.setIfInBounds b o' } := fun w o' hw => by
            simp only [setObj, Sem.run, hw]
          have key : ∀ (ms' : Array MapEntry) (cl' : Nat), RelMs Γ es' ms'.toList → (Instr.mapUpdate t (a.eval m) (a.eval k) (a.eval x)).run P Γ.w = .ok () { Γ.w with heap := Γ.w.heap.setIfInBounds b (.map ms' cl') } → ∃ v w', Runs P o a Γ.w w' v ∧ HeapPost base Γ β s o.dst s' v w' := by
            intro ms' cl' hr hrun
            obtain ⟨r1, r2⟩ := hr.to_array
            refine ⟨undef, _, .inr ⟨?_, rfl⟩, upd_post R hb (Ext.updMap R.inv (es' := es') (ms' := ms') (cl' := cl') hlo hb hH h1) ⟨ms', cl', rfl, by simpa using r1, fun i e he => ?_⟩ (x := .v (.tup [])) (RelV.tup rfl (by simp)) e'.symm⟩
            · unfold execOp
              rw [ho]
              dsimp only
              rw [Sem.run_bind, hrun]
              rfl
            · obtain ⟨m', q1, q2⟩ := r2 i e he
              exact ⟨m', by rw [← Array.getElem?_toList]; exact q1, q2⟩
          have pre : ∀ (r : Option (Nat × Value)), Instr.findNow d (a.eval k) ms.toList 0 = some r → (Instr.mapUpdate t (a.eval m) (a.eval k) (a.eval x)).run P Γ.w =
              (match r with
                | some (i, _) => do
                  let key ← Instr.keyThatStays (((ms[i]?).map (·.key)).getD (a.eval k)) (a.eval k)
                  setObj b (.map (ms.modify i fun e => { e with key, val := a.eval x }) cl)
                | none => setObj b (.map (ms.push { key := a.eval k, val := a.eval x, born := cl }) (cl + 1)) : Sem Unit).run P Γ.w := by
            intro r hr
            rw [hmv]
            unfold Instr.mapUpdate
            have hg : (getObj b).run P Γ.w = .ok (.map ms cl) Γ.w := by
              simp only [getObj, Sem.run, h1]
            simp only [Sem.run_bind, run_underlying hu, Result.andThen_ok, hg]
            rw [show (10000 : Nat) = 9999 + 1 from rfl, run_checkKey hd hkd]
            simp only [Result.andThen_ok, Instr.findKey, Sem.run_bind, run_underlying hd, hr, Sem.run_pure]
            cases r with
            | none => rfl
            | some p => rfl
          rcases mapPut_sound hkd (R.val hk) (R.val hx) 0 hMs hp with ⟨q, m', a1, a2, a3, a4⟩ | ⟨a1, a2⟩
          · refine key (ms.modify q fun e => { e with key := a.eval k, val := a.eval x }) cl (by simpa using a4) ?_
            rw [Nat.zero_add] at a1
            rw [pre _ a1]
            have hq : ms[q]? = some m' := by rw [← Array.getElem?_toList]; exact a2
            have hst : (Instr.keyThatStays (((ms[q]?).map (·.key)).getD (a.eval k)) (a.eval k)).run P Γ.w = .ok (a.eval k) Γ.w := by
              rw [hq]
              unfold Instr.keyThatStays
              simp only [Option.map_some, Option.getD_some]
              rw [show (10000 : Nat) = 9999 + 1 from rfl, sameBits_of hkd a3]
              rfl
            simp only [Sem.run_bind, hst, Result.andThen_ok]
            exact hset _ _ h1
          · refine key (ms.push { key := a.eval k, val := a.eval x, born := cl }) (cl + 1) (by simpa using a2 cl) ?_
            rw [pre _ a1]
            exact hset _ _ h1
        · cases h
      · cases h
    · cases h
  · cases h

end Go.Ev
