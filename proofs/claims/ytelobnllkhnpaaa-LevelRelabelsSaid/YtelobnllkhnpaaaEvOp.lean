/- Variables of an activation's own; one operation, all told. -/
import Derived.Test.YtelobnllkhnpaaaEvOp9
namespace Go.Ev
set_option linter.unusedVariables false
set_option linter.unusedSimpArgs false

variable {P : Program} {C : Cfg} {Γ : Ctx} {t : Nat} {ti : TI} {base n0 f : Nat} {β : Nat → Nat} {s s' : St} {a : Act} {o : Oper} {K : Callee}

abbrev Went (lo n0 : Nat) (Γ Γ' : Ctx) : Prop := Ext lo (fun b => n0 ≤ b ∧ ¬ Γ.S b) Γ Γ'

theorem Went.refl {lo n0 : Nat} : Went lo n0 Γ Γ := Ext.refl _ _ _
theorem Went.trans {lo lo' n0 : Nat} {Γ Γ1 Γ2 : Ctx} (h : Went lo n0 Γ Γ1) (k : Went lo' n0 Γ1 Γ2) (hlo : lo ≤ lo') : Went lo n0 Γ Γ2 :=
  Ext.trans h k hlo fun b _ _ hB => ⟨hB.1, fun hs => hB.2 (h.stab b hs)⟩
theorem Went.of {lo n0 : Nat} {Γ Γ' : Ctx} (h : Ext lo (fun _ => False) Γ Γ') : Went lo n0 Γ Γ' := h.weaken (Nat.le_refl _) (fun _ _ e => e.elim)

/-- What an operation leaves. -/
def OpPost (base n0 : Nat) (Γ : Ctx) (s s' : St) (n : Nat) (a' : Act) (w' : World) : Prop :=
  ∃ Γ' β', Γ'.w = w' ∧ RelS base n0 Γ' β' s' a' ∧ Went s.lo n0 Γ Γ' ∧ a'.tmps.size = n ∧ s'.lo = s.lo ∧ s'.inRound = s.inRound

theorem put_size (a : Act) (d : Option Tmp) (v : Value) : (a.put d v).tmps.size = a.tmps.size := by
  cases d <;> simp [Act.put]
theorem put_lo (s : St) (d : Option Tmp) (x : Slot) : (s.put d x).lo = s.lo ∧ (s.put d x).inRound = s.inRound ∧ (s.put d x).heap = s.heap ∧ (s.put d x).loc = s.loc := by
  cases d <;> exact ⟨rfl, rfl, rfl, rfl⟩

theorem HeapPost.op (R : RelS base n0 Γ β s a) {d : Option Tmp} (hd : ∀ t, d = some t → t < a.tmps.size) {v : Value} {w' : World} (h : HeapPost base Γ β s d s' v w') : OpPost base n0 Γ s s' a.tmps.size (a.put d v) w' := by
  obtain ⟨Γ', x, e1, hext, hI, hx, e2⟩ := h
  subst e2
  exact ⟨Γ', β, e1, (R.ext hext hI).put d hd hx, Went.of hext, put_size _ _ _, (put_lo _ _ _).1, (put_lo _ _ _).2.1⟩

theorem look_kills (d t : Nat) : ∀ l : List (Nat × Slot), look (kills d l) t = (look l t).map (killP d)
  | [] => rfl
  | (k, x) :: l => by
    simp only [kills, look_cons]
    split
    · rfl
    · exact look_kills d t l

theorem heap_lt {w : World} {b : Nat} {o : Obj} (h : w.heap[b]? = some o) : b < w.heap.size := by
  rcases Nat.lt_or_ge b w.heap.size with h' | h'
  · exact h'
  · rw [Array.getElem?_eq_none h'] at h; cases h

/-- A variable is made. -/
theorem RelS.newLocal (R : RelS base n0 Γ β s a) {d : Tmp} (hd : d < a.tmps.size) {xs : List AV} {cs : Array Value} (hc : RelC Γ xs cs) (T : TypeId) :
    RelS base n0 { Γ with w := Γ.w.alloc (.cells cs T (0, 0)) } (fun x => if x = d then Γ.w.heap.size else β x)
      { s with env := (d, .p d 0) :: kills d s.env, loc := (d, xs) :: s.loc } (a.put (some d) (.pointer (some ⟨Γ.w.heap.size, 0, none⟩))) := by
  have hext := Ext.alloc 0 Γ (.cells cs T (0, 0))
  have hB : ∀ b, Γ.S b → ¬ (fun _ : Nat => False) b := fun _ _ h => h
  refine ⟨R.inv.alloc _, ⟨R.sz.1, by rw [alloc_size]; have := R.sz.2; omega⟩, R.heap, fun t x hx => ?_, fun d' ys hy => ?_, fun d1 d2 x1 x2 h1 h2 e => ?_, ?_⟩
  · simp only [look_cons] at hx
    simp only [Act.put, Array.size_setIfInBounds]
    split at hx
    · rename_i e
      subst e
      injection hx with hx; subst hx
      refine ⟨hd, ?_⟩
      simp [RelX, Array.getD_eq_getD_getElem?, hd]
    · rename_i e
      rw [look_kills] at hx
      obtain ⟨y, hy, rfl⟩ := Option.map_eq_some_iff.1 hx
      obtain ⟨h1, h2⟩ := R.env t y hy
      refine ⟨h1, ?_⟩
      have : (a.tmps.setIfInBounds d (.pointer (some ⟨Γ.w.heap.size, 0, none⟩))).getD t undef = a.tmps.getD t undef := by
        simp [Array.getD_eq_getD_getElem?, e]
      rw [this]
      cases y with
      | v av => exact RelV.ext hext R.inv hB h2
      | junk => trivial
      | p e' off =>
        by_cases hne' : e' = d
        · have : killP d (.p e' off) = .junk := by simp [killP, hne']
          rw [this]; trivial
        · have : killP d (.p e' off) = .p e' off := by simp [killP, hne']
          rw [this]
          show a.tmps.getD t undef = .pointer (some ⟨(if e' = d then Γ.w.heap.size else β e'), off, none⟩)
          rw [if_neg hne']
          exact h2
  · simp only [look_cons] at hy
    split at hy
    · rename_i e
      subst e
      injection hy with hy; subst hy
      simp only [if_true]
      refine ⟨cs, T, heap_push_new _ _, hc.1, hc.2.1, fun i x hx => (hc.2.2 i x hx).ext hext R.inv hB, fun id e => ?_, fun e => ?_, ?_, ?_⟩
      · have := (R.inv.dom id _ e).2.1; omega
      · have := R.inv.stab _ e; omega
      · have := R.sz; omega
      · exact R.sz.2
    · rename_i e
      have e' : ¬ d' = d := fun h => e h.symm
      simp only [if_neg e']
      obtain ⟨arr, T', h1, h2, h3, h4, h5, h6, h7, h8⟩ := R.loc d' ys hy
      exact ⟨arr, T', (heap_push_old (heap_lt h1)).trans h1, h2, h3, fun i x hx => (h4 i x hx).ext hext R.inv hB, h5, h6, h7, h8⟩
  · simp only [look_cons] at h1 h2
    by_cases c1 : d = d1 <;> by_cases c2 : d = d2
    · rw [← c1, ← c2]
    · rw [if_neg c2] at h2
      have c2' : ¬ d2 = d := fun h => c2 h.symm
      simp only [if_pos c1.symm, if_neg c2'] at e
      obtain ⟨arr, T', g1, _⟩ := R.loc d2 x2 h2
      have := heap_lt g1
      omega
    · rw [if_neg c1] at h1
      have c1' : ¬ d1 = d := fun h => c1 h.symm
      simp only [if_pos c2.symm, if_neg c1'] at e
      obtain ⟨arr, T', g1, _⟩ := R.loc d1 x1 h1
      have := heap_lt g1
      omega
    · rw [if_neg c1] at h1
      rw [if_neg c2] at h2
      have c1' : ¬ d1 = d := fun h => c1 h.symm
      have c2' : ¬ d2 = d := fun h => c2 h.symm
      simp only [if_neg c1', if_neg c2'] at e
      exact R.linj d1 d2 x1 x2 h1 h2 e
  · obtain ⟨rs, h1, hnd, h2⟩ := R.marks
    refine ⟨rs, h1, hnd, fun r hr => ?_⟩
    obtain ⟨h3, h4, h5, h6⟩ := h2 r hr
    exact ⟨(heap_push_old (heap_lt h3)).trans h3, h4, h5, h6⟩

/-- A variable is written. -/
theorem RelS.setLocal (R : RelS base n0 Γ β s a) {lo : Nat} {d : Tmp} {xs zs : List AV} (hl : look s.loc d = some xs) {arr cs : Array Value} {T : TypeId} (ha : Γ.w.heap[β d]? = some (.cells arr T (0, 0))) (hsz : cs.size = arr.size) (hzs : zs.length = xs.length)
    (h1 : ∀ x, x ∈ zs → oneCell x = true) (hr : ∀ (i : Nat) (x : AV), zs[i]? = some x → RelV Γ x (cs.getD i undef)) :
    RelS base n0 { Γ with w := { Γ.w with heap := Γ.w.heap.setIfInBounds (β d) (.cells cs T (0, 0)) } } β { s with loc := (d, zs) :: s.loc } a ∧ Went lo n0 Γ { Γ with w := { Γ.w with heap := Γ.w.heap.setIfInBounds (β d) (.cells cs T (0, 0)) } } := by
  obtain ⟨arr', T', g1, g2, g3, g4, g5, g6, g7, g8⟩ := R.loc d xs hl
  rw [ha] at g1
  injection g1 with g1; injection g1 with q1 q2 _; subst q1 q2
  have hlt := heap_lt ha
  have hext : Went lo n0 Γ { Γ with w := { Γ.w with heap := Γ.w.heap.setIfInBounds (β d) (.cells cs T (0, 0)) } } :=
    { Ext.refl lo (fun b => n0 ≤ b ∧ ¬ Γ.S b) Γ with
      sizes := fun b ar T2 fr h => by
        by_cases e : β d = b
        · subst e
          rw [ha] at h
          injection h with h; injection h with q1 q2 q3; subst q1 q2 q3
          exact ⟨cs, (0, 0), heap_set_same hlt, hsz⟩
        · exact ⟨ar, fr, (heap_set_other e).trans h, rfl⟩
      keep := fun b hb hρ hnB => heap_set_other fun e => hnB (e ▸ ⟨g8, g6⟩)
      barrier := fun id _ _ => ⟨rfl, rfl, fun b hb _ => heap_set_other fun e => g5 id (by rw [e]; exact hb)⟩
      size := by simp }
  have hB : ∀ b, Γ.S b → ¬ (n0 ≤ b ∧ ¬ Γ.S b) := fun b hs h => h.2 hs
  refine ⟨⟨R.inv.same hext hB rfl rfl rfl (fun id b e => heap_set_other fun h => g5 id (h ▸ e)), ⟨R.sz.1, by simpa using R.sz.2⟩, R.heap, fun t x hx => ?_, fun d' ys hy => ?_, fun d1 d2 x1 x2 h1 h2 e => ?_, ?_⟩, hext⟩
  · obtain ⟨k1, k2⟩ := R.env t x hx
    refine ⟨k1, ?_⟩
    cases x with
    | v av => exact RelV.ext hext R.inv hB k2
    | junk => trivial
    | p e' off => exact k2
  · simp only [look_cons] at hy
    split at hy
    · rename_i e
      subst e
      injection hy with hy; subst hy
      exact ⟨cs, T, heap_set_same hlt, by omega, h1, fun i x hx => (hr i x hx).ext hext R.inv hB, g5, g6, g7, g8⟩
    · rename_i e
      obtain ⟨arr2, T2, k1, k2, k3, k4, k5⟩ := R.loc d' ys hy
      refine ⟨arr2, T2, (heap_set_other fun h => e (R.linj d d' xs ys hl hy h)).trans k1, k2, k3, fun i x hx => (k4 i x hx).ext hext R.inv hB, k5⟩
  · have some_of : ∀ d' x', look ((d, zs) :: s.loc) d' = some x' → ∃ y, look s.loc d' = some y := fun d' x' h => by
      simp only [look_cons] at h
      split at h
      · rename_i e; subst e; exact ⟨xs, hl⟩
      · exact ⟨x', h⟩
    obtain ⟨y1, k1⟩ := some_of d1 x1 h1
    obtain ⟨y2, k2⟩ := some_of d2 x2 h2
    exact R.linj d1 d2 y1 y2 k1 k2 e
  · obtain ⟨rs, k1, hnd, k2⟩ := R.marks
    refine ⟨rs, k1, hnd, fun r hr => ?_⟩
    obtain ⟨h3, h4, h5, h6⟩ := k2 r hr
    refine ⟨(heap_set_other fun e => ?_).trans h3, h4, h5, h6⟩
    rw [← e, ha] at h3
    cases h3

theorem oper_sound (H : Hyp P C K) (R : RelS base n0 Γ β s a) (hd : ∀ t, o.dst = some t → t < a.tmps.size) {ro : Option Nat} {next : Act → World → Prop} {Q : Exit → Act → World → Prop} (h : oper C K f o s = some s')
    (hn : ∀ a' w', OpPost base n0 Γ s s' a.tmps.size a' w' → next a' w') : o.wpIn (Fw ro) 0 P a Γ.w next Q := by
  by_cases hl : ofLocal C f s o
  · unfold ofLocal at hl
    cases ho : o.op <;> rw [ho] at hl <;> first | exact hl.elim | skip
    case alloc t =>
      obtain ⟨d, hdd, hesc⟩ := hl
      unfold oper at h
      rw [ho, hdd] at h
      dsimp only at h
      split at h
      · rename_i ti d' ht hd'
        injection hd' with hd'; subst hd'
        rw [if_neg hesc] at h
        injection h with h
        obtain ⟨z, hz, h1, h2, h3⟩ := (H.tab _ _ ht).run_zero Γ.w
        have hc : RelC Γ ti.zero z.cells := .of_zero h2
        refine runs_wp (w' := Γ.w.alloc (.cells z.cells t (0, 0))) (v := .pointer (some ⟨Γ.w.heap.size, 0, none⟩)) (fun c e => by rw [ho] at e; cases e) (.inl ?_) (hn _ _ ⟨_, fun x => if x = d then Γ.w.heap.size else β x, rfl, ?_, Went.of (Ext.alloc s.lo Γ _), put_size _ _ _, ?_, ?_⟩)
        · unfold execOp
          rw [ho]
          dsimp only
          have : (Instr.alloc t true (.tuple #[])).run P Γ.w = .ok (.pointer (some ⟨Γ.w.heap.size, 0, none⟩)) (Γ.w.alloc (.cells z.cells t (0, 0))) := by
            unfold Instr.alloc
            simp only [Sem.run_bind, hz, Result.andThen_ok]
            rfl
          rw [Sem.run_bind, this]
          rfl
        · rw [← h, hdd]
          exact R.newLocal (hd d hdd) hc t
        · rw [← h]
        · rw [← h]
      · cases h
    case box t x =>
      obtain ⟨d, hdd, hesc⟩ := hl
      unfold oper at h
      rw [ho, hdd] at h
      dsimp only at h
      split at h
      · rename_i d' ys hd' hx
        injection hd' with hd'; subst hd'
        rw [if_neg hesc] at h
        injection h with h
        obtain ⟨v, hv, hc⟩ := Option.bind_eq_some_iff.1 hx
        have hc : RelC Γ ys (a.eval x).cells := cells_rel (R.val hv) hc
        refine runs_wp (w' := Γ.w.alloc (.cells (a.eval x).cells t (0, 0))) (v := .pointer (some ⟨Γ.w.heap.size, 0, none⟩)) (fun c e => by rw [ho] at e; cases e) (.inl ?_) (hn _ _ ⟨_, fun x => if x = d then Γ.w.heap.size else β x, rfl, ?_, Went.of (Ext.alloc s.lo Γ _), put_size _ _ _, ?_, ?_⟩)
        · unfold execOp
          rw [ho]
          rfl
        · rw [← h, hdd]
          exact R.newLocal (hd d hdd) hc t
        · rw [← h]
        · rw [← h]
      · cases h
    case store t x y =>
      obtain ⟨d, off, hsl⟩ := hl
      unfold oper at h
      rw [ho] at h
      dsimp only at h
      rw [hsl] at h
      split at h
      · rename_i ti d' off' ys ht hx hy
        injection hx with hx; injection hx with e1 e2; subst e1 e2
        split at h
        · rename_i xs hloc
          split at h
          · rename_i hc
            injection h with h
            obtain ⟨c1, c2⟩ := hc
            obtain ⟨arr, T, g1, g2, g3, g4, g5⟩ := R.loc d xs hloc
            obtain ⟨yv, hyv, hyc⟩ := Option.bind_eq_some_iff.1 hy
            have hr := R.val hyv
            have hfit : off + ys.length ≤ xs.length := by omega
            obtain ⟨q1, q2, q3⟩ := cells_rel hr hyc
            have hst := store_sound (w := Γ.w) (off := off) (H.tab _ _ ht) g1 hr hyc c1 (by omega)
            have hsz : (arr.toList.take off ++ (a.eval y).cells.toList ++ arr.toList.drop (off + ys.length)).toArray.size = arr.size := by
              simp [q1]; omega
            obtain ⟨hR, hW⟩ := R.setLocal (lo := s.lo) (zs := setCells xs off ys) hloc g1 hsz (setCells_length _ _ _ hfit) (fun z hz => by
              rcases setCells_mem hz with hz | hz
              · exact g3 z hz
              · exact q2 z hz) (splice_rel hr hyc hfit (by omega) g4)
            refine runs_wp (v := undef) (fun c e => by rw [ho] at e; cases e) (.inr ⟨?_, rfl⟩) (hn _ _ ⟨_, β, rfl, ?_, hW, put_size _ _ _, ?_, ?_⟩)
            · unfold execOp
              rw [ho]
              dsimp only
              have hp : a.eval x = .pointer (some ⟨β d, off, none⟩) := R.slot hsl
              have : (Instr.storeAt t (a.eval x) (a.eval y)) = storeVar t ⟨β d, off, none⟩ (a.eval y) := by
                rw [hp]
                unfold Instr.storeAt Instr.sureAddr
                rw [pure_bind]
              rw [this, Sem.run_bind, hst]
              rfl
            · rw [← h]
              exact hR.put o.dst hd (x := .v (.tup [])) (RelV.tup rfl (by simp))
            · rw [← h]; exact (put_lo _ _ _).1
            · rw [← h]; exact (put_lo _ _ _).2.1
          · cases h
        · cases h
      · rename_i hx _; cases hx
      · cases h
  · exact oper_heap H R hl h fun v w' hp => hn _ _ (hp.op R hd)

end Go.Ev
