/- Operations that change no memory. -/
import Derived.Test.YtelobnllkhnpaaaEvFill
namespace Go.Ev
set_option linter.unusedVariables false
set_option linter.unusedSimpArgs false

variable {P : Program} {C : Cfg} {Γ : Ctx} {t : Nat} {ti : TI} {base n0 f : Nat} {β : Nat → Nat} {s s' : St} {a : Act} {o : Oper} {K : Callee}

/-- An operation that yields a value and changes nothing. -/
def PureOk (P : Program) (Γ : Ctx) (β : Nat → Nat) (s : St) (a : Act) (o : Oper) (s' : St) : Prop :=
  ∃ x v, (execOp a.eval o).run P Γ.w = .ok (.value v) Γ.w ∧ RelX Γ β x v ∧ s' = s.put o.dst x

theorem add_zero' (b off : Nat) : (⟨b, 0, none⟩ : Addr).add off = ⟨b, off, none⟩ := by
  unfold Addr.add
  by_cases h : off = 0 <;> simp [h]
theorem add_off (b o n : Nat) : (⟨b, o, none⟩ : Addr).add n = ⟨b, o + n, none⟩ := by
  unfold Addr.add
  by_cases h : n = 0 <;> simp [h]
theorem add_nil (a : Addr) : a.add 0 = a := by unfold Addr.add; simp
theorem cell_at {w : World} {b j : Nat} {arr : Array Value} {T : TypeId} {fr : Nat × Nat} (h : w.heap[b]? = some (.cells arr T fr)) (hj : j < arr.size) : w.cell? ((⟨b, 0, none⟩ : Addr).add j) = some (arr.getD j undef) := by
  rw [add_zero']
  unfold World.cell?
  simp only [h]
  simp [Array.getD_eq_getD_getElem?, hj]

theorem RelS.locCells (R : RelS base n0 Γ β s a) {d : Nat} {xs : List AV} (h : look s.loc d = some xs) : ∃ g : Nat → Value, (∀ x, x ∈ xs → oneCell x = true) ∧ ∀ (j : Nat) (x : AV), xs[j]? = some x → Γ.w.cell? ((⟨β d, 0, none⟩ : Addr).add j) = some (g j) ∧ RelV Γ x (g j) := by
  obtain ⟨arr, T, h1, h2, h3, h4, _⟩ := R.loc d xs h
  refine ⟨fun j => arr.getD j undef, h3, fun j x hj => ⟨cell_at h1 ?_, h4 j x hj⟩⟩
  rcases Nat.lt_or_ge j xs.length with h' | h'
  · omega
  · rw [List.getElem?_eq_none h'] at hj; cases hj

theorem Inv.objCells (I : Inv base Γ) {id b T : Nat} {xs : List AV} (hb : Γ.ρ id = some b) (h : Γ.H[id]? = some (.cells T xs)) : ∃ g : Nat → Value, (∀ x, x ∈ xs → oneCell x = true) ∧ ∀ (j : Nat) (x : AV), xs[j]? = some x → Γ.w.cell? ((⟨b, 0, none⟩ : Addr).add j) = some (g j) ∧ RelV Γ x (g j) := by
  obtain ⟨arr, h1, h2, h3, h4⟩ := I.cells id b T xs hb h
  refine ⟨fun j => arr.getD j undef, h3, fun j x hj => ⟨cell_at h1 ?_, h4 j x hj⟩⟩
  rcases Nat.lt_or_ge j xs.length with h' | h'
  · omega
  · rw [List.getElem?_eq_none h'] at hj; cases hj

theorem hp_ptr {id n off : Nat} {v : Value} (h : RelV Γ (.hp id n off) v) {T : Nat} {xs : List AV} (hx : Γ.H[id]? = some (.cells T xs)) (hn : n = xs.length) : ∃ b, Γ.ρ id = some b ∧ v = .pointer (some ⟨b, off, none⟩) := by
  cases h with
  | hp hin h1 hh => exact (hh T xs hx).2 hn

theorem sl_slice {id sz off len : Nat} {v : Value} (h : RelV Γ (.sl id sz off len) v) {T : Nat} {xs : List AV} (hx : Γ.H[id]? = some (.cells T xs)) (hn : off + len * sz = xs.length) :
    ∃ (b c : Nat) (arr : Array Value) (T' : TypeId) (fr : Nat × Nat), Γ.ρ id = some b ∧ v = .slice (some ⟨b, off, none⟩) len c ∧ len ≤ c ∧ Γ.w.heap[b]? = some (.cells arr T' fr) ∧ off + c * sz ≤ arr.size := by
  cases h with
  | sl hin h1 hh => exact (hh T xs hx).2 hn

theorem put_of_map {x : Option Slot} (h : x.map (s.put o.dst) = some s') : ∃ y, x = some y ∧ s' = s.put o.dst y := by
  cases x with
  | none => cases h
  | some y => injection h with h; exact ⟨y, rfl, h.symm⟩
theorem putv_of_map {x : Option AV} (h : x.map (s.putv o.dst) = some s') : ∃ y, x = some y ∧ s' = s.put o.dst (.v y) := by
  cases x with
  | none => cases h
  | some y => injection h with h; exact ⟨y, rfl, h.symm⟩

theorem pure_move (R : RelS base n0 Γ β s a) {x : Operand} (ho : o.op = .move x ∨ o.op = .assign x) (h : oper C K f o s = some s') : PureOk P Γ β s a o s' := by
  have h' : (s.slot x).map (s.put o.dst) = some s' := by
    unfold oper at h
    rcases ho with ho | ho <;> (rw [ho] at h; exact h)
  obtain ⟨y, hy, e⟩ := put_of_map h'
  refine ⟨y, a.eval x, ?_, R.slot hy, e⟩
  unfold execOp
  rcases ho with ho | ho <;> rw [ho] <;> rfl

theorem pure_pick (R : RelS base n0 Γ β s a) {c x y : Operand} (ho : o.op = .pick c x y) (h : oper C K f o s = some s') : PureOk P Γ β s a o s' := by
  unfold oper at h
  rw [ho] at h
  dsimp only at h
  split at h
  · rename_i hc
    obtain ⟨z, hz, e⟩ := put_of_map h
    refine ⟨z, a.eval x, ?_, R.slot hz, e⟩
    have := R.val hc
    cases hv : a.eval c <;> rw [hv] at this <;> cases this
    unfold execOp
    rw [ho]
    simp [hv, asBool]
  · rename_i hc
    obtain ⟨z, hz, e⟩ := put_of_map h
    refine ⟨z, a.eval y, ?_, R.slot hz, e⟩
    have := R.val hc
    cases hv : a.eval c <;> rw [hv] at this <;> cases this
    unfold execOp
    rw [ho]
    simp [hv, asBool]
  · cases h

theorem pure_load (hT : TabOk P C.tab) (R : RelS base n0 Γ β s a) {t : TypeId} {x : Operand} (ho : o.op = .load t x) (h : oper C K f o s = some s') : PureOk P Γ β s a o s' := by
  unfold oper at h
  rw [ho] at h
  dsimp only at h
  have key : ∀ (ad : Addr) (v : Value) (r : AV), a.eval x = .pointer (some ad) → (loadVar t ad).run P Γ.w = .ok v Γ.w → RelV Γ r v → s' = s.put o.dst (.v r) → PureOk P Γ β s a o s' := by
    intro ad v r hx hv hr e
    refine ⟨.v r, v, ?_, hr, e⟩
    unfold execOp
    rw [ho]
    simp [hx, Instr.loadAt, Instr.sureAddr, hv]
  split at h
  · rename_i ti d off ht hx
    split at h
    · rename_i xs hl
      obtain ⟨r, hr, e⟩ := putv_of_map h
      obtain ⟨g, h1, h2⟩ := R.locCells hl
      obtain ⟨v, hv, hrel⟩ := load_sound (hT t ti ht) _ g h1 h2 off hr
      rw [add_zero'] at hv
      exact key _ v r (R.slot hx) hv hrel e
    · cases h
  · rename_i ti id n off ht hx
    split at h
    · rename_i T xs hH
      split at h
      · rename_i hn
        obtain ⟨r, hr, e⟩ := putv_of_map h
        have hH' : Γ.H[id]? = some (.cells T xs) := by rw [R.heap]; exact hH
        obtain ⟨b, hb, hv⟩ := hp_ptr (R.slot hx) hH' hn
        obtain ⟨g, h1, h2⟩ := R.inv.objCells hb hH'
        obtain ⟨v, hv', hrel⟩ := load_sound (hT t ti ht) _ g h1 h2 off hr
        rw [add_zero'] at hv'
        exact key _ v r hv hv' hrel e
      · cases h
    · cases h
  · rename_i ti xs ht hx
    obtain ⟨r, hr, e⟩ := putv_of_map h
    have hr' : RelV Γ (.rp xs) (a.eval x) := R.slot hx
    generalize hv : a.eval x = u at hr'
    cases hr' with
    | rp g h1 hmem hrel =>
      rename_i ad
      have h2 : ∀ (j : Nat) (x : AV), xs[j]? = some x → Γ.w.cell? (ad.add j) = some (g j) ∧ RelV Γ x (g j) := fun j x hj => by
        refine ⟨(hmem j ?_).1, (hrel j x hj).toV⟩
        rcases Nat.lt_or_ge j xs.length with h' | h'
        · exact h'
        · rw [List.getElem?_eq_none h'] at hj; cases hj
      obtain ⟨v, hv', hrel'⟩ := load_sound (hT t ti ht) ad g h1 h2 0 hr
      rw [add_nil] at hv'
      exact key _ v r hv hv' hrel' e
  · cases h

theorem pure_nilCheck (R : RelS base n0 Γ β s a) {x : Operand} (ho : o.op = .nilCheck x) (h : oper C K f o s = some s') : PureOk P Γ β s a o s' := by
  unfold oper at h
  rw [ho] at h
  dsimp only at h
  have key : ∀ (ad : Addr) (y : Slot), a.eval x = .pointer (some ad) → RelX Γ β y (a.eval x) → s' = s.put o.dst y → PureOk P Γ β s a o s' := by
    intro ad y hx hr e
    refine ⟨y, a.eval x, ?_, hr, e⟩
    unfold execOp
    rw [ho]
    simp [hx]
  split at h
  · rename_i d off hx
    injection h with h
    exact key _ _ (R.slot hx) (R.slot hx) h.symm
  · rename_i id n off hx
    injection h with h
    obtain ⟨ad, hv⟩ := somePtr_sound (a := .hp id n off) rfl (R.slot hx)
    exact key _ _ hv (R.slot hx) h.symm
  · rename_i xs hx
    injection h with h
    have hr' : RelV Γ (.rp xs) (a.eval x) := R.slot hx
    have h3 : ∃ ad, a.eval x = .pointer (some ad) := by
      generalize a.eval x = u at hr'
      cases hr'; exact ⟨_, rfl⟩
    obtain ⟨ad, hv⟩ := h3
    exact key _ _ hv (R.slot hx) h.symm
  · cases h

end Go.Ev
