/- What the table of types must say; the runs of the model's own words on types and cells. -/
import Derived.Test.YtelobnllkhnpaaaEvStep
import Derived.Laws.Entries
namespace Go.Ev
set_option linter.unusedVariables false
set_option linter.unusedSimpArgs false

def KindOk : TK → TypeDesc → Prop
  | .int k, .int k' => k' = k
  | .bool, .bool => True
  | .str, .string => True
  | .slice e, .slice e' => e' = e
  | .struct fs, .struct gs => gs.toList.map (fun f => (f.offset, f.type)) = fs
  | .ptr, .pointer _ => True
  | .map k e, .map k' e' => k' = k ∧ e' = e
  | .func, .func _ _ _ => True
  | .iface, .interface _ => True
  | _, _ => False

def zShape : Value → Option Bool
  | .agg _ => some true
  | .tuple _ => none
  | _ => some false

structure TIOk (P : Program) (t : Nat) (ti : TI) : Prop where
  info : ∃ i : TypeInfo, P.info? t = some i ∧ i.size = ti.sz ∧ i.bytes = ti.bytes ∧ ∃ z, i.zero = some z ∧ z.cells.size = ti.sz ∧ z.cells.toList.mapM simpleV = some ti.zero ∧ zShape z = some ti.kind.isAgg
  kind : ∃ d, P.underlying t = some d ∧ KindOk ti.kind d
  flds : ∀ gs, P.underlying t = some (.struct gs) → ∀ g, g ∈ gs.toList → ∃ i : TypeInfo, P.info? g.type = some i
def TabOk (P : Program) (T : Tab) : Prop := ∀ t ti, look T t = some ti → TIOk P t ti

variable {P : Program} {Γ : Ctx} {w : World} {t : Nat} {ti : TI}

theorem simpleV_rel {v : Value} {a : AV} (h : simpleV v = some a) : RelV Γ a v ∧ oneCell a = true ∧ v.oneCell' = true := by
  unfold simpleV at h
  split at h <;> first | (injection h with h; subst h; exact ⟨by constructor, rfl, rfl⟩) | cases h

theorem mapM_simple : ∀ {l : List Value} {xs : List AV}, l.mapM simpleV = some xs → xs.length = l.length ∧ (∀ x, x ∈ xs → oneCell x = true) ∧ (∀ v, v ∈ l → v.oneCell' = true) ∧ ∀ (i : Nat) (x : AV), xs[i]? = some x → ∃ v, l[i]? = some v ∧ RelV Γ x v
  | [], xs, h => by simp at h; subst h; simp
  | v :: l, xs, h => by
    rw [List.mapM_cons] at h
    cases h1 : simpleV v with
    | none => rw [h1] at h; cases h
    | some a =>
      rw [h1] at h
      cases h2 : l.mapM simpleV with
      | none => rw [h2] at h; cases h
      | some ys =>
        rw [h2] at h
        injection h with h
        subst h
        obtain ⟨h3, h4, h5, h6⟩ := mapM_simple h2
        obtain ⟨r1, r2, r3⟩ := simpleV_rel (Γ := Γ) h1
        refine ⟨by simp [h3], fun x hx => ?_, fun x hx => ?_, fun i x hx => ?_⟩
        · rcases List.mem_cons.1 hx with rfl | hx
          · exact r2
          · exact h4 x hx
        · rcases List.mem_cons.1 hx with rfl | hx
          · exact r3
          · exact h5 x hx
        · cases i with
          | zero => simp at hx; subst hx; exact ⟨v, rfl, r1⟩
          | succ i => simp at hx; simpa using h6 i x hx

theorem constV_rel {v : Value} {a : AV} (h : constV v = some a) : RelV Γ a v := by
  unfold constV at h
  split at h
  · rename_i cs
    cases h1 : cs.toList.mapM simpleV with
    | none => rw [h1] at h; cases h
    | some xs =>
      rw [h1] at h
      injection h with h
      subst h
      obtain ⟨h3, h4, _, h6⟩ := mapM_simple (Γ := Γ) h1
      refine .agg (by simpa using h3.symm) h4 fun i x hx => ?_
      obtain ⟨v, hv, hr⟩ := h6 i x hx
      have : cs.getD i undef = v := by rw [Array.getD_eq_getD_getElem?, ← Array.getElem?_toList, hv]; rfl
      rw [this]; exact hr
  · rename_i f first caps
    split at h
    · rename_i hc
      injection h with h
      subst h
      simp only [Bool.and_eq_true, Array.isEmpty_iff] at hc
      obtain ⟨rfl, rfl⟩ := hc
      exact .fn rfl (by simp)
    · cases h
  · exact (simpleV_rel h).1

theorem TIOk.run_info (h : TIOk P t ti) (w : World) : ∃ i : TypeInfo, (typeInfo t).run P w = .ok i w ∧ i.size = ti.sz ∧ i.bytes = ti.bytes := by
  obtain ⟨i, h1, h2, h3, _⟩ := h.info
  exact ⟨i, by simp [typeInfo, h1], h2, h3⟩
theorem TIOk.run_size (h : TIOk P t ti) (w : World) : (sizeOf t).run P w = .ok ti.sz w := by
  obtain ⟨i, h1, h2, _⟩ := h.run_info w
  simp [sizeOf, h1, h2]
theorem TIOk.run_agg (h : TIOk P t ti) (w : World) : (isAgg t).run P w = .ok ti.kind.isAgg w := by
  obtain ⟨d, h1, h2⟩ := h.kind
  unfold isAgg
  simp only [Sem.run_bind, run_underlying h1, Result.andThen_ok]
  cases d <;> cases hk : ti.kind <;> rw [hk] at h2 <;> first | exact h2.elim | rfl
theorem TIOk.run_zero (h : TIOk P t ti) (w : World) : ∃ z, (zeroValue t).run P w = .ok z w ∧ z.cells.size = ti.sz ∧ z.cells.toList.mapM simpleV = some ti.zero ∧ zShape z = some ti.kind.isAgg := by
  obtain ⟨i, h1, _, _, z, h4, h5, h6⟩ := h.info
  exact ⟨z, by simp [zeroValue, typeInfo, h1, h4], h5, h6⟩
theorem TIOk.slice (h : TIOk P t ti) {e : Nat} (hk : ti.kind = .slice e) : P.underlying t = some (.slice e) := by
  obtain ⟨d, h1, h2⟩ := h.kind
  rw [hk] at h2
  cases d <;> first | exact h2.elim | (rw [h1]; exact congrArg (fun x => some (TypeDesc.slice x)) h2)
theorem TIOk.str (h : TIOk P t ti) (hk : ti.kind = .str) : P.underlying t = some .string := by
  obtain ⟨d, h1, h2⟩ := h.kind
  rw [hk] at h2
  cases d <;> first | exact h2.elim | exact h1
theorem TIOk.int (h : TIOk P t ti) {k : IntKind} (hk : ti.kind = .int k) : P.underlying t = some (.int k) := by
  obtain ⟨d, h1, h2⟩ := h.kind
  rw [hk] at h2
  cases d <;> first | exact h2.elim | (rw [h1]; exact congrArg (fun x => some (TypeDesc.int x)) h2)
theorem TIOk.bool (h : TIOk P t ti) (hk : ti.kind = .bool) : P.underlying t = some .bool := by
  obtain ⟨d, h1, h2⟩ := h.kind
  rw [hk] at h2
  cases d <;> first | exact h2.elim | exact h1
theorem TIOk.struct (h : TIOk P t ti) {fs : List (Nat × Nat)} (hk : ti.kind = .struct fs) : ∃ gs, P.underlying t = some (.struct gs) ∧ gs.toList.map (fun f => (f.offset, f.type)) = fs := by
  obtain ⟨d, h1, h2⟩ := h.kind
  rw [hk] at h2
  cases d <;> first | exact h2.elim | exact ⟨_, h1, h2⟩
theorem TIOk.map (h : TIOk P t ti) {k e : Nat} (hk : ti.kind = .map k e) : P.underlying t = some (.map k e) := by
  obtain ⟨d, h1, h2⟩ := h.kind
  rw [hk] at h2
  cases d <;> first | exact h2.elim | (rw [h1]; obtain ⟨rfl, rfl⟩ := h2; rfl)
theorem TIOk.ptr (h : TIOk P t ti) (hk : ti.kind = .ptr) : ∃ e, P.underlying t = some (.pointer e) := by
  obtain ⟨d, h1, h2⟩ := h.kind
  rw [hk] at h2
  cases d <;> first | exact h2.elim | exact ⟨_, h1⟩
theorem TIOk.func (h : TIOk P t ti) (hk : ti.kind = .func) : ∃ a b c, P.underlying t = some (.func a b c) := by
  obtain ⟨d, h1, h2⟩ := h.kind
  rw [hk] at h2
  cases d <;> first | exact h2.elim | exact ⟨_, _, _, h1⟩

end Go.Ev
