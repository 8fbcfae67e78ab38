/- Operations on numbers, bools, strings; equality. -/
import Derived.Test.YtelobnllkhnpaaaEvVal
import Derived.Laws.StructEq
import Derived.WalkSpells
namespace Go.Ev
set_option linter.unusedVariables false
set_option linter.unusedSimpArgs false

structure EqOk (P : Program) (t : Nat) : Prop where
  st : P.underlying t = some (.struct (P.fieldsOf t))
  guard : P.eqGuardType P.depth t = false
  held : P.stoodInHeld t = false
  flds : ∀ (i : Nat) (f : Field), (P.fieldsOf t)[i]? = some f → f.name ≠ "_" ∧ f.offset = i ∧ ∃ d, P.underlying f.type = some d ∧ ((∃ k, d = .int k) ∨ d = .bool ∨ d = .string)

variable {P : Program} {Γ : Ctx} {w : World} {t : Nat} {ti : TI} {T : Tab} {base : Nat}

theorem int_sound {op : BinOp} {k : IntKind} {a b : Int} {r : AV} (h : intOp op k a b = some r) (h1 : op ≠ .shl) (h2 : op ≠ .shr) (t : TypeId) : ∃ v, (binOp op t (.int k a) (.int k b)).run P w = .ok v w ∧ RelV Γ r v := by
  cases op <;> simp only [intOp] at h
  case add => injection h with h; subst h; exact ⟨_, by simp [binOp, Op.intArith], .int _ _⟩
  case sub => injection h with h; subst h; exact ⟨_, by simp [binOp, Op.intArith], .int _ _⟩
  case mul => injection h with h; subst h; exact ⟨_, by simp [binOp, Op.intArith], .int _ _⟩
  case quo =>
    split at h
    · cases h
    · rename_i hb; injection h with h; subst h; exact ⟨_, by simp [binOp, Op.intDiv, hb], .int _ _⟩
  case rem =>
    split at h
    · cases h
    · rename_i hb; injection h with h; subst h; exact ⟨_, by simp [binOp, Op.intDiv, hb], .int _ _⟩
  case and => simp only [bitsOf, Option.map_some, Option.some.injEq] at h; subst h; exact ⟨_, by simp [binOp, Op.intBits], .int _ _⟩
  case or => simp only [bitsOf, Option.map_some, Option.some.injEq] at h; subst h; exact ⟨_, by simp [binOp, Op.intBits], .int _ _⟩
  case xor => simp only [bitsOf, Option.map_some, Option.some.injEq] at h; subst h; exact ⟨_, by simp [binOp, Op.intBits], .int _ _⟩
  case andNot => simp only [bitsOf, Option.map_some, Option.some.injEq] at h; subst h; exact ⟨_, by simp [binOp, Op.intBits], .int _ _⟩
  case shl => exact absurd rfl h1
  case shr => exact absurd rfl h2
  case eql => injection h with h; subst h; exact ⟨_, by simp [binOp, Op.intCmp], .bool _⟩
  case neq => injection h with h; subst h; exact ⟨_, by simp [binOp, Op.intCmp], .bool _⟩
  case lss => injection h with h; subst h; exact ⟨_, by simp [binOp, Op.intCmp], .bool _⟩
  case leq => injection h with h; subst h; exact ⟨_, by simp [binOp, Op.intCmp], .bool _⟩
  case gtr => injection h with h; subst h; exact ⟨_, by simp [binOp, Op.intCmp], .bool _⟩
  case geq => injection h with h; subst h; exact ⟨_, by simp [binOp, Op.intCmp], .bool _⟩

theorem str_sound {op : BinOp} {a b : ByteArray} {r : AV} (h : strOp op a b = some r) (t : TypeId) : ∃ v, (binOp op t (.string a) (.string b)).run P w = .ok v w ∧ RelV Γ r v := by
  cases op <;> simp only [strOp] at h <;> first | (cases h; done) | skip
  case add =>
    split at h
    · rename_i hb
      injection h with h; subst h
      refine ⟨.string (a ++ b), ?_, .str _⟩
      have : ¬ (((a.size + b.size : Nat) : Int) > IntKind.i64.max) := by
        have e : IntKind.i64.max = 9223372036854775807 := by decide
        rw [e]; omega
      simp only [binOp, Op.stringOp, this, if_false, Sem.run_pure]
    · cases h
  all_goals (injection h with h; subst h; exact ⟨_, by simp [binOp, Op.stringOp], .bool _⟩)

theorem shift_sound {op : BinOp} {k k' : IntKind} {a b : Int} {r : AV} (h : shiftOp op k a b = some r) (ho : op = .shl ∨ op = .shr) (t : TypeId) : ∃ v, (binOp op t (.int k a) (.int k' b)).run P w = .ok v w ∧ RelV Γ r v := by
  unfold shiftOp at h
  split at h
  · cases h
  · rename_i hb
    rcases ho with rfl | rfl
    · injection h with h; subst h
      exact ⟨_, by simp only [binOp, Op.shift, hb, if_false, Sem.run_pure], .int _ _⟩
    · injection h with h; subst h
      exact ⟨_, by simp only [binOp, Op.shift, hb, if_false, Sem.run_pure], .int _ _⟩

theorem keyEq_sound {kk : TK} {x y : AV} {r : Bool} {v u : Value} (h : keyEq kk x y = some r) (hx : RelV Γ x v) (hy : RelV Γ y u) (ht : TIOk P t ti) (hk : ti.kind = kk) (n : Nat) : (Op.equalIn (n + 1) t v u).run P w = .ok r w := by
  unfold keyEq at h
  split at h
  · split at h
    · rename_i e; subst e
      injection h with h; subst h
      cases hx; cases hy
      exact run_equalIn_int w n t _ _ _ _ (ht.int hk)
    · cases h
  · injection h with h; subst h
    cases hx; cases hy
    exact run_equalIn_bool' w n t _ _ (ht.bool hk)
  · injection h with h; subst h
    cases hx; cases hy
    rw [run_equalIn_string w n t _ _ (ht.str hk), beq_toListBytes]
  · cases h

theorem eqAll_sound (hT : TabOk P T) (n : Nat) (vs us : Array Value) : ∀ (fs : List Field) (k : Nat) (xs ys : List AV) (r : Bool), eqAll T (fs.map fun f => (f.offset, f.type)) xs ys = some r →
    (∀ (i : Nat) (f : Field), fs[i]? = some f → f.name ≠ "_" ∧ f.offset = k + i) → (∀ (i : Nat) (x : AV), xs[i]? = some x → RelV Γ x (vs.getD (k + i) undef)) → (∀ (i : Nat) (x : AV), ys[i]? = some x → RelV Γ x (us.getD (k + i) undef)) →
    k + xs.length ≤ vs.size → k + ys.length ≤ us.size → (Op.eqFields (n + 1) vs us fs).run P w = .ok r w
  | [], k, xs, ys, r, h, _, _, _, _, _ => by
    cases xs <;> cases ys <;> simp [eqAll] at h
    subst h; rfl
  | f :: fs, k, xs, ys, r, h, hf, hx, hy, hvs, hus => by
    cases xs with
    | nil => simp [eqAll] at h
    | cons x xs =>
    cases ys with
    | nil => simp [eqAll] at h
    | cons y ys =>
      simp only [List.map_cons, eqAll] at h
      cases hl : look T f.type with
      | none => rw [hl] at h; cases h
      | some ti =>
        rw [hl] at h
        have ht := hT _ _ hl
        obtain ⟨h1, h2⟩ := hf 0 f rfl
        simp at hvs hus
        have hx0 := hx 0 x rfl
        have hy0 := hy 0 y rfl
        have ea : ∀ (w : World) (A : Array Value), k < A.size → ti.kind.isAgg = false → (_root_.Go.part f.type A f.offset).run P w = .ok (A.getD (k + 0) undef) w := by
          intro w A hA hag
          unfold Go.part
          simp only [Sem.run_bind, ht.run_agg, Result.andThen_ok, hag, Bool.false_eq_true, if_false]
          have e : A[f.offset]? = some (A.getD (k + 0) undef) := by
            rw [h2]; simp [Array.getD_eq_getD_getElem?, hA]
          rw [e]; rfl
        have hkk : ∀ b, keyEq ti.kind x y = some b → ti.kind.isAgg = false := by
          intro b hb; unfold keyEq at hb; split at hb <;> first | (rename_i e1 _ _; rw [e1]; rfl) | (rename_i e1; rw [e1]; rfl) | (cases hb; done) | rfl | skip
          all_goals first | rfl | skip
        have hg : ∀ (i : Nat) (f : Field), fs[i]? = some f → f.name ≠ "_" ∧ f.offset = k + 1 + i := fun i f' hf' => by
          have := hf (i + 1) f' (by simpa using hf'); exact ⟨this.1, by omega⟩
        have hx' : ∀ (i : Nat) (z : AV), xs[i]? = some z → RelV Γ z (vs.getD (k + 1 + i) undef) := fun i z hz => by
          have := hx (i + 1) z (by simpa using hz); rwa [show k + (i + 1) = k + 1 + i by omega] at this
        have hy' : ∀ (i : Nat) (z : AV), ys[i]? = some z → RelV Γ z (us.getD (k + 1 + i) undef) := fun i z hz => by
          have := hy (i + 1) z (by simpa using hz); rwa [show k + (i + 1) = k + 1 + i by omega] at this
        dsimp only at h
        cases hb : keyEq ti.kind x y with
        | none => rw [hb] at h; cases h
        | some b =>
          rw [hb] at h
          have hag := hkk b hb
          have hrun := keyEq_sound (w := w) hb hx0 hy0 ht rfl n
          unfold Op.eqFields
          rw [if_pos h1]
          simp only [Sem.run_bind, ea w vs (by omega) hag, ea w us (by omega) hag, Result.andThen_ok, hrun]
          cases b with
          | true =>
            simp only [Bool.not_true, Bool.false_eq_true, if_false]
            exact eqAll_sound hT n vs us fs (k + 1) xs ys r h hg hx' hy' (by omega) (by omega)
          | false =>
            injection h with h; subst h
            simp

end Go.Ev
