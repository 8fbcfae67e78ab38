/- Comparisons with nil, of structs; operators with one operand; least and greatest. -/
import Derived.Test.YtelobnllkhnpaaaEvBin
namespace Go.Ev
set_option linter.unusedVariables false
set_option linter.unusedSimpArgs false

variable {P : Program} {Γ : Ctx} {w : World} {t : Nat} {ti : TI} {T : Tab} {base : Nat}

theorem equal_unfold (t : TypeId) (v u : Value) : Op.equal t v u = Op.equalIn (9999 + 1) t v u := rfl

theorem someRow_sound {a : AV} {v : Value} (h : someRow a = true) (r : RelV Γ a v) : ∃ ad n c, v = .slice (some ad) n c := by
  unfold someRow at h
  split at h
  · cases r with
    | sl hin h1 hh => obtain ⟨ad, c, e⟩ := h1; exact ⟨_, _, _, e⟩
  · cases r with
    | vs hT => cases hT with
     | vs g hn hc hsz hA hmem hrel =>
      obtain ⟨ad, e⟩ := hA (by rw [hn]; simp)
      exact ⟨ad, _, _, by rw [e]⟩
  · cases h

theorem somePtr_sound {a : AV} {v : Value} (h : somePtr a = true) (r : RelV Γ a v) : ∃ ad, v = .pointer (some ad) := by
  unfold somePtr at h
  split at h
  · cases r with
    | hp hin h1 hh => exact h1
  · cases r with
    | rp g h1 hmem hrel => exact ⟨_, rfl⟩
  · cases h

theorem eqv_sound (ht : TIOk P t ti) {a b : AV} {v u : Value} {r : Bool} (h : eqv ti.kind a b = some r) (ra : RelV Γ a v) (rb : RelV Γ b u) (n : Nat) : (Op.equalIn (n + 1) t v u).run P w = .ok r w := by
  unfold eqv at h
  split at h
  · rename_i hk
    injection h with h; subst h
    cases ra; cases rb
    exact run_equalIn_bool' w n t _ _ (ht.bool hk)
  · rename_i hk
    injection h with h; subst h
    cases ra; cases rb
    obtain ⟨e, he⟩ := ht.ptr hk
    simp [Op.equalIn, run_underlying he]
  · rename_i hk _
    split at h
    · rename_i hs
      injection h with h; subst h
      obtain ⟨ad, rfl⟩ := somePtr_sound hs ra
      cases rb
      obtain ⟨e, he⟩ := ht.ptr hk
      simp [Op.equalIn, run_underlying he]
    · cases h
  · rename_i e hk
    injection h with h; subst h
    cases ra; cases rb
    simp [Op.equalIn, run_underlying (ht.slice hk)]
  · rename_i e hk _
    split at h
    · rename_i hs
      injection h with h; subst h
      obtain ⟨ad, m, c, rfl⟩ := someRow_sound hs ra
      cases rb
      simp [Op.equalIn, run_underlying (ht.slice hk)]
    · cases h
  · rename_i k e hk
    injection h with h; subst h
    cases ra; cases rb
    simp [Op.equalIn, run_underlying (ht.map hk)]
  · rename_i hk
    injection h with h; subst h
    cases ra; cases rb
    obtain ⟨_, _, _, he⟩ := ht.func hk
    simp [Op.equalIn, run_underlying he]
  · rename_i hk
    injection h with h; subst h
    cases ra; cases rb
    obtain ⟨_, _, _, he⟩ := ht.func hk
    simp [Op.equalIn, run_underlying he]
  · cases h

theorem eqStruct_sound (hT : TabOk P T) {eqs : List Nat} (hE : ∀ t, t ∈ eqs → EqOk P t) {xs ys : List AV} {vs us : Array Value} {r : Bool} (h : eqStruct T eqs t xs ys = some r) (hx : RelV Γ (.agg xs) (.agg vs)) (hy : RelV Γ (.agg ys) (.agg us)) :
    (Op.equalIn 10000 t (.agg vs) (.agg us)).run P w = .ok r w ∧ P.eqGuardType P.depth t = false := by
  unfold eqStruct at h
  split at h
  · rename_i hm
    have hok := hE t hm
    split at h
    · rename_i sz by_ zr fs hl
      have ht := hT t _ hl
      obtain ⟨gs, hg, hfs⟩ := ht.struct rfl
      have hgs : gs = P.fieldsOf t := by
        have := hok.st
        rw [hg] at this
        injection this with this; injection this
      subst hgs
      refine ⟨?_, hok.guard⟩
      rw [run_equalIn_agg w 9999 t vs us hok.st hok.held]
      cases hx with
      | agg hn h1 hrel =>
        cases hy with
        | agg hn' h1' hrel' =>
          refine eqAll_sound hT 9998 vs us _ 0 xs ys r (by rw [hfs]; exact h) (fun i f hf => ?_) (fun i x hx => by simpa using hrel i x hx) (fun i x hx => by simpa using hrel' i x hx) (by omega) (by omega)
          have := hok.flds i f (by simpa using hf)
          exact ⟨this.1, by omega⟩
    · cases h
  · cases h

theorem eqGuard_plain {op : BinOp} {v u : Value} (h : ∀ xs, v ≠ .agg xs) (h' : v ≠ .nilIface) (t : TypeId) (x y : Operand) : eqGuard op t x y v u = pure () := by
  cases v <;> first | (exact absurd rfl (h _)) | (exact absurd rfl h') | skip
  all_goals first
    | exact eqGuard_at_int _ _ | exact eqGuard_at_bool _ | exact eqGuard_at_string _ | exact eqGuard_at_pointer _ | exact eqGuard_at_slice _ _ _ | exact eqGuard_at_map _ | exact eqGuard_at_func _ _ _ | exact eqGuard_at_nilFunc | (cases op <;> rfl)

theorem binop_eql_plain {v u : Value} (hv : ∀ k n, v ≠ .int k n) (hs : ∀ s, v ≠ .string s) (hf : ∀ k n, v ≠ .float k n) (hc : ∀ k n m, v ≠ .complex k n m) (t : TypeId) :
    (Go.binOp .eql t v u) = (do pure (.bool (← Op.equal t v u))) ∧ (Go.binOp .neq t v u) = (do pure (.bool (!(← Op.equal t v u)))) := by
  cases v <;> first
    | exact absurd rfl (hv _ _) | exact absurd rfl (hs _) | exact absurd rfl (hf _ _) | exact absurd rfl (hc _ _ _)
    | (cases u <;> exact ⟨rfl, rfl⟩)

def plainV : Value → Bool
  | .bool _ | .pointer _ | .slice .. | .map _ | .nilFunc | .func .. => true
  | _ => false

theorem eqv_form {k : TK} {a b : AV} {v : Value} {r : Bool} (h : eqv k a b = some r) (ra : RelV Γ a v) : plainV v = true := by
  have h1 : somePtr a = true → plainV v = true := fun hs => by obtain ⟨ad, rfl⟩ := somePtr_sound hs ra; rfl
  have h2 : someRow a = true → plainV v = true := fun hs => by obtain ⟨ad, m, c, rfl⟩ := someRow_sound hs ra; rfl
  unfold eqv at h
  split at h
  · cases ra; rfl
  · cases ra; rfl
  · exact h1 (Option.ite_none_right_eq_some.1 h).1
  · cases ra; rfl
  · exact h2 (Option.ite_none_right_eq_some.1 h).1
  · cases ra; rfl
  · cases ra; rfl
  · cases ra; rfl
  · cases h

theorem plain_eq {v : Value} (h : plainV v = true) (op : BinOp) (t : TypeId) (x y : Operand) (u : Value) : eqGuard op t x y v u = pure () ∧
    (Go.binOp .eql t v u) = (do pure (.bool (← Op.equal t v u))) ∧ (Go.binOp .neq t v u) = (do pure (.bool (!(← Op.equal t v u)))) := by
  cases v <;> first | (cases h; done) | skip
  all_goals refine ⟨by cases op <;> rfl, ?_⟩
  all_goals cases u <;> exact ⟨rfl, rfl⟩

theorem binop_sound (hT : TabOk P T) {eqs : List Nat} (hE : ∀ t, t ∈ eqs → EqOk P t) {op : BinOp} {x y r : AV} {v u : Value} (h : binop T eqs op t x y = some r) (rx : RelV Γ x v) (ry : RelV Γ y u) (X Y : Operand) :
    ∃ z, (do eqGuard op t X Y v u; Go.binOp op t v u : Sem Value).run P w = .ok z w ∧ RelV Γ r z := by
  unfold binop at h
  split at h
  · cases rx; cases ry
    rw [eqGuard_at_int]
    exact shift_sound h (k' := by assumption) (.inl rfl) t
  · cases rx; cases ry
    rw [eqGuard_at_int]
    exact shift_sound h (k' := by assumption) (.inr rfl) t
  · rename_i n1 n2
    split at h
    · rename_i e; subst e
      cases rx; cases ry
      rw [eqGuard_at_int]
      by_cases h1 : op = .shl
      · subst h1; exact (n1 rfl).elim
      · by_cases h2 : op = .shr
        · subst h2; exact (n2 rfl).elim
        · exact int_sound h h1 h2 t
    · cases h
  · cases rx; cases ry
    rw [eqGuard_at_string]
    exact str_sound h t
  · simp only [Option.map_eq_some_iff] at h
    obtain ⟨b, hb, rfl⟩ := h
    cases rx with
    | agg hn h1 hr =>
      cases ry with
      | agg hn' h1' hr' =>
        obtain ⟨e1, e2⟩ := eqStruct_sound (w := w) hT hE hb (.agg hn h1 hr) (.agg hn' h1' hr')
        refine ⟨.bool b, ?_, .bool _⟩
        simp only [Sem.run_bind, run_eqGuard_agg _ _ _ _ _ _ _ e2, Result.andThen_ok, run_eql_struct, e1]
  · simp only [Option.map_eq_some_iff] at h
    obtain ⟨b, hb, rfl⟩ := h
    cases rx with
    | agg hn h1 hr =>
      cases ry with
      | agg hn' h1' hr' =>
        obtain ⟨e1, e2⟩ := eqStruct_sound (w := w) hT hE hb (.agg hn h1 hr) (.agg hn' h1' hr')
        refine ⟨.bool (!b), ?_, .bool _⟩
        simp only [Sem.run_bind, run_eqGuard_agg _ _ _ _ _ _ _ e2, Result.andThen_ok, run_neq_struct, e1]
  · split at h
    · rename_i ti hl
      simp only [Option.map_eq_some_iff] at h
      obtain ⟨b, hb, rfl⟩ := h
      obtain ⟨e1, e2, e3⟩ := plain_eq (eqv_form hb rx) .eql t X Y u
      have e4 := eqv_sound (w := w) (hT t ti hl) hb rx ry 9999
      refine ⟨.bool b, ?_, .bool _⟩
      rw [e1, e2]
      simp only [Sem.run_bind, Sem.run_pure, Result.andThen_ok]
      have e5 : (Op.equal t v u).run P w = .ok b w := e4
      rw [e5]; rfl
    · cases h
  · split at h
    · rename_i ti hl
      simp only [Option.map_eq_some_iff] at h
      obtain ⟨b, hb, rfl⟩ := h
      obtain ⟨e1, e2, e3⟩ := plain_eq (eqv_form hb rx) .neq t X Y u
      have e4 := eqv_sound (w := w) (hT t ti hl) hb rx ry 9999
      refine ⟨.bool (!b), ?_, .bool _⟩
      rw [e1, e3]
      simp only [Sem.run_bind, Sem.run_pure, Result.andThen_ok]
      have e5 : (Op.equal t v u).run P w = .ok b w := e4
      rw [e5]; rfl
    · cases h
  · cases h

theorem unop_sound {op : UnOp} {x r : AV} {v : Value} (h : unop op x = some r) (rx : RelV Γ x v) : ∃ z, (Op.unary op v).run P w = .ok z w ∧ RelV Γ r z := by
  unfold unop at h
  split at h
  · injection h with h; subst h
    cases rx
    exact ⟨_, rfl, .int _ _⟩
  · injection h with h; subst h
    cases rx
    exact ⟨_, rfl, .bool _⟩
  · rename_i k n
    simp only [bitsOf, Option.map_some, Option.some.injEq] at h
    subst h
    cases rx
    exact ⟨_, rfl, .int _ _⟩
  · cases h

theorem minmax_sound (lt : Int → Int → Bool) (f : Value → Value → Sem Value) (hf : ∀ (k k' : IntKind) (a b : Int) (w : World), (f (.int k a) (.int k' b)).run P w = .ok (.int k (if lt b a then b else a)) w) :
    ∀ (xs : List AV) (x r : AV) (v : Value) (vs : List Value), minmax lt x xs = some r → RelV Γ x v → RelVs Γ xs vs → ∃ z, (vs.foldlM f v).run P w = .ok z w ∧ RelV Γ r z
  | [], x, r, v, vs, h, rx, rv => by
    cases rv
    simp only [minmax] at h
    injection h with h; subst h
    exact ⟨v, rfl, rx⟩
  | y :: xs, x, r, v, vs, h, rx, rv => by
    cases rv with
    | cons hy ht =>
      unfold minmax at h
      split at h
      · rename_i e; cases e
      · rename_i k a k' b l e
        injection e with e1 e2
        subst e1 e2
        split at h
        · rename_i e; subst e
          cases rx; cases hy
          obtain ⟨z, hz, hr⟩ := minmax_sound lt f hf _ _ r (.int k (if lt b a then b else a)) _ h (.int _ _) ht
          refine ⟨z, ?_, hr⟩
          rw [List.foldlM_cons]
          simp only [Sem.run_bind, hf, Result.andThen_ok]
          exact hz
        · cases h
      · cases h

end Go.Ev
