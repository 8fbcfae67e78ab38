/- A region in the order of its text. -/
import Derived.Test.YtelobnllkhnpaaaEvOp
namespace Go.Ev
set_option linter.unusedVariables false
set_option linter.unusedSimpArgs false

variable {P : Program} {C : Cfg} {Γ : Ctx} {base n0 f : Nat} {β : Nat → Nat} {s s' : St} {a : Act} {o : Oper} {K : Callee}

theorem OpPost.refl (R : RelS base n0 Γ β s a) : OpPost base n0 Γ s s a.tmps.size a Γ.w := ⟨Γ, β, rfl, R, Went.refl, rfl, rfl, rfl⟩

/-- What is to be shown of a step from here: whatever it leaves, the rest goes on from there. -/
theorem OpPost.then {s1 s2 : St} {n : Nat} {a1 a2 : Act} {w2 : World} {Γ1 : Ctx} (h : Went s.lo n0 Γ Γ1) (hlo : s1.lo = s.lo) (hin : s1.inRound = s.inRound) (k : OpPost base n0 Γ1 s1 s2 n a2 w2) : OpPost base n0 Γ s s2 n a2 w2 := by
  obtain ⟨Γ2, β2, e1, R2, g, e2, e3, e4⟩ := k
  exact ⟨Γ2, β2, e1, R2, h.trans (hlo ▸ g) (Nat.le_refl _), e2, e3.trans hlo, e4.trans hin⟩

theorem guard_sound {ops : Array Oper} (R : RelS base n0 Γ β s a) {b : Bool} (h : guardOn ops o s = some b) : Region.wanted o (yielded ops a.tmps) = b := by
  unfold guardOn at h
  unfold Region.wanted
  split at h
  · rename_i hg
    rw [hg]
    injection h
  · rename_i j want hg
    rw [hg]
    dsimp only
    split at h
    · rename_i d hd
      unfold yielded
      rw [hd]
      simp only [Option.bind_some]
      split at h
      · rename_i v hv
        injection h with h; subst h
        obtain ⟨h1, h2⟩ := R.env d _ hv
        have e : a.tmps[d]? = some (.bool v) := by
          have : a.tmps.getD d undef = .bool v := by
            simp only [RelX] at h2
            cases hh : a.tmps.getD d undef <;> rw [hh] at h2 <;> cases h2; rfl
          rw [← this]
          simp [Array.getD_eq_getD_getElem?, h1]
        rw [e]
        cases v <;> cases want <;> rfl
      · rename_i hv
        injection h with h; subst h
        obtain ⟨h1, h2⟩ := R.env d _ hv
        have e : ∃ vs, a.tmps[d]? = some (.tuple vs) := by
          have : ∃ vs, a.tmps.getD d undef = .tuple vs := by
            simp only [RelX] at h2
            cases hh : a.tmps.getD d undef <;> rw [hh] at h2 <;> cases h2
            exact ⟨_, rfl⟩
          obtain ⟨vs, this⟩ := this
          refine ⟨vs, ?_⟩
          rw [← this]
          simp [Array.getD_eq_getD_getElem?, h1]
        obtain ⟨vs, e⟩ := e
        rw [e]
        rfl
      · cases h
    · cases h

theorem dstOk_spec {n : Nat} {ops : Array Oper} (h : dstOk n ops = true) {i : Nat} {o : Oper} (ho : ops[i]? = some o) : ∀ t, o.dst = some t → t < n := fun t ht => by
  have := List.all_eq_true.1 h o (List.mem_of_getElem? (by rw [Array.getElem?_toList]; exact ho))
  rw [ht] at this
  simpa using this

theorem opers_sound (H : Hyp P C K) {ro : Option Nat} {ops : Array Oper} {n : Nat} (hops : dstOk n ops = true) {Q : Exit → Act → World → Prop} : ∀ (l : List Oper) (k : Nat) (Γ : Ctx) (β : Nat → Nat) (s : St) (a : Act), ops.toList.drop k = l → RelS base n0 Γ β s a → a.tmps.size = n → opers C K f ops l s = some s' →
    (∀ a' w', OpPost base n0 Γ s s' n a' w' → Q .normal a' w') → wpOpsIn (Fw ro) 0 P ops Q (List.range' k l.length) a Γ.w
  | [], k, Γ, β, s, a, _, R, hn, h, hq => by
    injection h with h; subst h
    exact hq _ _ (hn ▸ OpPost.refl R)
  | o :: l, k, Γ, β, s, a, hl, R, hn, h, hq => by
    have ho : ops[k]? = some o := by
      rw [← Array.getElem?_toList]
      have := congrArg (·[0]?) hl
      simpa using this
    have hl' : ops.toList.drop (k + 1) = l := by
      rw [← List.drop_drop, hl]; rfl
    simp only [List.length_cons, List.range'_succ, wpOpsIn, ho]
    simp only [opers] at h
    split at h
    · rename_i hg
      rw [guard_sound R hg]
      simp only [if_true]
      split at h
      · rename_i s1 h1
        refine oper_sound H R (fun t ht => by rw [hn]; exact dstOk_spec hops ho t ht) h1 fun a1 w1 hp => ?_
        obtain ⟨Γ1, β1, e1, R1, g, e2, e3, e4⟩ := hp
        subst e1
        exact opers_sound H hops l (k + 1) Γ1 β1 s1 a1 hl' R1 (e2.trans hn) h fun a' w' hp' => hq a' w' (OpPost.then g e3 e4 (s1 := s1) (a1 := a1) hp')
      · cases h
    · rename_i hg
      rw [guard_sound R hg]
      simp only [Bool.false_eq_true, if_false]
      refine ⟨fun _ _ => trivial, ?_⟩
      have R1 := R.put o.dst (fun t ht => by rw [hn]; exact dstOk_spec hops ho t ht) (x := .v (.tup [])) (v := undef) (RelV.tup rfl (by simp))
      exact opers_sound H hops l (k + 1) Γ β _ _ hl' R1 ((put_size _ _ _).trans hn) h fun a' w' hp' => hq a' w' (OpPost.then Went.refl (put_lo _ _ _).1 (put_lo _ _ _).2.1 (a1 := a) hp')
    · cases h

end Go.Ev
