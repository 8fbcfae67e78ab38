/- Code, run by the evaluator: what it leaves in the model. -/
import Derived.Test.YtelobnllkhnpaaaEvReg
import Derived.LoopNIn
import Derived.RangeFuncIn
namespace Go.Ev
set_option linter.unusedVariables false
set_option linter.unusedSimpArgs false

variable {P : Program} {C : Cfg} {Γ : Ctx} {base n0 f : Nat} {β : Nat → Nat} {s s' : St} {a : Act} {o : Oper} {K : Callee}

def Ex.out : Ex → Exit
  | .normal => .normal
  | .exit id => .exit id
  | .ret => .ret

theorem look_keep {α : Type} (env : List (Nat × α)) : ∀ (l : List Nat) (t : Nat) (x : α), look (l.filterMap fun t => (look env t).map fun x => (t, x)) t = some x → look env t = some x
  | [], t, x, h => by cases h
  | k :: l, t, x, h => by
    cases hk : look env k with
    | none =>
      simp only [List.filterMap_cons, hk, Option.map_none] at h
      exact look_keep env l t x h
    | some y =>
      simp only [List.filterMap_cons, hk, Option.map_some, look_cons] at h
      split at h
      · rename_i e
        subst e
        rw [hk]; exact h
      · exact look_keep env l t x h

theorem RelS.keep (R : RelS base n0 Γ β s a) (l : List Nat) : RelS base n0 Γ β (keep s l) a :=
  { R with
    env := fun t x hx => R.env t x (look_keep _ _ _ _ hx)
    loc := fun d xs hx => R.loc d xs (look_keep _ _ _ _ hx)
    linj := fun d d' xs xs' h h' e => R.linj d d' xs xs' (look_keep _ _ _ _ h) (look_keep _ _ _ _ h') e }

theorem then_ne {K : Act → World → Prop} {Q : Exit → Act → World → Prop} {e : Exit} (h : e ≠ .normal) (a : Act) (w : World) : Exit.then K Q e a w = Q e a w := by
  cases e <;> first | exact absurd rfl h | rfl

section
variable (H : Hyp P C K) {n fuel : Nat} {ro : Option Nat}

/-- A region that draws: the theorem is EvDraw's. -/
def DrawsOk (P : Program) (C : Cfg) (K : Callee) : Prop := ∀ (base n0 f n id : Nat) (ro : Option Nat) (ops : Array Oper), dstOk n ops = true → drawOk ops = true → ∀ (Γ : Ctx) (β : Nat → Nat) (s s' : St) (a : Act) (Q : Exit → Act → World → Prop), RelS base n0 Γ β s a → a.tmps.size = n →
  opersD C K f ops (befs ops) ops.toList 0 s = some s' → (∀ a' w', OpPost base n0 Γ s s' n a' w' → Q .normal a' w') → (Code.region id ops true).wpIn (Fw ro) 0 P Q a Γ.w

/-- A statement 'for .. := range' over a function: the theorem is EvRange's. -/
def RangesOk (P : Program) (C : Cfg) (K : Callee) : Prop := ∀ (base n0 f n fuel : Nat) (g : Operand) (ps : Array Tmp) (assign body : Code), codeOk n (.rangeFunc g ps assign body) = true → ∀ (Γ : Ctx) (β : Nat → Nat) (s s' : St) (e : Ex) (a : Act) (Q : Exit → Act → World → Prop), RelS base n0 Γ β s a → a.tmps.size = n →
  exec C K f fuel (.rangeFunc g ps assign body) s = some (e, s') → (∀ a' w', OpPost base n0 Γ s s' n a' w' → Q e.out a' w') → (Code.rangeFunc g ps assign body).wpIn (Fw none) 0 P Q a Γ.w

theorem exec_sound (H : Hyp P C K) (hD : DrawsOk P C K) (hF : RangesOk P C K) {n fuel : Nat} {ro : Option Nat} : ∀ (c : Code), codeOk n c = true → ∀ (Γ : Ctx) (β : Nat → Nat) (s s' : St) (e : Ex) (a : Act) (Q : Exit → Act → World → Prop), RelS base n0 Γ β s a → a.tmps.size = n → s.inRound = ro.isSome →
    exec C K f fuel c s = some (e, s') → (∀ a' w', OpPost base n0 Γ s s' n a' w' → Q e.out a' w') → c.wpIn (Fw ro) 0 P Q a Γ.w := by
  intro c
  induction c with
  | skip =>
    intro _ Γ β s s' e a Q R hn _ h hq
    simp only [exec, Option.some.injEq, Prod.mk.injEq] at h
    obtain ⟨rfl, rfl⟩ := h
    exact wpIn_skip (hq _ _ (hn ▸ OpPost.refl R))
  | region id ops draw =>
    intro hok Γ β s s' e a Q R hn _ h hq
    simp only [codeOk, Bool.and_eq_true] at hok
    simp only [exec, Option.map_eq_some_iff, Prod.mk.injEq] at h
    obtain ⟨s1, h, rfl, rfl⟩ := h
    cases draw with
    | false =>
      refine wpIn_region ?_
      have := opers_sound (ro := ro) H hok.1 (Q := Q) ops.toList 0 Γ β s a rfl R hn h hq
      rw [Array.length_toList, ← List.range_eq_range'] at this
      exact this
    | true => exact hD base n0 f n id ro ops hok.1 (by simpa using hok.2) Γ β s s1 a Q R hn h hq
  | seq x y ihx ihy =>
    intro hok Γ β s s' e a Q R hn hin h hq
    simp only [codeOk, Bool.and_eq_true] at hok
    simp only [exec] at h
    refine wpIn_seq ?_
    split at h
    · rename_i s1 h1
      refine ihx hok.1 Γ β s s1 .normal a _ R hn hin h1 fun a1 w1 hp => ?_
      obtain ⟨Γ1, β1, e1, R1, g, e2, e3, e4⟩ := hp
      subst e1
      exact ihy hok.2 Γ1 β1 s1 s' e a1 Q R1 e2 (e4.trans hin) h fun a' w' hp' => hq a' w' (OpPost.then (a1 := a1) g e3 e4 hp')
    · rename_i hne
      have hen : e.out ≠ .normal := by
        intro he
        cases e with
        | normal => exact hne _ h
        | exit id => cases he
        | ret => cases he
      exact ihx hok.1 Γ β s s' e a _ R hn hin h fun a' w' hp => by rw [then_ne hen]; exact hq a' w' hp
  | cond c x y ihx ihy =>
    intro hok Γ β s s' e a Q R hn hin h hq
    simp only [codeOk, Bool.and_eq_true] at hok
    simp only [exec] at h
    split at h
    · rename_i hc
      exact wpIn_cond_true (val_bool R hc) (ihx hok.1 Γ β s s' e a Q R hn hin h hq)
    · rename_i hc
      exact wpIn_cond_false (val_bool R hc) (ihy hok.2 Γ β s s' e a Q R hn hin h hq)
    · cases h
  | block id b ih =>
    intro hok Γ β s s' e a Q R hn hin h hq
    simp only [codeOk] at hok
    simp only [exec] at h
    refine wpIn_block ?_
    split at h
    · rename_i i s1 h1
      split at h
      · rename_i he
        have he : i = id := by simpa using he
        subst he
        injection h with h; injection h with q1 q2; subst q1 q2
        exact ih hok Γ β s s1 (.exit i) a _ R hn hin h1 fun a' w' hp => by
          show Exit.inBlock i Q (.exit i) a' w'
          simp only [Exit.inBlock, if_true]
          exact hq a' w' hp
      · rename_i he
        have he : ¬ i = id := by simpa using he
        injection h with h; injection h with q1 q2; subst q1 q2
        exact ih hok Γ β s s1 (.exit i) a _ R hn hin h1 fun a' w' hp => by
          show Exit.inBlock id Q (.exit i) a' w'
          simp only [Exit.inBlock, if_neg he]
          exact hq a' w' hp
    · rename_i hne
      exact ih hok Γ β s s' e a _ R hn hin h fun a' w' hp => by
        cases e with
        | normal => exact hq a' w' hp
        | ret => exact hq a' w' hp
        | exit i => exact absurd h (hne _ _)
  | loop b ih =>
    intro hok Γ β s s' e a Q R hn hin h hq
    simp only [codeOk] at hok
    simp only [exec] at h
    refine wpIn_loop_rounds fuel ?_
    have key : ∀ (m : Nat) (Γ : Ctx) (β : Nat → Nat) (s : St) (a : Act), RelS base n0 Γ β s a → a.tmps.size = n → s.inRound = ro.isSome → rounds (exec C K f fuel b) (C.live f (firstRegion b)) m s = some (e, s') →
        (∀ a' w', OpPost base n0 Γ s s' n a' w' → Q e.out a' w') → Code.roundsIn (Fw ro) 0 P b Q m a Γ.w := by
      intro m
      induction m with
      | zero => intro Γ β s a _ _ _ h _; cases h
      | succ m ihm =>
        intro Γ β s a R hn hin h hq
        simp only [rounds] at h
        rw [roundsIn_succ]
        have hk : ∃ s1, RelS base n0 Γ β s1 a ∧ s1.inRound = s.inRound ∧ s1.lo = s.lo ∧ prune (C.live f (firstRegion b)) s = s1 := by
          unfold prune
          cases C.live f (firstRegion b) with
          | none => exact ⟨s, R, rfl, rfl, rfl⟩
          | some l => exact ⟨_, R.keep l, rfl, rfl, rfl⟩
        obtain ⟨s1, R1, i1, i2, i3⟩ := hk
        rw [i3] at h
        split at h
        · rename_i s2 h1
          refine ih hok Γ β s1 s2 .normal a _ R1 hn (i1.trans hin) h1 fun a1 w1 hp => ?_
          obtain ⟨Γ1, β1, e1, R2, g, e2, e3, e4⟩ := hp
          subst e1
          exact ihm Γ1 β1 s2 a1 R2 e2 (e4.trans (i1.trans hin)) h fun a' w' hp' => hq a' w' (OpPost.then (a1 := a1) (i2 ▸ g) (e3.trans i2) (e4.trans i1) hp')
        · rename_i hne
          have hen : e.out ≠ .normal := by
            intro he
            cases e with
            | normal => exact hne _ h
            | exit id => cases he
            | ret => cases he
          exact ih hok Γ β s1 s' e a _ R1 hn (i1.trans hin) h fun a' w' hp => by
            rw [then_ne hen]
            obtain ⟨Γ1, β1, e1, R2, g, e2, e3, e4⟩ := hp
            exact hq a' w' ⟨Γ1, β1, e1, R2, i2 ▸ g, e2, e3.trans i2, e4.trans i1⟩
    exact key fuel Γ β s a R hn hin h hq
  | rangeFunc g ps assign body iha ihb =>
    intro hok Γ β s s' e a Q R hn hin h hq
    cases ro with
    | some l =>
      simp only [exec, hin] at h
      split at h
      · rename_i hh; cases hh
      · cases h
    | none => exact hF base n0 f n fuel g ps assign body hok Γ β s s' e a Q R hn h hq
  | exit id =>
    intro _ Γ β s s' e a Q R hn _ h hq
    simp only [exec, Option.some.injEq, Prod.mk.injEq] at h
    obtain ⟨rfl, rfl⟩ := h
    exact wpIn_exit (hq _ _ (hn ▸ OpPost.refl R))
  | ret =>
    intro _ Γ β s s' e a Q R hn _ h hq
    simp only [exec, Option.some.injEq, Prod.mk.injEq] at h
    obtain ⟨rfl, rfl⟩ := h
    exact wpIn_ret (hq _ _ (hn ▸ OpPost.refl R))
  | label l =>
    intro _ Γ β s s' e a Q R hn _ h hq
    simp only [exec, Option.some.injEq, Prod.mk.injEq] at h
    obtain ⟨rfl, rfl⟩ := h
    exact wpIn_label (hq _ _ (hn ▸ OpPost.refl R))
  | _ => intro _ Γ β s s' e a Q R hn _ h hq; simp only [exec] at h; cases h
end

end Go.Ev
