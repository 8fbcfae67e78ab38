/- The law LevelMore: for every input it returns true, and each argument reads afterwards as it read before. No condition beyond the row's own. -/
import Derived.Test.YtelobnllkhnpaaaRows
import Derived.WalkKit
import Derived.ProofKit
import Derived.OpenShut
import Derived.ShutString
import Derived.ChangeOld
import Derived.Below
import Derived.SizedLaws
import Derived.Test.YtelobnllkhnpaaaK7
namespace Go.Proofs.Ytelobnllkhnpaaa.levelMore
set_option linter.unusedVariables false
set_option linter.unusedSimpArgs false
set_option maxHeartbeats 2000000
open Go.ChangeShapes Go.WideShapes Go.ChangeAt Go.RowKit Go.Ev Go.Proofs.Ytelobnllkhnpaaa.E Go.Proofs.Ytelobnllkhnpaaa.L
theorem own : ownKnob Try.prog.godebug = none := by kernel_rfl
theorem laidOut : laidOutB Try.prog = true := by kernel_rfl

theorem relVs_agg {Γ : Ctx} {xs : List AV} {cs : Array Value} (h : RelVs Γ xs cs.toList) (h1 : ∀ a, a ∈ xs → oneCell a = true) : RelV Γ (.agg xs) (.agg cs) := by
  refine .agg (by have := h.len; simpa using this) h1 fun i x hi => ?_
  obtain ⟨v, h2, h3⟩ := h.get i x hi
  rw [Array.getElem?_toList] at h2
  rw [Array.getD_eq_getD_getElem?, h2]
  exact h3
theorem prC_one (p : Pr') : ∀ a, a ∈ prC p → oneCell a = true := by
  intro a ha
  simp only [prC, List.mem_cons, List.not_mem_nil, or_false] at ha
  rcases ha with rfl | rfl | rfl <;> rfl

set_option maxRecDepth 100000 in
theorem lifted (os : Os) (started : os.Started) (H : Type) (enc : TypeId × Value → H) :
    ReturnsInHanded {} Try.checked os 9 .any (Rows.levelMoreSpec.pre6 enc Try.prog Try.f9 Rows.levelMoreRow.domain false) (Rows.levelMoreSpec.post enc Try.prog Try.f9 false true false false) := by
  refine returnsInHanded_of_change_sized (C := Try.checked) own started (by kernel_rfl) Try.func9
    (ChangeSpec.witness6 (enc := enc) (C := Try.checked) false ⟨#[], #[.agg #[.int .i64 0, .slice none 0 0, .slice none 0 0], .slice none 0 0], []⟩ 8 (by kernel_rfl) (by kernel_rfl) (by kernel_rfl) (by kernel_rfl)) ?_
  intro W base args ds gs before hval0 hW hcnd hsz0 _
  have hval : ∀ (j : Nat) t v, Try.f9.params[j]? = some t → args[j]? = some v → Value.okWide Try.prog W .any base t v := hval0
  have hW' := hW
  obtain ⟨p, q, hA0, hV, rfl, hfz, hnd⟩ := hW
  have hA : DataW.TrodAll enc Try.prog W 0 (fun _ => true) true Try.f9.params.toList args.toList ds p := hA0
  rw [Try.params9] at hA hval
  obtain ⟨v0, vs0, d0, ds0, p0, q0, hargs, rfl, rfl, h0, r0⟩ := trodAll_cons hA
  obtain ⟨v1, vs1, d1, ds1, p1, q1, rfl, rfl, rfl, h1, r1⟩ := trodAll_cons r0
  obtain ⟨rfl, rfl, rfl⟩ := trodAll_nil r1
  obtain rfl : args = #[v0, v1] := by cases args; simp_all
  obtain ⟨rfl, rfl⟩ := trodVars_none hV
  have lt0 : ∀ x ∈ p0, x.block < W.heap.size := by obtain ⟨m, hm⟩ := h0; exact DataW.trod_lt m _ _ _ hm
  obtain ⟨c0, e0, _⟩ := okWide_struct Try.underlying25 (hval 0 25 v0 rfl rfl)
  subst e0
  have lt1 : ∀ x ∈ p1, x.block < W.heap.size := by obtain ⟨m, hm⟩ := h1; exact DataW.trod_lt m _ _ _ hm
  obtain ⟨sa1, sl1, sc1, e1⟩ := okWide_slice Try.underlying60 (hval 1 60 v1 rfl rfl)
  subst e1
  have hrel : ∃ (x0 : Pr') (x1 : List Bool), RelVs (Ctx.start W (fun b => b < W.heap.size)) [.agg (prC x0), .vs 1 (boolsC x1)] (#[Value.agg c0, Value.slice sa1 sl1 sc1] : Array Value).toList ∧ prB x0 ∧ x1.length < 9223372036854775808 := by
    obtain ⟨m0, g0⟩ := h0
    obtain ⟨x0, a0, b0⟩ := trod_prog (S := fun b => b < W.heap.size) (fun b hb => hb) m0 _ _ g0
    obtain ⟨m1, g1⟩ := h1
    obtain ⟨x1, a1, b1⟩ := trod_bools (S := fun b => b < W.heap.size) (fun b hb => hb) m1 g1
    exact ⟨x0, x1, (.cons (relVs_agg a0 (prC_one x0)) (.cons a1 .nil)), b0, b1⟩
  obtain ⟨x0, x1, hrel, hb0, hb1⟩ := hrel
  have hrun := levelMore_run x0 x1 (smsK x0.body + x0.vars.length + x1.length + 12000) rfl 5000 (Nat.le_refl _) hb0 hb1 [] 0
  have hc := Sound.calls (soundL (smsK x0.body + x0.vars.length + x1.length + 12000)) (Γ := Ctx.start W fun b => b < W.heap.size) (args := #[Value.agg c0, Value.slice sa1 sl1 sc1]) hrun (inv_start fun b hb => hb) (Nat.le_refl _) hrel
  clear hA0 hval0 hsz0
  refine hc.mono fun e W' he => ?_
  cases e with
  | panicked c => exact he.elim
  | outgrown => exact he.elim
  | returned v =>
    obtain ⟨Γ', g1, _, hx, _, hv⟩ := he
    subst g1
    cases hv
    have bel := ext_below hx
    exact ⟨_, rfl, _, _, _, [], _, [], hW', trodAll_mk1 (shut_bool Try.underlying4 _), (trodAll_cons_mk (Below.trod laidOut (by kernel_rfl) (of_decide_eq_true (by kernel_rfl)) h0 bel lt0) (trodAll_cons_mk (Below.trod laidOut (by kernel_rfl) (of_decide_eq_true (by kernel_rfl)) h1 bel lt1) trodAll_mk0)), rfl, bel.frame _, fun h => by cases h⟩
theorem over : Rows.levelMoreRow.holds Try.pinned (OpenSpec.ofChange Rows.levelMoreSpec) :=
  OpenClaim.holds_of_wide 9 Try.f9 rfl rfl rfl rfl rfl rfl rfl ⟨rfl, rfl, rfl, rfl, rfl⟩ rfl rfl rfl rfl rfl (by kernel_rfl) Try.func9 (by kernel_rfl)
    (of_decide_eq_true (by kernel_rfl)) (by unfold Func.isWrapper; first | (rw [if_pos (by decide +kernel)]; kernel_rfl) | (rw [if_neg (by decide +kernel)]; exact ⟨rfl, rfl⟩))
    (fun os started H enc _ => lifted os started H enc)
theorem proved : Rows.LevelMoreSaid := over
#print axioms proved
end Go.Proofs.Ytelobnllkhnpaaa.levelMore
namespace Go.Proofs.Ytelobnllkhnpaaa
set_option linter.unusedVariables false
set_option linter.unusedSimpArgs false
set_option maxHeartbeats 2000000
/-- The row, under a short name, for the claim. -/
theorem levelMore_holds : Rows.LevelMoreSaid := levelMore.proved
end Go.Proofs.Ytelobnllkhnpaaa
