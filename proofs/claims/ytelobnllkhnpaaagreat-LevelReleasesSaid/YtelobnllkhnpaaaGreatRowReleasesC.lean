/- The law LevelReleases: for every input it returns true, and each argument reads afterwards as it read before. No condition beyond the row's own. -/
import Derived.Test.YtelobnllkhnpaaaGreatRows
import Derived.WalkKit
import Derived.ProofKit
import Derived.OpenShut
import Derived.ShutString
import Derived.ChangeOld
import Derived.Below
import Derived.SizedLaws
import Derived.Test.YtelobnllkhnpaaaGreatK8
namespace Go.Proofs.YtelobnllkhnpaaaGreat.levelReleases
set_option linter.unusedVariables false
set_option linter.unusedSimpArgs false
set_option maxHeartbeats 2000000
open Go.ChangeShapes Go.WideShapes Go.ChangeAt Go.RowKit Go.Ev Go.Proofs.YtelobnllkhnpaaaGreat.E Go.Proofs.YtelobnllkhnpaaaGreat.L
theorem own : ownKnob Tryz.prog.godebug = none := by kernel_rfl
theorem laidOut : laidOutB Tryz.prog = true := by kernel_rfl

theorem relVs_agg {Γ : Ctx} {xs : List AV} {cs : Array Value} (h : RelVs Γ xs cs.toList) (h1 : ∀ a, a ∈ xs → oneCell a = true) : RelV Γ (.agg xs) (.agg cs) := by
  refine .agg (by have := h.len; simpa using this) h1 fun i x hi => ?_
  obtain ⟨v, h2, h3⟩ := h.get i x hi
  rw [Array.getElem?_toList] at h2
  rw [Array.getD_eq_getD_getElem?, h2]
  exact h3
theorem prC_one (p : Pr') : ∀ a, a ∈ prC p → oneCell a = true := by
  intro a ha
  simp only [prC, List.mem_cons, List.not_mem_nil, or_false] at ha
  rcases ha with rfl | rfl | rfl <;> rfl

set_option maxRecDepth 100000 in
theorem lifted (os : Os) (started : os.Started) (H : Type) (enc : TypeId × Value → H) :
    ReturnsInHanded {} Tryz.checked os 3 .any (Rows.levelReleasesSpec.pre6 enc Tryz.prog Tryz.f3 Rows.levelReleasesRow.domain false) (Rows.levelReleasesSpec.post enc Tryz.prog Tryz.f3 false true false false) := by
  refine returnsInHanded_of_change_sized (C := Tryz.checked) own started (by kernel_rfl) Tryz.func3
    (ChangeSpec.witness6 (enc := enc) (C := Tryz.checked) false ⟨#[], #[.agg #[.int .i64 0, .slice none 0 0, .slice none 0 0], .int .i64 0, .slice none 0 0], []⟩ 8 (by kernel_rfl) (by kernel_rfl) (by kernel_rfl) (by kernel_rfl)) ?_
  intro W base args ds gs before hval0 hW hcnd hsz0 _
  have hval : ∀ (j : Nat) t v, Tryz.f3.params[j]? = some t → args[j]? = some v → Value.okWide Tryz.prog W .any base t v := hval0
  have hW' := hW
  obtain ⟨p, q, hA0, hV, rfl, hfz, hnd⟩ := hW
  have hA : DataW.TrodAll enc Tryz.prog W 0 (fun _ => true) true Tryz.f3.params.toList args.toList ds p := hA0
  rw [Tryz.params3] at hA hval
  obtain ⟨v0, vs0, d0, ds0, p0, q0, hargs, rfl, rfl, h0, r0⟩ := trodAll_cons hA
  obtain ⟨v1, vs1, d1, ds1, p1, q1, rfl, rfl, rfl, h1, r1⟩ := trodAll_cons r0
  obtain ⟨v2, vs2, d2, ds2, p2, q2, rfl, rfl, rfl, h2, r2⟩ := trodAll_cons r1
  obtain ⟨rfl, rfl, rfl⟩ := trodAll_nil r2
  obtain rfl : args = #[v0, v1, v2] := by cases args; simp_all
  obtain ⟨rfl, rfl⟩ := trodVars_none hV
  have lt0 : ∀ x ∈ p0, x.block < W.heap.size := by obtain ⟨m, hm⟩ := h0; exact DataW.trod_lt m _ _ _ hm
  obtain ⟨c0, e0, _⟩ := okWide_struct Tryz.underlying25 (hval 0 25 v0 rfl rfl)
  subst e0
  have lt1 : ∀ x ∈ p1, x.block < W.heap.size := by obtain ⟨m, hm⟩ := h1; exact DataW.trod_lt m _ _ _ hm
  obtain ⟨x1, e1⟩ := okWide_int Tryz.underlying3 (hval 1 3 v1 rfl rfl)
  subst e1
  have lt2 : ∀ x ∈ p2, x.block < W.heap.size := by obtain ⟨m, hm⟩ := h2; exact DataW.trod_lt m _ _ _ hm
  obtain ⟨sa2, sl2, sc2, e2⟩ := okWide_slice Tryz.underlying26 (hval 2 26 v2 rfl rfl)
  subst e2
  have hrel : ∃ (x0 : Pr') (x2 : List Int), RelVs (Ctx.start W (fun b => b < W.heap.size)) [.agg (prC x0), .int .i64 x1, .vs 1 (intsC x2)] (#[Value.agg c0, Value.int .i64 x1, Value.slice sa2 sl2 sc2] : Array Value).toList ∧ prB x0 ∧ x2.length < 9223372036854775808 := by
    obtain ⟨m0, g0⟩ := h0
    obtain ⟨x0, a0, b0⟩ := trod_prog (S := fun b => b < W.heap.size) (fun b hb => hb) m0 _ _ g0
    obtain ⟨m2, g2⟩ := h2
    obtain ⟨x2, a2, b2⟩ := trod_ints (S := fun b => b < W.heap.size) (fun b hb => hb) m2 g2
    exact ⟨x0, x2, (.cons (relVs_agg a0 (prC_one x0)) (.cons (.int _ _) (.cons a2 .nil))), b0, b2⟩
  obtain ⟨x0, x2, hrel, hb0, hb2⟩ := hrel
  have hrun := levelReleases_run x0 x1 x2 (2 * smsK x0.body + x0.vars.length + x2.length + 30000) rfl 5000 (Nat.le_refl _) hb0 hb2 [] 0
  have hc := Sound.calls (soundR ((2 * smsK x0.body + x0.vars.length + x2.length + 30000) + 1) [.agg (prC x0), .int .i64 x1, .vs 1 (intsC x2)] (relA x0 x1 x2)) (Γ := Ctx.start W fun b => b < W.heap.size) (args := #[Value.agg c0, Value.int .i64 x1, Value.slice sa2 sl2 sc2]) hrun (inv_start fun b hb => hb) (Nat.le_refl _) hrel
  clear hA0 hval0 hsz0
  refine hc.mono fun e W' he => ?_
  cases e with
  | panicked c => exact he.elim
  | outgrown => exact he.elim
  | returned v =>
    obtain ⟨Γ', g1, _, hx, _, hv⟩ := he
    subst g1
    cases hv
    have bel := ext_below hx
    exact ⟨_, rfl, _, _, _, [], _, [], hW', trodAll_mk1 (shut_bool Tryz.underlying4 _), (trodAll_cons_mk (Below.trod laidOut (by kernel_rfl) (of_decide_eq_true (by kernel_rfl)) h0 bel lt0) (trodAll_cons_mk (Below.trod laidOut (by kernel_rfl) (of_decide_eq_true (by kernel_rfl)) h1 bel lt1) (trodAll_cons_mk (Below.trod laidOut (by kernel_rfl) (of_decide_eq_true (by kernel_rfl)) h2 bel lt2) trodAll_mk0))), rfl, bel.frame _, fun h => by cases h⟩
theorem over : Rows.levelReleasesRow.holds Tryz.pinned (OpenSpec.ofChange Rows.levelReleasesSpec) :=
  OpenClaim.holds_of_wide 3 Tryz.f3 rfl rfl rfl rfl rfl rfl rfl ⟨rfl, rfl, rfl, rfl, rfl⟩ rfl rfl rfl rfl rfl (by kernel_rfl) Tryz.func3 (by kernel_rfl)
    (of_decide_eq_true (by kernel_rfl)) (by unfold Func.isWrapper; first | (rw [if_pos (by decide +kernel)]; kernel_rfl) | (rw [if_neg (by decide +kernel)]; exact ⟨rfl, rfl⟩))
    (fun os started H enc _ => lifted os started H enc)
theorem proved : Rows.LevelReleasesSaid := over
#print axioms proved
end Go.Proofs.YtelobnllkhnpaaaGreat.levelReleases
namespace Go.Proofs.YtelobnllkhnpaaaGreat
set_option linter.unusedVariables false
set_option linter.unusedSimpArgs false
set_option maxHeartbeats 2000000
/-- The row, under a short name, for the claim. -/
theorem levelReleases_holds : Rows.LevelReleasesSaid := levelReleases.proved
end Go.Proofs.YtelobnllkhnpaaaGreat
