/- The law LevelKeeps: for every input it returns true, and each argument reads afterwards as it read before. No condition beyond the row's own. -/
import Derived.Test.YtelobnllkhnpaaaGreatRows
import Derived.WalkKit
import Derived.ProofKit
import Derived.OpenShut
import Derived.ShutString
import Derived.ChangeOld
import Derived.Below
import Derived.SizedLaws
import Derived.Test.YtelobnllkhnpaaaGreatK9
namespace Go.Proofs.YtelobnllkhnpaaaGreat.levelKeeps
set_option linter.unusedVariables false
set_option linter.unusedSimpArgs false
set_option maxHeartbeats 2000000
open Go.ChangeShapes Go.WideShapes Go.ChangeAt Go.RowKit Go.Ev Go.Proofs.YtelobnllkhnpaaaGreat.E Go.Proofs.YtelobnllkhnpaaaGreat.L
theorem own : ownKnob Tryz.prog.godebug = none := by kernel_rfl
theorem laidOut : laidOutB Tryz.prog = true := by kernel_rfl
theorem relVs_agg {Γ : aX} {xs : List AV} {cs : Array Value} (h : bH Γ xs cs.toList) (h1 : ∀ a, a ∈ xs -> oneCell a = true) : aD Γ (.agg xs) (.agg cs) := by
 refine .agg (by have := h.len; simpa using this) h1 fun i x hi => ?_
 obtain ⟨v, h2, h3⟩ := h.get i x hi
 rw [Array.getElem?_toList] at h2
 rw [Array.getD_eq_getD_getElem?, h2]
 exact h3
theorem prC_one (p : bp) : ∀ a, a ∈ bY p -> oneCell a = true := by
 intro a ha
 simp only [bY, List.mem_cons, List.not_mem_nil, or_false] at ha
 rcases ha with rfl | rfl | rfl <;> rfl
set_option maxRecDepth 100000 in
theorem lifted (os : Os) (started : os.Started) (H : Type) (enc : TypeId × Value -> H) :
  ReturnsInHanded {} Tryz.checked os 4 .any (Rows.levelKeepsSpec.pre6 enc Tryz.prog Tryz.f4 Rows.levelKeepsRow.domain false) (Rows.levelKeepsSpec.post enc Tryz.prog Tryz.f4 false true false false) := by
 refine returnsInHanded_of_change_sized (C := Tryz.checked) own started (by kernel_rfl) Tryz.func4
  (ChangeSpec.witness6 (enc := enc) (C := Tryz.checked) false ⟨#[], #[.agg #[.int .i64 0, .slice none 0 0, .slice none 0 0], .int .i64 0, .int .i64 0, .slice none 0 0], []⟩ 8 (by kernel_rfl) (by kernel_rfl) (by kernel_rfl) (by kernel_rfl)) ?_
 intro W base args ds gs before hval0 hW hcnd hsz0 _
 have hval : ∀ (j : Nat) t v, Tryz.f4.params[j]? = some t -> args[j]? = some v -> Value.okWide Tryz.prog W .any base t v := hval0
 have hW' := hW
 obtain ⟨p, q, hA0, hV, rfl, hfz, hnd⟩ := hW
 have hA : DataW.TrodAll enc Tryz.prog W 0 (fun _ => true) true Tryz.f4.params.toList args.toList ds p := hA0
 rw [Tryz.params4] at hA hval
 obtain ⟨v0, vs0, d0, ds0, p0, q0, hargs, rfl, rfl, h0, r0⟩ := trodAll_cons hA
 obtain ⟨v1, vs1, d1, ds1, p1, q1, rfl, rfl, rfl, h1, r1⟩ := trodAll_cons r0
 obtain ⟨v2, vs2, d2, ds2, p2, q2, rfl, rfl, rfl, h2, r2⟩ := trodAll_cons r1
 obtain ⟨v3, vs3, d3, ds3, p3, q3, rfl, rfl, rfl, h3, r3⟩ := trodAll_cons r2
 obtain ⟨rfl, rfl, rfl⟩ := trodAll_nil r3
 obtain rfl : args = #[v0, v1, v2, v3] := by cases args; simp_all
 obtain ⟨rfl, rfl⟩ := trodVars_none hV
 have lt0 : ∀ x ∈ p0, x.block < W.heap.size := by obtain ⟨m, hm⟩ := h0; exact DataW.trod_lt m _ _ _ hm
 obtain ⟨c0, e0, _⟩ := okWide_struct Tryz.underlying25 (hval 0 25 v0 rfl rfl)
 subst e0
 have lt1 : ∀ x ∈ p1, x.block < W.heap.size := by obtain ⟨m, hm⟩ := h1; exact DataW.trod_lt m _ _ _ hm
 obtain ⟨x1, e1⟩ := okWide_int Tryz.underlying3 (hval 1 3 v1 rfl rfl)
 subst e1
 have lt2 : ∀ x ∈ p2, x.block < W.heap.size := by obtain ⟨m, hm⟩ := h2; exact DataW.trod_lt m _ _ _ hm
 obtain ⟨x2, e2⟩ := okWide_int Tryz.underlying3 (hval 2 3 v2 rfl rfl)
 subst e2
 have lt3 : ∀ x ∈ p3, x.block < W.heap.size := by obtain ⟨m, hm⟩ := h3; exact DataW.trod_lt m _ _ _ hm
 obtain ⟨sa3, sl3, sc3, e3⟩ := okWide_slice Tryz.underlying26 (hval 3 26 v3 rfl rfl)
 subst e3
 have hrel : ∃ (x0 : bp) (x3 : List Int), bH (aX.start W (fun b => b < W.heap.size)) [.agg (bY x0), .int .i64 x1, .int .i64 x2, .vs 1 (ag x3)] (#[Value.agg c0, Value.int .i64 x1, Value.int .i64 x2, Value.slice sa3 sl3 sc3] : Array Value).toList /\ lB x0 /\ x3.length < 9223372036854775808 := by
  obtain ⟨m0, g0⟩ := h0
  obtain ⟨x0, a0, b0⟩ := Cy (S := fun b => b < W.heap.size) (fun b hb => hb) m0 _ _ g0
  obtain ⟨m3, g3⟩ := h3
  obtain ⟨x3, a3, b3⟩ := CB (S := fun b => b < W.heap.size) (fun b hb => hb) m3 g3
  exact ⟨x0, x3, (.cons (relVs_agg a0 (prC_one x0)) (.cons (.int _ _) (.cons (.int _ _) (.cons a3 .nil)))), b0, b3⟩
 obtain ⟨x0, x3, hrel, hb0, hb3⟩ := hrel
 have hrun := sR x0 x1 x2 x3 (2 * bA x0.body + x0.vars.length + x3.length + 30000) rfl 200000 (Nat.le_refl _) hb0 hb3 [] 0
 have hc := l5.calls (Fy (2 * bA x0.body + x0.vars.length + x3.length + 30000) [.agg (bY x0), .int .i64 x2, .vs 1 (ag x3)] (Cu x0 x2 x3)) (Γ := aX.start W fun b => b < W.heap.size) (args := #[Value.agg c0, Value.int .i64 x1, Value.int .i64 x2, Value.slice sa3 sl3 sc3]) hrun (tV fun b hb => hb) (Nat.le_refl _) hrel
 clear hA0 hval0 hsz0
 refine hc.mono fun e W' he => ?_
 cases e with
 | panicked c => exact he.elim
 | outgrown => exact he.elim
 | returned v =>
  obtain ⟨Γ', g1, _, hx, _, hv⟩ := he
  subst g1
  cases hv
  have bel := tW hx
  exact ⟨_, rfl, _, _, _, [], _, [], hW', trodAll_mk1 (shut_bool Tryz.underlying4 _), (trodAll_cons_mk (Below.trod laidOut (by kernel_rfl) (of_decide_eq_true (by kernel_rfl)) h0 bel lt0) (trodAll_cons_mk (Below.trod laidOut (by kernel_rfl) (of_decide_eq_true (by kernel_rfl)) h1 bel lt1) (trodAll_cons_mk (Below.trod laidOut (by kernel_rfl) (of_decide_eq_true (by kernel_rfl)) h2 bel lt2) (trodAll_cons_mk (Below.trod laidOut (by kernel_rfl) (of_decide_eq_true (by kernel_rfl)) h3 bel lt3) trodAll_mk0)))), rfl, bel.frame _, fun h => by cases h⟩
theorem over : Rows.levelKeepsRow.holds Tryz.pinned (OpenSpec.ofChange Rows.levelKeepsSpec) :=
 OpenClaim.holds_of_wide 4 Tryz.f4 rfl rfl rfl rfl rfl rfl rfl ⟨rfl, rfl, rfl, rfl, rfl⟩ rfl rfl rfl rfl rfl (by kernel_rfl) Tryz.func4 (by kernel_rfl)
  (of_decide_eq_true (by kernel_rfl)) (by unfold Func.isWrapper; first | (rw [if_pos (by decide +kernel)]; kernel_rfl) | (rw [if_neg (by decide +kernel)]; exact ⟨rfl, rfl⟩))
  (fun os started H enc _ => lifted os started H enc)
theorem proved : Rows.LevelKeepsSaid := over
#print axioms proved
end Go.Proofs.YtelobnllkhnpaaaGreat.levelKeeps
namespace Go.Proofs.YtelobnllkhnpaaaGreat
set_option linter.unusedVariables false
set_option linter.unusedSimpArgs false
set_option maxHeartbeats 2000000
theorem levelKeeps_holds : Rows.LevelKeepsSaid := levelKeeps.proved
end Go.Proofs.YtelobnllkhnpaaaGreat
