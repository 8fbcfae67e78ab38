/- prog.counted, prog.Check, prog.Single. -/
import Derived.Test.YtelobnllkhnpaaaLvI
import Derived.Test.YtelobnllkhnpaaaLvK
import Derived.Test.YtelobnllkhnpaaaLvJ
open Go Go.Proofs Go.Ev Go.Proofs.Ytelobnllkhnpaaa.E
namespace Go.Proofs.Ytelobnllkhnpaaa.L
set_option linter.unusedVariables false
set_option linter.unusedSimpArgs false
set_option maxRecDepth 100000

theorem resultOf_hp {C : Cfg} {s : St} {a t id n off T : Nat} {ti : TI} {xs : List AV} {x : AV} (ht : Go.Ev.look C.tab t = some ti) (ha : Go.Ev.look s.env a = some (.v (.hp id n off))) (hH : s.heap[id]? = some (.cells T xs)) (hn : n = xs.length) (hp : Go.Ev.part ti xs off = some x) : resultOf C s (.cell a t) = some x := by
  unfold resultOf
  dsimp only
  rw [ht, ha]
  dsimp only
  rw [hH]
  dsimp only
  rw [if_pos hn, hp]
theorem resultsOf_cons {C : Cfg} {s : St} {r : ResultVar} {l : List ResultVar} {x : AV} {xs : List AV} (h1 : resultOf C s r = some x) (h2 : resultsOf C s l = some xs) : resultsOf C s (r :: l) = some (x :: xs) := by
  simp only [resultsOf, h1, h2]
theorem finish_of {C : Cfg} {fn : Func} {fid : Nat} {h : Heap} {s : St} {xs : List AV} {out : AV × Heap} (hr : resultsOf C s fn.results.toList = some xs) (hh : handF (C.nz fid) (C.cut fid) h (packed xs) s.heap = some out) : finish C fn fid h s = some out := by
  unfold finish
  rw [hr]
  cases xs with
  | nil => exact hh
  | cons a l => cases l <;> exact hh

def okP (p : Pr') : Bool := headPB p.width p.vars && (fineG p.width p.vars p.body 1 0 0).1
def countI (p : Pr') : Int × Int := if okP p = true then (fineG p.width p.vars p.body 1 0 0).2 else (0, 0)
theorem counted_run (p : Pr') (k : Nat) (hk : smsK p.body + 70 ≤ k) (hb : prB p) (h : Heap) (lo : Nat) : call Try.prog cfg (k + 1) lo (.func 131) [.agg (prC p)] h = some (.tup [.agg [.int .i64 (countI p).1, .int .i64 (countI p).2], .bool (okP p)], h) := by
  have hH := headP_run p.width p.vars (k - 1) (by omega) (h ++ [HObj.cells 173 [.int .i64 0, .int .i64 0]]) h.length
  rw [show k - 1 + 1 = k by omega] at hH
  have hF := fineS_run p (h ++ [HObj.cells 173 [.int .i64 0, .int .i64 0]]) h.length h.length (by simp) (Nat.le_refl _) k p.body (by omega) hb.2.1 hb.2.2 1 0 0
  have hset : (h ++ [HObj.cells 173 [.int .i64 0, .int .i64 0]]).set h.length (.cells 173 [.int .i64 0, .int .i64 0]) = h ++ [HObj.cells 173 [.int .i64 0, .int .i64 0]] := by simp
  rw [hset] at hF
  have hlo : h.length ≤ h.length := Nat.le_refl _
  have hid : h.length < (h ++ [HObj.cells 173 [.int .i64 0, .int .i64 0]]).length := by simp
  have hget : (h ++ [HObj.cells 173 [.int .i64 0, .int .i64 0]])[h.length]? = some (.cells 173 [.int .i64 0, .int .i64 0]) := by simp
  have hokd : okP p = (headPB p.width p.vars && (fineG p.width p.vars p.body 1 0 0).1) := rfl
  have hcd : countI p = if okP p = true then (fineG p.width p.vars p.body 1 0 0).2 else (0, 0) := rfl
  generalize okP p = ok at hokd hcd
  generalize countI p = ct at hcd
  generalize fineG p.width p.vars p.body 1 0 0 = R at hF hokd hcd
  generalize headPB p.width p.vars = hp at hH hokd
  obtain ⟨w, vs, body⟩ := p
  dsimp only at hH hF
  obtain ⟨r1, r2, r3⟩ := R
  dsimp only at hF hokd hcd
  have hgS : ∀ X : HObj, ((h ++ [HObj.cells 173 [.int .i64 0, .int .i64 0]]).set h.length X)[h.length]? = some X := fun X => List.getElem?_set_self hid
  apply W_call Try.func131 rfl (Nat.le_of_ble_eq_true rfl) rfl
  cases hp
  · subst hokd
    rw [Bool.false_and, if_neg (by simp)] at hcd
    subst hcd
    (repeat' (first | apply W_seq | refine W_true rfl rfl ?_ | refine W_false rfl rfl ?_ | refine W_region (id := 0) rfl ?_ | (refine W_ops (id := 1) ?_ <;> refine T_ch 4 rfl ?_ <;> (refine T_go rfl ?_; refine G_op (O_call rfl rfl rfl rfl (by assumption)) ?_) <;> (refine T_go rfl ?_; first | refine G_true rfl rfl ?_ | refine G_false rfl rfl ?_ | refine G_true rfl (by with_reducible assumption) ?_ | refine G_false rfl (by with_reducible assumption) ?_ | refine G_true rfl (by assumption) ?_ | refine G_false rfl (by assumption) ?_ | refine G_split rfl (fun _ => ?_) (fun _ => ?_)) <;> apply T_nil) | (refine W_ops (id := 2) ?_ <;> refine T_ch 1 rfl ?_ <;> (refine T_go rfl ?_; first | refine G_op (O_storeS rfl rfl rfl rfl rfl (by assumption) (by assumption) ⟨rfl, rfl, Nat.le_of_ble_eq_true rfl⟩ rfl) ?_ | refine G_op rfl ?_ | refine G_op (O_storeH rfl rfl rfl rfl (by assumption) ⟨by assumption, rfl, rfl, Nat.le_of_ble_eq_true rfl⟩) ?_ | refine G_op (O_storeH rfl rfl rfl rfl (by assumption) (by assumption)) ?_) <;> refine T_ch 1 rfl ?_ <;> apply T_nil) | (refine W_ops (id := 3) ?_ <;> refine T_ch 3 rfl ?_ <;> (refine T_go rfl ?_; first | refine G_true (O_call rfl rfl rfl rfl (by assumption)) rfl ?_ | refine G_false (O_call rfl rfl rfl rfl (by assumption)) rfl ?_ | refine G_true (O_call rfl rfl rfl rfl (by assumption)) (by with_reducible assumption) ?_ | refine G_false (O_call rfl rfl rfl rfl (by assumption)) (by with_reducible assumption) ?_ | refine G_true (O_call rfl rfl rfl rfl (by assumption)) (by assumption) ?_ | refine G_false (O_call rfl rfl rfl rfl (by assumption)) (by assumption) ?_ | refine G_split (O_call rfl rfl rfl rfl (by assumption)) (fun _ => ?_) (fun _ => ?_)) <;> refine T_ch 1 rfl ?_ <;> apply T_nil) | (refine W_ops (id := 4) ?_ <;> refine T_ch 1 rfl ?_ <;> (refine T_go rfl ?_; first | refine G_op (O_storeS rfl rfl rfl rfl rfl (by assumption) (by assumption) ⟨rfl, rfl, Nat.le_of_ble_eq_true rfl⟩ rfl) ?_ | refine G_op rfl ?_ | refine G_op (O_storeH rfl rfl rfl rfl (by assumption) ⟨by assumption, rfl, rfl, Nat.le_of_ble_eq_true rfl⟩) ?_ | refine G_op (O_storeH rfl rfl rfl rfl (by assumption) (by assumption)) ?_) <;> refine T_ch 1 rfl ?_ <;> apply T_nil) | (refine W_ops (id := 5) ?_ <;> (refine T_go rfl ?_; first | refine G_op (O_loadS rfl rfl rfl rfl (by assumption) rfl rfl) ?_ | refine G_op rfl ?_ | refine G_op (O_loadH rfl rfl rfl (by assumption) rfl rfl) ?_) <;> (refine T_go rfl ?_; first | refine G_op (O_storeS rfl rfl rfl rfl rfl (by assumption) (by assumption) ⟨rfl, rfl, Nat.le_of_ble_eq_true rfl⟩ rfl) ?_ | refine G_op rfl ?_ | refine G_op (O_storeH rfl rfl rfl rfl (by assumption) ⟨by assumption, rfl, rfl, Nat.le_of_ble_eq_true rfl⟩) ?_ | refine G_op (O_storeH rfl rfl rfl rfl (by assumption) (by assumption)) ?_) <;> refine T_ch 1 rfl ?_ <;> apply T_nil) | apply W_skip | apply W_block | apply W_ret | apply W_exit | refine W_true rfl (by assumption) ?_ | refine W_false rfl (by assumption) ?_ | refine W_cond rfl (fun _ => ?_) (fun _ => ?_)))
    exact ⟨.inl rfl, finish_of (resultsOf_cons (resultOf_hp rfl rfl (hgS _) rfl rfl) (resultsOf_cons rfl rfl)) rfl⟩
  · rw [Bool.true_and] at hokd
    subst hokd
    cases ok
    · rw [if_neg (by simp)] at hcd
      subst hcd
      (repeat' (first | apply W_seq | refine W_true rfl rfl ?_ | refine W_false rfl rfl ?_ | refine W_region (id := 0) rfl ?_ | (refine W_ops (id := 1) ?_ <;> refine T_ch 4 rfl ?_ <;> (refine T_go rfl ?_; refine G_op (O_call rfl rfl rfl rfl (by assumption)) ?_) <;> (refine T_go rfl ?_; first | refine G_true rfl rfl ?_ | refine G_false rfl rfl ?_ | refine G_true rfl (by with_reducible assumption) ?_ | refine G_false rfl (by with_reducible assumption) ?_ | refine G_true rfl (by assumption) ?_ | refine G_false rfl (by assumption) ?_ | refine G_split rfl (fun _ => ?_) (fun _ => ?_)) <;> apply T_nil) | (refine W_ops (id := 2) ?_ <;> refine T_ch 1 rfl ?_ <;> (refine T_go rfl ?_; first | refine G_op (O_storeS rfl rfl rfl rfl rfl (by assumption) (by assumption) ⟨rfl, rfl, Nat.le_of_ble_eq_true rfl⟩ rfl) ?_ | refine G_op rfl ?_ | refine G_op (O_storeH rfl rfl rfl rfl (by assumption) ⟨by assumption, rfl, rfl, Nat.le_of_ble_eq_true rfl⟩) ?_ | refine G_op (O_storeH rfl rfl rfl rfl (by assumption) (by assumption)) ?_) <;> refine T_ch 1 rfl ?_ <;> apply T_nil) | (refine W_ops (id := 3) ?_ <;> refine T_ch 3 rfl ?_ <;> (refine T_go rfl ?_; first | refine G_true (O_call rfl rfl rfl rfl (by assumption)) rfl ?_ | refine G_false (O_call rfl rfl rfl rfl (by assumption)) rfl ?_ | refine G_true (O_call rfl rfl rfl rfl (by assumption)) (by with_reducible assumption) ?_ | refine G_false (O_call rfl rfl rfl rfl (by assumption)) (by with_reducible assumption) ?_ | refine G_true (O_call rfl rfl rfl rfl (by assumption)) (by assumption) ?_ | refine G_false (O_call rfl rfl rfl rfl (by assumption)) (by assumption) ?_ | refine G_split (O_call rfl rfl rfl rfl (by assumption)) (fun _ => ?_) (fun _ => ?_)) <;> refine T_ch 1 rfl ?_ <;> apply T_nil) | (refine W_ops (id := 4) ?_ <;> refine T_ch 1 rfl ?_ <;> (refine T_go rfl ?_; first | refine G_op (O_storeS rfl rfl rfl rfl rfl (by assumption) (by assumption) ⟨rfl, rfl, Nat.le_of_ble_eq_true rfl⟩ rfl) ?_ | refine G_op rfl ?_ | refine G_op (O_storeH rfl rfl rfl rfl (by assumption) ⟨by assumption, rfl, rfl, Nat.le_of_ble_eq_true rfl⟩) ?_ | refine G_op (O_storeH rfl rfl rfl rfl (by assumption) (by assumption)) ?_) <;> refine T_ch 1 rfl ?_ <;> apply T_nil) | (refine W_ops (id := 5) ?_ <;> (refine T_go rfl ?_; first | refine G_op (O_loadS rfl rfl rfl rfl (by assumption) rfl rfl) ?_ | refine G_op rfl ?_ | refine G_op (O_loadH rfl rfl rfl (by assumption) rfl rfl) ?_) <;> (refine T_go rfl ?_; first | refine G_op (O_storeS rfl rfl rfl rfl rfl (by assumption) (by assumption) ⟨rfl, rfl, Nat.le_of_ble_eq_true rfl⟩ rfl) ?_ | refine G_op rfl ?_ | refine G_op (O_storeH rfl rfl rfl rfl (by assumption) ⟨by assumption, rfl, rfl, Nat.le_of_ble_eq_true rfl⟩) ?_ | refine G_op (O_storeH rfl rfl rfl rfl (by assumption) (by assumption)) ?_) <;> refine T_ch 1 rfl ?_ <;> apply T_nil) | apply W_skip | apply W_block | apply W_ret | apply W_exit | refine W_true rfl (by assumption) ?_ | refine W_false rfl (by assumption) ?_ | refine W_cond rfl (fun _ => ?_) (fun _ => ?_)))
      exact ⟨.inl rfl, finish_of (resultsOf_cons (resultOf_hp rfl rfl (hgS _) rfl rfl) (resultsOf_cons rfl rfl)) rfl⟩
    · rw [if_pos rfl] at hcd
      subst hcd
      (repeat' (first | apply W_seq | refine W_true rfl rfl ?_ | refine W_false rfl rfl ?_ | refine W_region (id := 0) rfl ?_ | (refine W_ops (id := 1) ?_ <;> refine T_ch 4 rfl ?_ <;> (refine T_go rfl ?_; refine G_op (O_call rfl rfl rfl rfl (by assumption)) ?_) <;> (refine T_go rfl ?_; first | refine G_true rfl rfl ?_ | refine G_false rfl rfl ?_ | refine G_true rfl (by with_reducible assumption) ?_ | refine G_false rfl (by with_reducible assumption) ?_ | refine G_true rfl (by assumption) ?_ | refine G_false rfl (by assumption) ?_ | refine G_split rfl (fun _ => ?_) (fun _ => ?_)) <;> apply T_nil) | (refine W_ops (id := 2) ?_ <;> refine T_ch 1 rfl ?_ <;> (refine T_go rfl ?_; first | refine G_op (O_storeS rfl rfl rfl rfl rfl (by assumption) (by assumption) ⟨rfl, rfl, Nat.le_of_ble_eq_true rfl⟩ rfl) ?_ | refine G_op rfl ?_ | refine G_op (O_storeH rfl rfl rfl rfl (by assumption) ⟨by assumption, rfl, rfl, Nat.le_of_ble_eq_true rfl⟩) ?_ | refine G_op (O_storeH rfl rfl rfl rfl (by assumption) (by assumption)) ?_) <;> refine T_ch 1 rfl ?_ <;> apply T_nil) | (refine W_ops (id := 3) ?_ <;> refine T_ch 3 rfl ?_ <;> (refine T_go rfl ?_; first | refine G_true (O_call rfl rfl rfl rfl (by assumption)) rfl ?_ | refine G_false (O_call rfl rfl rfl rfl (by assumption)) rfl ?_ | refine G_true (O_call rfl rfl rfl rfl (by assumption)) (by with_reducible assumption) ?_ | refine G_false (O_call rfl rfl rfl rfl (by assumption)) (by with_reducible assumption) ?_ | refine G_true (O_call rfl rfl rfl rfl (by assumption)) (by assumption) ?_ | refine G_false (O_call rfl rfl rfl rfl (by assumption)) (by assumption) ?_ | refine G_split (O_call rfl rfl rfl rfl (by assumption)) (fun _ => ?_) (fun _ => ?_)) <;> refine T_ch 1 rfl ?_ <;> apply T_nil) | (refine W_ops (id := 4) ?_ <;> refine T_ch 1 rfl ?_ <;> (refine T_go rfl ?_; first | refine G_op (O_storeS rfl rfl rfl rfl rfl (by assumption) (by assumption) ⟨rfl, rfl, Nat.le_of_ble_eq_true rfl⟩ rfl) ?_ | refine G_op rfl ?_ | refine G_op (O_storeH rfl rfl rfl rfl (by assumption) ⟨by assumption, rfl, rfl, Nat.le_of_ble_eq_true rfl⟩) ?_ | refine G_op (O_storeH rfl rfl rfl rfl (by assumption) (by assumption)) ?_) <;> refine T_ch 1 rfl ?_ <;> apply T_nil) | (refine W_ops (id := 5) ?_ <;> (refine T_go rfl ?_; first | refine G_op (O_loadS rfl rfl rfl rfl (by assumption) rfl rfl) ?_ | refine G_op rfl ?_ | refine G_op (O_loadH rfl rfl rfl (by assumption) rfl rfl) ?_) <;> (refine T_go rfl ?_; first | refine G_op (O_storeS rfl rfl rfl rfl rfl (by assumption) (by assumption) ⟨rfl, rfl, Nat.le_of_ble_eq_true rfl⟩ rfl) ?_ | refine G_op rfl ?_ | refine G_op (O_storeH rfl rfl rfl rfl (by assumption) ⟨by assumption, rfl, rfl, Nat.le_of_ble_eq_true rfl⟩) ?_ | refine G_op (O_storeH rfl rfl rfl rfl (by assumption) (by assumption)) ?_) <;> refine T_ch 1 rfl ?_ <;> apply T_nil) | apply W_skip | apply W_block | apply W_ret | apply W_exit | refine W_true rfl (by assumption) ?_ | refine W_false rfl (by assumption) ?_ | refine W_cond rfl (fun _ => ?_) (fun _ => ?_)))
      exact ⟨.inl rfl, finish_of (resultsOf_cons (resultOf_hp rfl rfl (hgS _) rfl rfl) (resultsOf_cons rfl rfl)) rfl⟩
theorem checkP_run (p : Pr') (k : Nat) (hk : smsK p.body + 71 ≤ k) (hb : prB p) (h : Heap) (lo : Nat) : call Try.prog cfg (k + 1) lo (.func 107) [.agg (prC p)] h = some (.int .i64 (errI 30 (okP p)), h) := by
  have hC := counted_run p (k - 1) (by omega) hb h h.length
  rw [show k - 1 + 1 = k by omega] at hC
  obtain ⟨w, vs, body⟩ := p
  apply W_call Try.func107 rfl (Nat.le_of_ble_eq_true rfl) rfl
  (repeat' (first | apply W_seq | refine W_true rfl rfl ?_ | refine W_false rfl rfl ?_ | refine W_region (id := 0) rfl ?_ | (refine W_ops (id := 1) ?_ <;> refine T_ch 1 rfl ?_ <;> (refine T_go rfl ?_; refine G_op (O_call rfl rfl rfl rfl (by assumption)) ?_) <;> refine T_ch 2 rfl ?_ <;> (refine T_go rfl ?_; first | refine G_true rfl rfl ?_ | refine G_false rfl rfl ?_ | refine G_true rfl (by with_reducible assumption) ?_ | refine G_false rfl (by with_reducible assumption) ?_ | refine G_true rfl (by assumption) ?_ | refine G_false rfl (by assumption) ?_ | refine G_split rfl (fun _ => ?_) (fun _ => ?_)) <;> refine T_ch 3 rfl ?_ <;> apply T_nil) | refine W_region (id := 2) rfl ?_ | refine W_region (id := 3) rfl ?_ | refine W_region (id := 4) rfl ?_ | apply W_skip | apply W_block | apply W_ret | apply W_exit | refine W_true rfl (by assumption) ?_ | refine W_false rfl (by assumption) ?_ | refine W_cond rfl (fun _ => ?_) (fun _ => ?_)))
  all_goals exact ⟨.inl rfl, Eq.trans (b := some (AV.int .i64 _, _)) rfl (by simp [errI, *])⟩

def yldS (x : Bool) (_ : Int) : Sm' → Bool × Bool
  | .mk op n _ _ _ => if (op == 3 && decide (n > 15)) = true then (false, true) else (true, x)
theorem yldS_ok : ∀ (x : Bool) (n : Int) (s : Sm'), x = false → (yldS x n s).1 = true → (yldS x n s).2 = false
  | x, n, .mk op nn a t e, hx, h => by
    subst hx
    unfold yldS at h ⊢
    dsimp only at h ⊢
    by_cases hc : (op == 3 && decide (nn > 15)) = true
    · rw [if_pos hc] at h; cases h
    · rw [if_neg hc]
mutual
theorem walk1_low : ∀ (s : Sm') (n : Int), (walk1 yldS s false n).1 = low1 s ∧ (walk1 yldS s false n).2.1 = !low1 s
  | .mk op nn a t e, n => by
    rw [walk1, low1]
    simp only [yldS]
    by_cases hc : (op == 3 && decide (nn > 15)) = true
    · simp only [hc, if_true, Bool.false_eq_true, if_false, Bool.not_true, Bool.false_and, Bool.not_false, and_self]
    · have hc' : (op == 3 && decide (nn > 15)) = false := by simpa using hc
      obtain ⟨h1, h2⟩ := walkL_low t (IntKind.i64.wrap (n + 1))
      simp only [hc', Bool.false_eq_true, if_false, if_true, Bool.not_false, Bool.true_and]
      cases hl : lowSs t with
      | false => rw [hl] at h1 h2; rw [if_neg (by rw [h1]; simp)]; simp [h1, h2]
      | true =>
        rw [hl] at h1 h2
        rw [if_pos h1, h2]
        obtain ⟨h3, h4⟩ := walkL_low e (walkL yldS t false (IntKind.i64.wrap (n + 1))).2.2
        simp [h3, h4]
theorem walkL_low : ∀ (l : List Sm') (n : Int), (walkL yldS l false n).1 = lowSs l ∧ (walkL yldS l false n).2.1 = !lowSs l
  | [], n => by rw [walkL, lowSs]; simp
  | s :: l, n => by
    rw [walkL, lowSs]
    obtain ⟨h1, h2⟩ := walk1_low s n
    cases hl : low1 s with
    | false => rw [hl] at h1 h2; rw [if_neg (by rw [h1]; simp)]; simp [h1, h2]
    | true =>
      rw [hl] at h1 h2
      rw [if_pos h1, h2]
      obtain ⟨h3, h4⟩ := walkL_low l (walk1 yldS s false n).2.2
      simp [h3, h4]
end

def stopL (r : LoopA) : Bool → LoopA
  | false => r
  | true => { r with st := 2, pending := some .ret }
end Go.Proofs.Ytelobnllkhnpaaa.L
