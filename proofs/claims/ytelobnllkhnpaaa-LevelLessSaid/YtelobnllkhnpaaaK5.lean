/- prog.counted, prog.Check, prog.Single. -/
import Derived.Test.YtelobnllkhnpaaaK4
open Go Go.Proofs Go.Ev Go.Proofs.Ytelobnllkhnpaaa.E
namespace Go.Proofs.Ytelobnllkhnpaaa.L
set_option linter.unusedVariables false
set_option linter.unusedSimpArgs false
set_option maxHeartbeats 2000000
set_option maxRecDepth 100000

theorem resultOf_hp {C : Cfg} {s : St} {a t id n off T : Nat} {ti : TI} {xs : List AV} {x : AV} (ht : Go.Ev.look C.tab t = some ti) (ha : Go.Ev.look s.env a = some (.v (.hp id n off))) (hH : s.heap[id]? = some (.cells T xs)) (hn : n = xs.length) (hp : Go.Ev.part ti xs off = some x) : resultOf C s (.cell a t) = some x := by
  unfold resultOf
  dsimp only
  rw [ht, ha]
  dsimp only
  rw [hH]
  dsimp only
  rw [if_pos hn, hp]
theorem resultsOf_cons {C : Cfg} {s : St} {r : ResultVar} {l : List ResultVar} {x : AV} {xs : List AV} (h1 : resultOf C s r = some x) (h2 : resultsOf C s l = some xs) : resultsOf C s (r :: l) = some (x :: xs) := by
  simp only [resultsOf, h1, h2]
theorem finish_of {C : Cfg} {fn : Func} {fid : Nat} {h : Heap} {s : St} {xs : List AV} {out : AV × Heap} (hr : resultsOf C s fn.results.toList = some xs) (hh : handF (C.nz fid) (C.cut fid) h (packed xs) s.heap = some out) : finish C fn fid h s = some out := by
  unfold finish
  rw [hr]
  cases xs with
  | nil => exact hh
  | cons a l => cases l <;> exact hh

def okP (p : Pr') : Bool := headPB p.width p.vars && (fineG p.width p.vars p.body 1 0 0).1
def countI (p : Pr') : Int × Int := if okP p = true then (fineG p.width p.vars p.body 1 0 0).2 else (0, 0)
theorem counted_run (p : Pr') (k : Nat) (hk : smsK p.body + 70 ≤ k) (hb : prB p) (h : Heap) (lo : Nat) : call Try.prog cfg (k + 1) lo (.func 131) [.agg (prC p)] h = some (.tup [.agg [.int .i64 (countI p).1, .int .i64 (countI p).2], .bool (okP p)], h) := by
  have hH := headP_run p.width p.vars (k - 1) (by omega) (h ++ [HObj.cells 173 [.int .i64 0, .int .i64 0]]) h.length
  rw [show k - 1 + 1 = k by omega] at hH
  have hF := fineS_run p (h ++ [HObj.cells 173 [.int .i64 0, .int .i64 0]]) h.length h.length (by simp) (Nat.le_refl _) k p.body (by omega) hb.2.1 hb.2.2 1 0 0
  have hset : (h ++ [HObj.cells 173 [.int .i64 0, .int .i64 0]]).set h.length (.cells 173 [.int .i64 0, .int .i64 0]) = h ++ [HObj.cells 173 [.int .i64 0, .int .i64 0]] := by simp
  rw [hset] at hF
  have hlo : h.length ≤ h.length := Nat.le_refl _
  have hid : h.length < (h ++ [HObj.cells 173 [.int .i64 0, .int .i64 0]]).length := by simp
  have hget : (h ++ [HObj.cells 173 [.int .i64 0, .int .i64 0]])[h.length]? = some (.cells 173 [.int .i64 0, .int .i64 0]) := by simp
  have hokd : okP p = (headPB p.width p.vars && (fineG p.width p.vars p.body 1 0 0).1) := rfl
  have hcd : countI p = if okP p = true then (fineG p.width p.vars p.body 1 0 0).2 else (0, 0) := rfl
  generalize okP p = ok at hokd hcd
  generalize countI p = ct at hcd
  generalize fineG p.width p.vars p.body 1 0 0 = R at hF hokd hcd
  generalize headPB p.width p.vars = hp at hH hokd
  obtain ⟨w, vs, body⟩ := p
  dsimp only at hH hF
  obtain ⟨r1, r2, r3⟩ := R
  dsimp only at hF hokd hcd
  have hgS : ∀ X : HObj, ((h ++ [HObj.cells 173 [.int .i64 0, .int .i64 0]]).set h.length X)[h.length]? = some X := fun X => List.getElem?_set_self hid
  apply W_call Try.func131 rfl (Nat.le_of_ble_eq_true rfl) rfl rfl
  cases hp
  · subst hokd
    rw [Bool.false_and, if_neg (by simp)] at hcd
    subst hcd
    (repeat' (first | apply W_seq | refine W_true rfl rfl ?_ | refine W_false rfl rfl ?_ | refine W_region (id := 0) rfl rfl ?_ | (refine W_ops (id := 1) rfl ?_ <;> refine T_ch 4 rfl ?_ <;> (refine T_go rfl ?_; refine G_op (O_call rfl rfl rfl rfl (by assumption)) ?_) <;> (refine T_go rfl ?_; refine G_true rfl rfl ?_) <;> apply T_nil) | (refine W_ops (id := 2) rfl ?_ <;> refine T_ch 1 rfl ?_ <;> (refine T_go rfl ?_; refine G_op (O_storeH rfl rfl rfl rfl (by assumption) ⟨by assumption, rfl, rfl, Nat.le_of_ble_eq_true rfl⟩) ?_) <;> refine T_ch 1 rfl ?_ <;> apply T_nil) | apply W_skip | apply W_block | apply W_ret | apply W_exit | refine W_true rfl (by assumption) ?_ | refine W_false rfl (by assumption) ?_ | refine W_cond rfl (fun _ => ?_) (fun _ => ?_)))
    exact ⟨.inl rfl, finish_of (resultsOf_cons (resultOf_hp rfl rfl (hgS _) rfl rfl) (resultsOf_cons rfl rfl)) rfl⟩
  · rw [Bool.true_and] at hokd
    subst hokd
    cases ok
    · rw [if_neg (by simp)] at hcd
      subst hcd
      (repeat' (first | apply W_seq | refine W_true rfl rfl ?_ | refine W_false rfl rfl ?_ | refine W_region (id := 0) rfl rfl ?_ | (refine W_ops (id := 1) rfl ?_ <;> refine T_ch 4 rfl ?_ <;> (refine T_go rfl ?_; refine G_op (O_call rfl rfl rfl rfl (by assumption)) ?_) <;> (refine T_go rfl ?_; refine G_false rfl rfl ?_) <;> apply T_nil) | (refine W_ops (id := 3) rfl ?_ <;> refine T_ch 3 rfl ?_ <;> (refine T_go rfl ?_; refine G_false (O_call rfl rfl rfl rfl (by assumption)) rfl ?_) <;> refine T_ch 1 rfl ?_ <;> apply T_nil) | (refine W_ops (id := 4) rfl ?_ <;> refine T_ch 1 rfl ?_ <;> (refine T_go rfl ?_; refine G_op (O_storeS rfl rfl rfl rfl rfl (by assumption) (by assumption) ⟨rfl, rfl, Nat.le_of_ble_eq_true rfl⟩ rfl) ?_) <;> refine T_ch 1 rfl ?_ <;> apply T_nil) | apply W_skip | apply W_block | apply W_ret | apply W_exit | refine W_true rfl (by assumption) ?_ | refine W_false rfl (by assumption) ?_ | refine W_cond rfl (fun _ => ?_) (fun _ => ?_)))
      exact ⟨.inl rfl, finish_of (resultsOf_cons (resultOf_hp rfl rfl (hgS _) rfl rfl) (resultsOf_cons rfl rfl)) rfl⟩
    · rw [if_pos rfl] at hcd
      subst hcd
      (repeat' (first | apply W_seq | refine W_true rfl rfl ?_ | refine W_false rfl rfl ?_ | refine W_region (id := 0) rfl rfl ?_ | (refine W_ops (id := 1) rfl ?_ <;> refine T_ch 4 rfl ?_ <;> (refine T_go rfl ?_; refine G_op (O_call rfl rfl rfl rfl (by assumption)) ?_) <;> (refine T_go rfl ?_; refine G_false rfl rfl ?_) <;> apply T_nil) | (refine W_ops (id := 3) rfl ?_ <;> refine T_ch 3 rfl ?_ <;> (refine T_go rfl ?_; refine G_true (O_call rfl rfl rfl rfl (by assumption)) rfl ?_) <;> refine T_ch 1 rfl ?_ <;> apply T_nil) | (refine W_ops (id := 5) rfl ?_ <;> (refine T_go rfl ?_; refine G_op (O_loadS rfl rfl rfl rfl (by assumption) rfl rfl) ?_) <;> (refine T_go rfl ?_; refine G_op (O_storeS rfl rfl rfl rfl rfl (by assumption) (by assumption) ⟨rfl, rfl, Nat.le_of_ble_eq_true rfl⟩ rfl) ?_) <;> refine T_ch 1 rfl ?_ <;> apply T_nil) | apply W_skip | apply W_block | apply W_ret | apply W_exit | refine W_true rfl (by assumption) ?_ | refine W_false rfl (by assumption) ?_ | refine W_cond rfl (fun _ => ?_) (fun _ => ?_)))
      exact ⟨.inl rfl, finish_of (resultsOf_cons (resultOf_hp rfl rfl (hgS _) rfl rfl) (resultsOf_cons rfl rfl)) rfl⟩
theorem checkP_run (p : Pr') (k : Nat) (hk : smsK p.body + 71 ≤ k) (hb : prB p) (h : Heap) (lo : Nat) : call Try.prog cfg (k + 1) lo (.func 107) [.agg (prC p)] h = some (.int .i64 (errI 30 (okP p)), h) := by
  have hC := counted_run p (k - 1) (by omega) hb h h.length
  rw [show k - 1 + 1 = k by omega] at hC
  obtain ⟨w, vs, body⟩ := p
  apply W_call Try.func107 rfl (Nat.le_of_ble_eq_true rfl) rfl rfl
  (repeat' (first | apply W_seq | refine W_true rfl rfl ?_ | refine W_false rfl rfl ?_ | refine W_region (id := 0) rfl rfl ?_ | (refine W_ops (id := 1) rfl ?_ <;> refine T_ch 1 rfl ?_ <;> (refine T_go rfl ?_; refine G_op (O_call rfl rfl rfl rfl (by assumption)) ?_) <;> refine T_ch 2 rfl ?_ <;> (refine T_go rfl ?_; refine G_split rfl (fun _ => ?_) (fun _ => ?_)) <;> refine T_ch 3 rfl ?_ <;> apply T_nil) | refine W_region (id := 2) rfl rfl ?_ | refine W_region (id := 3) rfl rfl ?_ | refine W_region (id := 4) rfl rfl ?_ | apply W_skip | apply W_block | apply W_ret | apply W_exit | refine W_true rfl (by assumption) ?_ | refine W_false rfl (by assumption) ?_ | refine W_cond rfl (fun _ => ?_) (fun _ => ?_)))
  all_goals exact ⟨.inl rfl, Eq.trans (b := some (AV.int .i64 _, _)) rfl (by simp [errI, *])⟩

def yldS (x : Bool) (_ : Int) : Sm' → Bool × Bool
  | .mk op n _ _ _ => if (op == 3 && decide (n > 15)) = true then (false, true) else (true, x)
theorem yldS_ok : ∀ (x : Bool) (n : Int) (s : Sm'), x = false → (yldS x n s).1 = true → (yldS x n s).2 = false
  | x, n, .mk op nn a t e, hx, h => by
    subst hx
    unfold yldS at h ⊢
    dsimp only at h ⊢
    by_cases hc : (op == 3 && decide (nn > 15)) = true
    · rw [if_pos hc] at h; cases h
    · rw [if_neg hc]
mutual
theorem walk1_low : ∀ (s : Sm') (n : Int), (walk1 yldS s false n).1 = low1 s ∧ (walk1 yldS s false n).2.1 = !low1 s
  | .mk op nn a t e, n => by
    rw [walk1, low1]
    simp only [yldS]
    by_cases hc : (op == 3 && decide (nn > 15)) = true
    · simp only [hc, if_true, Bool.false_eq_true, if_false, Bool.not_true, Bool.false_and, Bool.not_false, and_self]
    · have hc' : (op == 3 && decide (nn > 15)) = false := by simpa using hc
      obtain ⟨h1, h2⟩ := walkL_low t (IntKind.i64.wrap (n + 1))
      simp only [hc', Bool.false_eq_true, if_false, if_true, Bool.not_false, Bool.true_and]
      cases hl : lowSs t with
      | false => rw [hl] at h1 h2; rw [if_neg (by rw [h1]; simp)]; simp [h1, h2]
      | true =>
        rw [hl] at h1 h2
        rw [if_pos h1, h2]
        obtain ⟨h3, h4⟩ := walkL_low e (walkL yldS t false (IntKind.i64.wrap (n + 1))).2.2
        simp [h3, h4]
theorem walkL_low : ∀ (l : List Sm') (n : Int), (walkL yldS l false n).1 = lowSs l ∧ (walkL yldS l false n).2.1 = !lowSs l
  | [], n => by rw [walkL, lowSs]; simp
  | s :: l, n => by
    rw [walkL, lowSs]
    obtain ⟨h1, h2⟩ := walk1_low s n
    cases hl : low1 s with
    | false => rw [hl] at h1 h2; rw [if_neg (by rw [h1]; simp)]; simp [h1, h2]
    | true =>
      rw [hl] at h1 h2
      rw [if_pos h1, h2]
      obtain ⟨h3, h4⟩ := walkL_low l (walk1 yldS s false n).2.2
      simp [h3, h4]
end

def stopL (r : LoopA) : Bool → LoopA
  | false => r
  | true => { r with st := 2, pending := some .ret }
end Go.Proofs.Ytelobnllkhnpaaa.L
/- prog.Single. -/
open Go Go.Proofs Go.Ev Go.Proofs.Ytelobnllkhnpaaa.E
namespace Go.Proofs.Ytelobnllkhnpaaa.L
set_option linter.unusedVariables false
set_option linter.unusedSimpArgs false
set_option maxHeartbeats 2000000
set_option maxRecDepth 100000

theorem each1_loop (HH : Heap) (rc : LoopA) (lo : Nat) (hlo : lo ≤ HH.length) (p : Pr') (hb : prB p) (idp : Nat) (hp : HH[idp]? = some (.cells 25 (prC p))) (k : Nat) (hk : smsK p.body + 22 ≤ k)
    (hY : ∀ (k : Nat) (s : Sm') (n m : Int), smK s + 20 ≤ k → smB s → call Try.prog cfg k lo (.yield HH.length) [.int .i64 n, .agg (smC s)] (HH ++ [.loop rc] ++ [.cells 3 [.int .i64 m]]) = some (.bool (yldS false n s).1, HH ++ [.loop (stopL rc (yldS false n s).2)] ++ [.cells 3 [.int .i64 m]])) :
    call Try.prog cfg (k + 1) lo (.func 132) [.fn (.yield HH.length) [], .hp idp 3 0] (HH ++ [.loop rc]) = some (.tup [], HH ++ [.loop (stopL rc (!lowSs p.body))] ++ [.cells 3 [.int .i64 (walkL yldS p.body false 0).2.2]]) := by
  have := each1_run yldS (fun x => x = false) yldS_ok (fun x => HH ++ [HObj.loop (stopL rc x)]) (HH.length + 1) lo (fun x => by simp) (by omega) (.yield HH.length) 20 p hb idp false rfl
    (by rw [List.getElem?_append_left (cells_lt hp)]; exact hp) (fun k s x n m h1 h2 h3 => by subst h3; exact hY k s n m h1 h2) k (by omega)
  rw [(walkL_low p.body 0).2] at this
  exact this
theorem stopL_ne (r : LoopA) (h : r.st = 0) (b : Bool) : (stopL r b).st ≠ 1 := by
  cases b
  · show r.st ≠ 1; rw [h]; simp
  · show (2 : Nat) ≠ 1; simp
def HHs (h : Heap) (p : Pr') : Heap := h ++ [.cells 4 [.bool false]] ++ [.cells 32 [.int .i64 0]] ++ [.cells 25 (prC p)]
def spS (h : Heap) (p : Pr') (vs : List Vr') (i : Int) (_ : Unit) : St :=
  { env := [(1, .p 1 0), (2, .v (.hp h.length 1 0)), (3, .v (.hp (h ++ [HObj.cells 4 [.bool false]]).length 1 0)), (12, .v (.vs 3 (vsC vs))), (13, .v (.int .i64 (vsC vs).length)), (14, .v (.int .i64 i))], loc := [(1, prC p)], heap := h ++ [.cells 4 [.bool false]] ++ [.cells 32 [.int .i64 0]], inRound := false, lo := h.length }
def singleP (p : Pr') : Bool := okP p && singleR p
set_option maxHeartbeats 1000000 in
theorem singleP_run (p : Pr') (k : Nat) (hk : smsK p.body + p.vars.length + 80 ≤ k) (hb : prB p) (h : Heap) (lo : Nat) : call Try.prog cfg (k + 2) lo (.func 81) [.agg (prC p)] h = some (.tup [.bool (singleP p), .int .i64 (errI 30 (okP p))], h) := by
  have hC := checkP_run p k (by omega) hb (h ++ [HObj.cells 4 [.bool false]] ++ [HObj.cells 32 [.int .i64 0]]) h.length
  have hE := each_run p k h.length (h ++ [HObj.cells 4 [.bool false]] ++ [HObj.cells 32 [.int .i64 0]])
  have hSr : singleR p = (p.vars.all (fun v => !decide (v.level > 15)) && lowSs p.body) := rfl
  have hSp : singleP p = (okP p && singleR p) := rfl
  generalize singleP p = sp at hSp
  generalize singleR p = sr at hSr hSp
  generalize okP p = ok at hC hSp
  have hlo : h.length ≤ h.length := Nat.le_refl _
  have hlo2 : h.length ≤ (h ++ [HObj.cells 4 [.bool false]]).length := by simp
  have hg1 : (h ++ [HObj.cells 4 [.bool false]] ++ [HObj.cells 32 [.int .i64 0]])[h.length]? = some (.cells 4 [.bool false]) := by simp
  have hg2 : ∀ X : HObj, ((h ++ [HObj.cells 4 [.bool false]] ++ [HObj.cells 32 [.int .i64 0]]).set h.length X)[(h ++ [HObj.cells 4 [.bool false]]).length]? = some (.cells 32 [.int .i64 0]) := fun X => by simp [List.getElem?_set, List.getElem?_append]
  have hr1 : ∀ X Y : HObj, (((h ++ [HObj.cells 4 [.bool false]] ++ [HObj.cells 32 [.int .i64 0]]).set h.length X).set (h ++ [HObj.cells 4 [.bool false]]).length Y)[h.length]? = some X := fun X Y => by simp [List.getElem?_set, List.getElem?_append]
  have hr2 : ∀ X Y : HObj, (((h ++ [HObj.cells 4 [.bool false]] ++ [HObj.cells 32 [.int .i64 0]]).set h.length X).set (h ++ [HObj.cells 4 [.bool false]]).length Y)[(h ++ [HObj.cells 4 [.bool false]]).length]? = some Y := fun X Y => by simp [List.getElem?_set, List.getElem?_append]
  have hgf := hg2 (.cells 4 [.bool false])
  have hgt := hg2 (.cells 4 [.bool true])
  obtain ⟨w, vs, body⟩ := p
  have hvl := vsC_len vs
  dsimp only at hSr hk
  apply W_call Try.func81 rfl (Nat.le_of_ble_eq_true rfl) rfl rfl
  cases ok
  · rw [Bool.false_and] at hSp
    subst hSp
    (repeat' (first | apply W_seq | refine W_true rfl rfl ?_ | refine W_false rfl rfl ?_ | refine W_region (id := 0) rfl rfl ?_ | (refine W_ops (id := 1) rfl ?_ <;> refine T_ch 1 rfl ?_ <;> (refine T_go rfl ?_; refine G_op (O_call rfl rfl rfl rfl (by assumption)) ?_) <;> (refine T_go rfl ?_; refine G_true rfl rfl ?_) <;> apply T_nil) | (refine W_ops (id := 2) rfl ?_ <;> (refine T_go rfl ?_; refine G_op (O_storeH rfl rfl rfl rfl (by assumption) ⟨by assumption, rfl, rfl, Nat.le_of_ble_eq_true rfl⟩) ?_) <;> (refine T_go rfl ?_; refine G_op (O_storeH rfl rfl rfl rfl (by assumption) ⟨by assumption, rfl, rfl, Nat.le_of_ble_eq_true rfl⟩) ?_) <;> apply T_nil) | apply W_skip | apply W_block | apply W_ret | apply W_exit | refine W_true rfl (by assumption) ?_ | refine W_false rfl (by assumption) ?_ | refine W_cond rfl (fun _ => ?_) (fun _ => ?_)))
    exact ⟨.inl rfl, finish_of (resultsOf_cons (resultOf_hp rfl rfl (hr1 _ _) rfl rfl) (resultsOf_cons (resultOf_hp rfl rfl (hr2 _ _) rfl rfl) rfl)) rfl⟩
  · rw [Bool.true_and] at hSp
    subst hSp
    (repeat' (first | apply W_seq | refine W_true rfl rfl ?_ | refine W_false rfl rfl ?_ | refine W_region (id := 0) rfl rfl ?_ | (refine W_ops (id := 1) rfl ?_ <;> refine T_ch 1 rfl ?_ <;> (refine T_go rfl ?_; refine G_op (O_call rfl rfl rfl rfl (by assumption)) ?_) <;> (refine T_go rfl ?_; refine G_false rfl rfl ?_) <;> apply T_nil) | refine W_region (id := 3) rfl rfl ?_ | apply W_skip | apply W_block | apply W_ret | apply W_exit | refine W_true rfl (by assumption) ?_ | refine W_false rfl (by assumption) ?_ | refine W_cond rfl (fun _ => ?_) (fun _ => ?_)))
    apply W_iter (S := spS h ⟨w, vs, body⟩ vs) (l := vs) (a0 := ()) (fun rest _ => (rest.all (fun v => !decide (v.level > 15)) && lowSs body) = sp) hb.1.1 (by omega) rfl hSr.symm
    · intro i v rest _ hi hd hil hJ
      have hrow := vsC_get hi
      have hlt := lt_vsC hil
      rw [List.all_cons] at hJ
      obtain ⟨nm, level, cells⟩ := v
      dsimp only at hJ
      (repeat' (first | apply W_seq | refine W_true rfl rfl ?_ | refine W_false rfl rfl ?_ | (refine W_ops (id := 4) rfl ?_ <;> (refine T_go rfl ?_; refine G_true rfl (by with_reducible assumption) ?_) <;> apply T_nil) | (refine W_ops (id := 5) rfl ?_ <;> (refine T_go rfl ?_; refine G_op (O_index rfl rfl rfl rfl rfl (by assumption)) ?_) <;> (refine T_go rfl ?_; refine G_op rfl ?_) <;> refine T_ch 2 rfl ?_ <;> apply T_nil) | (refine W_ops (id := 6) rfl ?_ <;> refine T_ch 2 rfl ?_ <;> (refine T_go rfl ?_; refine G_split rfl (fun _ => ?_) (fun _ => ?_)) <;> apply T_nil) | (refine W_ops (id := 7) rfl ?_ <;> (refine T_go rfl ?_; refine G_op (O_storeH rfl rfl rfl rfl (by assumption) ⟨by assumption, rfl, rfl, Nat.le_of_ble_eq_true rfl⟩) ?_) <;> (refine T_go rfl ?_; refine G_op (O_storeH rfl rfl rfl rfl (by assumption) ⟨by assumption, rfl, rfl, Nat.le_of_ble_eq_true rfl⟩) ?_) <;> apply T_nil) | refine W_region (id := 8) rfl rfl ?_ | apply W_skip | apply W_block | apply W_ret | apply W_exit | refine W_true rfl (by assumption) ?_ | refine W_false rfl (by assumption) ?_ | refine W_cond rfl (fun _ => ?_) (fun _ => ?_)))
      · rename_i hf
        rw [hf] at hJ
        simp only [Bool.not_true, Bool.false_and] at hJ
        subst hJ
        exact ⟨.inl rfl, finish_of (resultsOf_cons (resultOf_hp rfl rfl (hr1 _ _) rfl rfl) (resultsOf_cons (resultOf_hp rfl rfl (hr2 _ _) rfl rfl) rfl)) rfl⟩
      · rename_i hf; exact ⟨(), rfl, by rw [hf] at hJ; simpa using hJ⟩
    · intro _ hJ
      have hlt := ge_vsC (l := vs)
      rw [List.all_nil, Bool.true_and] at hJ
      (repeat' (first | apply W_seq | refine W_true rfl rfl ?_ | refine W_false rfl rfl ?_ | (refine W_ops (id := 4) rfl ?_ <;> (refine T_go rfl ?_; refine G_false rfl (by with_reducible assumption) ?_) <;> apply T_nil) | (refine W_ops (id := 9) rfl ?_ <;> refine T_ch 1 rfl ?_ <;> (refine T_go rfl ?_; refine G_op (O_call rfl rfl rfl rfl (by assumption)) ?_) <;> apply T_nil) | apply W_skip | apply W_block | apply W_ret | apply W_exit | refine W_true rfl (by assumption) ?_ | refine W_false rfl (by assumption) ?_ | refine W_cond rfl (fun _ => ?_) (fun _ => ?_)))
      generalize hA2 : HObj.cells 25 (prC ⟨w, vs, body⟩) = A2
      have hlo4 : h.length ≤ (h ++ [HObj.cells 4 [.bool false]] ++ [HObj.cells 32 [.int .i64 0]] ++ [A2]).length := by first | (simp; done) | (simp; omega)
      have ha : ∀ X c Y : HObj, ((h ++ [HObj.cells 4 [.bool false]] ++ [HObj.cells 32 [.int .i64 0]] ++ [A2] ++ [X] ++ [c]).set (h ++ [HObj.cells 4 [.bool false]] ++ [HObj.cells 32 [.int .i64 0]] ++ [A2]).length Y)[h.length]? = some (.cells 4 [.bool false]) := fun X c Y => by
        rw [List.getElem?_set_ne (by first | (simp; done) | (simp; omega))]; simp
      have hb' : ∀ X c Y Z : HObj, (((h ++ [HObj.cells 4 [.bool false]] ++ [HObj.cells 32 [.int .i64 0]] ++ [A2] ++ [X] ++ [c]).set (h ++ [HObj.cells 4 [.bool false]] ++ [HObj.cells 32 [.int .i64 0]] ++ [A2]).length Y).set h.length Z)[(h ++ [HObj.cells 4 [.bool false]]).length]? = some (.cells 32 [.int .i64 0]) := fun X c Y Z => by
        rw [List.getElem?_set_ne (by simp), List.getElem?_set_ne (by simp)]; simp
      have hc' : ∀ X c Y Z V : HObj, ((((h ++ [HObj.cells 4 [.bool false]] ++ [HObj.cells 32 [.int .i64 0]] ++ [A2] ++ [X] ++ [c]).set (h ++ [HObj.cells 4 [.bool false]] ++ [HObj.cells 32 [.int .i64 0]] ++ [A2]).length Y).set h.length Z).set (h ++ [HObj.cells 4 [.bool false]]).length V)[(h ++ [HObj.cells 4 [.bool false]] ++ [HObj.cells 32 [.int .i64 0]] ++ [A2]).length]? = some Y := fun X c Y Z V => by
        rw [List.getElem?_set_ne (by simp), List.getElem?_set_ne (by first | (simp; done) | (simp; omega)), List.getElem?_set_self (by first | (simp; done) | (simp; omega))]
      have hd' : ∀ X c Y Y' : HObj, ((((h ++ [HObj.cells 4 [.bool false]] ++ [HObj.cells 32 [.int .i64 0]] ++ [A2] ++ [X] ++ [c]).set (h ++ [HObj.cells 4 [.bool false]] ++ [HObj.cells 32 [.int .i64 0]] ++ [A2]).length Y).set h.length (.cells 4 [.bool false])).set (h ++ [HObj.cells 4 [.bool false]]).length (.cells 32 [.int .i64 0])).set (h ++ [HObj.cells 4 [.bool false]] ++ [HObj.cells 32 [.int .i64 0]] ++ [A2]).length Y' = h ++ [HObj.cells 4 [.bool false]] ++ [HObj.cells 32 [.int .i64 0]] ++ [A2] ++ [Y'] ++ [c] := fun X c Y Y' => by
        simp [List.set_append]
      have he' : ∀ X c Y Y' : HObj, (((h ++ [HObj.cells 4 [.bool false]] ++ [HObj.cells 32 [.int .i64 0]] ++ [A2] ++ [X] ++ [c]).set (h ++ [HObj.cells 4 [.bool false]] ++ [HObj.cells 32 [.int .i64 0]] ++ [A2]).length Y)).set (h ++ [HObj.cells 4 [.bool false]] ++ [HObj.cells 32 [.int .i64 0]] ++ [A2]).length Y' = h ++ [HObj.cells 4 [.bool false]] ++ [HObj.cells 32 [.int .i64 0]] ++ [A2] ++ [Y'] ++ [c] := fun X c Y Y' => by
        rw [List.set_set]; simp
      have hf0 : ∀ X c Y : HObj, (((h ++ [HObj.cells 4 [.bool false]] ++ [HObj.cells 32 [.int .i64 0]] ++ [A2]) ++ [X] ++ [c]).set (h ++ [HObj.cells 4 [.bool false]] ++ [HObj.cells 32 [.int .i64 0]] ++ [A2]).length Y)[(h ++ [HObj.cells 4 [.bool false]]).length]? = some (.cells 32 [.int .i64 0]) := fun X c Y => by
        rw [List.getElem?_set_ne (by first | (simp; done) | (simp; omega))]; simp
      have hf1 : ∀ X c Y Z V : HObj, (((((h ++ [HObj.cells 4 [.bool false]] ++ [HObj.cells 32 [.int .i64 0]] ++ [A2]) ++ [X] ++ [c]).set (h ++ [HObj.cells 4 [.bool false]] ++ [HObj.cells 32 [.int .i64 0]] ++ [A2]).length Y).set h.length Z).set (h ++ [HObj.cells 4 [.bool false]]).length V)[h.length]? = some Z := fun X c Y Z V => by
        rw [List.getElem?_set_ne (by simp), List.getElem?_set_self (by first | (simp; done) | (simp; omega))]
      have hf2 : ∀ X c Y Z V : HObj, (((((h ++ [HObj.cells 4 [.bool false]] ++ [HObj.cells 32 [.int .i64 0]] ++ [A2]) ++ [X] ++ [c]).set (h ++ [HObj.cells 4 [.bool false]] ++ [HObj.cells 32 [.int .i64 0]] ++ [A2]).length Y).set h.length Z).set (h ++ [HObj.cells 4 [.bool false]]).length V)[(h ++ [HObj.cells 4 [.bool false]]).length]? = some V := fun X c Y Z V => by
        rw [List.getElem?_set_self (by first | (simp; done) | (simp; omega))]
      have hmid : ∀ (A : Heap) (X c : HObj), (A ++ [X] ++ [c])[A.length]? = some X := fun A X c => by simp
      have hself : ∀ (A : Heap) (X c Y : HObj), ((A ++ [X] ++ [c]).set A.length Y)[A.length]? = some Y := fun A X c Y => List.getElem?_set_self (by first | (simp; done) | (simp; omega))
      subst hA2
      apply W_range
      case hg => rfl
      case hr => rfl
      case hlo => exact hlo4
      case hK =>
        refine each1_loop _ _ h.length hlo4 ⟨w, vs, body⟩ hb _ (List.getElem?_concat_length ..) k (by dsimp only; omega) ?_
        intro k s n m hks hbs
        cases k with
        | zero => omega
        | succ k =>
        obtain ⟨op, nn, a, t, e⟩ := s
        refine W_yield (hmid _ _ _) hlo4 rfl rfl ?_
        (repeat' (first | apply W_seq | refine W_true rfl rfl ?_ | refine W_false rfl rfl ?_ | refine W_region (id := 10) rfl rfl ?_ | apply W_skip | apply W_block | apply W_ret | apply W_exit | refine W_true rfl (by assumption) ?_ | refine W_false rfl (by assumption) ?_ | refine W_cond rfl (fun _ => ?_) (fun _ => ?_)))
        refine ⟨_, hmid _ _ _, rfl, ?_⟩
        cases hc : (op == 3 && decide (nn > 15)) with
        | false =>
          have hy : yldS false n (.mk op nn a t e) = (true, false) := by unfold yldS; dsimp only; rw [hc]; rfl
          rw [hy]
          (repeat' (first | apply W_seq | refine W_true rfl rfl ?_ | refine W_false rfl rfl ?_ | (refine W_ops (id := 11) rfl ?_ <;> refine T_ch 2 rfl ?_ <;> (refine T_go rfl ?_; refine G_split rfl (fun _ => ?_) (fun _ => ?_)) <;> refine T_ch 3 rfl ?_ <;> (first | refine T_skip rfl ?_ | (refine T_go rfl ?_; refine G_split rfl (fun _ => ?_) (fun _ => ?_))) <;> refine T_ch 1 rfl ?_ <;> apply T_nil) | apply W_skip | apply W_block | apply W_ret | apply W_exit | refine W_true rfl (by assumption) ?_ | refine W_false rfl (by assumption) ?_ | refine W_cond rfl (fun _ => ?_) (fun _ => ?_)))
          all_goals first
            | (exfalso; clear ha hb' hc' hd' he' hmid hself hf0 hf1 hf2; simp_all; done)
            | exact ⟨_, hself _ _ _ _, (by rw [← he' _ _ _ _]; rfl)⟩
        | true =>
          have hy : yldS false n (.mk op nn a t e) = (false, true) := by unfold yldS; dsimp only; rw [hc]; rfl
          rw [hy]
          simp only [Bool.and_eq_true] at hc
          obtain ⟨hc1, hc2⟩ := hc
          (repeat' (first | apply W_seq | refine W_true rfl rfl ?_ | refine W_false rfl rfl ?_ | (refine W_ops (id := 11) rfl ?_ <;> refine T_ch 2 rfl ?_ <;> (refine T_go rfl ?_; refine G_true rfl (by with_reducible assumption) ?_) <;> refine T_ch 3 rfl ?_ <;> (refine T_go rfl ?_; refine G_true rfl (by with_reducible assumption) ?_) <;> refine T_ch 1 rfl ?_ <;> apply T_nil) | apply W_skip | apply W_block | apply W_ret | apply W_exit | refine W_true rfl (by assumption) ?_ | refine W_false rfl (by assumption) ?_ | refine W_cond rfl (fun _ => ?_) (fun _ => ?_)))
          refine W_ops rfl ?_
          refine T_go rfl (G_op (O_storeH rfl rfl rfl rfl (ha _ _ _) ⟨hlo, rfl, rfl, Nat.le_of_ble_eq_true rfl⟩) ?_)
          refine T_go rfl (G_op (O_storeH rfl rfl rfl rfl (hb' _ _ _ _) ⟨hlo2, rfl, rfl, Nat.le_of_ble_eq_true rfl⟩) ?_)
          apply T_nil
          apply W_ret
          exact ⟨_, hc' _ _ _ _ _, (by rw [← hd' _ _ _ _]; rfl)⟩
      case hl => exact hmid _ _ _
      case hst => exact stopL_ne _ rfl _
      case k =>
        dsimp only
        cases hls : lowSs body with
        | false =>
          rw [hls] at hJ
          subst hJ
          exact ⟨.inl rfl, finish_of (resultsOf_cons (resultOf_hp rfl rfl (ha _ _ _) rfl rfl) (resultsOf_cons (resultOf_hp rfl rfl (hf0 _ _ _) rfl rfl) rfl)) rfl⟩
        | true =>
          rw [hls] at hJ
          subst hJ
          apply W_seq
          refine W_ops rfl ?_
          refine T_go rfl (G_op (O_storeH rfl rfl rfl rfl (ha _ _ _) ⟨hlo, rfl, rfl, Nat.le_of_ble_eq_true rfl⟩) ?_)
          refine T_go rfl (G_op (O_storeH rfl rfl rfl rfl (hb' _ _ _ _) ⟨hlo2, rfl, rfl, Nat.le_of_ble_eq_true rfl⟩) ?_)
          apply T_nil
          apply W_ret
          exact ⟨.inl rfl, finish_of (resultsOf_cons (resultOf_hp rfl rfl (hf1 _ _ _ _ _) rfl rfl) (resultsOf_cons (resultOf_hp rfl rfl (hf2 _ _ _ _ _) rfl rfl) rfl)) rfl⟩
end Go.Proofs.Ytelobnllkhnpaaa.L
/- Lists that grow; levels; level.check; ref21.Expr; level.Expr. -/
open Go Go.Proofs Go.Ev Go.Proofs.Ytelobnllkhnpaaa.E
namespace Go.Proofs.Ytelobnllkhnpaaa.L
set_option linter.unusedVariables false
set_option linter.unusedSimpArgs false
set_option maxHeartbeats 2000000
set_option maxRecDepth 100000

def levs (p : Pr') : List Int := p.vars.map (·.level)
def lvS (h : Heap) (vs : List Vr') (i : Int) (l : List Int) : St :=
  { env := [(3, .v (accA h 1 (intsC l))), (7, .v (.vs 3 (vsC vs))), (8, .v (.int .i64 (vsC vs).length)), (9, .v (.int .i64 i))], loc := [], heap := accH h 3 (intsC l), inRound := false, lo := h.length }
theorem intsC_row (l : List Int) : ∀ r, r ∈ intsC l → r.length = 1 ∧ ∀ x, x ∈ r → static x = true := by
  intro r hr
  obtain ⟨n, _, rfl⟩ := List.mem_map.1 hr
  refine ⟨rfl, fun x hx => ?_⟩
  simp at hx; subst hx; rfl
theorem intsC_len (l : List Int) : (intsC l).length = l.length := by simp [intsC]
theorem int_append (h : Heap) (l : List Int) (v : Int) (hl : l.length < 1000000) : append cfg.tab h.length (accH h 3 (intsC l)) 38 (accA h 1 (intsC l)) (.vs 1 [[.int .i64 v]]) = some (accA h 1 (intsC (l ++ [v])), accH h 3 (intsC (l ++ [v]))) := by
  have := acc_append (tab := cfg.tab) (lo := h.length) (h := h) (t := 38) (e := 3) rfl rfl (by decide) (Nat.le_refl _) (intsC l) [[.int .i64 v]] (fun r hr => (intsC_row l r hr).1) (by rw [intsC_len]; simp only [List.length_cons, List.length_nil, room]; show (l.length + (0 + 1)) * 8 ≤ _; omega) (by rw [intsC_len]; simp [room]; omega)
  rw [this]
  simp [intsC]
theorem levels_run (p : Pr') (k : Nat) (hk : p.vars.length < k) (hv : p.vars.length < 1000) (h : Heap) (lo : Nat) : call Try.prog cfg (k + 1) lo (.func 48) [.agg (prC p)] h = some (accV 1 (intsC (levs p)), h) := by
  obtain ⟨w, vs, body⟩ := p
  dsimp only at hk hv
  have hfin := acc_frz (h := h) (e := 3) (sz := 1) (intsC (levs ⟨w, vs, body⟩)) (intsC_row _)
  apply W_call Try.func48 rfl (Nat.le_of_ble_eq_true rfl) rfl rfl
  (repeat' (first | apply W_seq | refine W_true rfl rfl ?_ | refine W_false rfl rfl ?_ | refine W_region (id := 0) rfl rfl ?_ | refine W_region (id := 1) rfl rfl ?_ | refine W_region (id := 2) rfl rfl ?_ | apply W_skip | apply W_block | apply W_ret | apply W_exit | refine W_true rfl (by assumption) ?_ | refine W_false rfl (by assumption) ?_ | refine W_cond rfl (fun _ => ?_) (fun _ => ?_)))
  apply W_iterI (S := lvS h vs) (l := vs) (a0 := []) (fun i rest a => a ++ rest.map (·.level) = levs ⟨w, vs, body⟩ ∧ a.length = i) (by omega) (by omega) rfl ⟨rfl, rfl⟩
  · intro i v rest a hi hd hil hJ
    have hrow := vsC_get hi
    have hlt := lt_vsC hil
    have hap := int_append h a v.level (by omega)
    obtain ⟨nm, level, cells⟩ := v
    dsimp only at hap
    (repeat' (first | apply W_seq | refine W_true rfl rfl ?_ | refine W_false rfl rfl ?_ | (refine W_ops (id := 3) rfl ?_ <;> (refine T_go rfl ?_; refine G_true rfl (by with_reducible assumption) ?_) <;> apply T_nil) | (refine W_ops (id := 4) rfl ?_ <;> (refine T_go rfl ?_; refine G_op (O_index rfl rfl rfl rfl rfl (by assumption)) ?_) <;> (refine T_go rfl ?_; refine G_op rfl ?_) <;> refine T_ch 2 rfl ?_ <;> apply T_nil) | (refine W_ops (id := 5) rfl ?_ <;> refine T_ch 4 rfl ?_ <;> (refine T_go rfl ?_; refine G_op (O_append rfl rfl rfl rfl rfl (by assumption)) ?_) <;> refine T_ch 1 rfl ?_ <;> apply T_nil) | refine W_region (id := 6) rfl rfl ?_ | apply W_skip | apply W_block | apply W_ret | apply W_exit | refine W_true rfl (by assumption) ?_ | refine W_false rfl (by assumption) ?_ | refine W_cond rfl (fun _ => ?_) (fun _ => ?_)))
    exact ⟨a ++ [level], rfl, by rw [← hJ.1]; simp, by simp [hJ.2]⟩
  · intro a hJ
    have hlt := ge_vsC (l := vs)
    (repeat' (first | apply W_seq | refine W_true rfl rfl ?_ | refine W_false rfl rfl ?_ | (refine W_ops (id := 3) rfl ?_ <;> (refine T_go rfl ?_; refine G_false rfl (by with_reducible assumption) ?_) <;> apply T_nil) | refine W_region (id := 7) rfl rfl ?_ | apply W_skip | apply W_block | apply W_ret | apply W_exit | refine W_true rfl (by assumption) ?_ | refine W_false rfl (by assumption) ?_ | refine W_cond rfl (fun _ => ?_) (fun _ => ?_)))
    have : a = levs ⟨w, vs, body⟩ := by simpa using hJ.1
    subst this
    exact ⟨.inl rfl, hfin⟩
def lrS (h : Heap) (p : Pr') (i : Int) (l : List Int) : St :=
  { env := [(1, .p 1 0), (3, .v (accA h 1 (intsC l))), (4, .v (.int .i64 i))], loc := [(1, prC p)], heap := accH h 3 (intsC l), inRound := false, lo := h.length }
theorem levelsR_run (p : Pr') (k : Nat) (hk : p.vars.length < k) (hv : p.vars.length < 1000) (h : Heap) (lo : Nat) : call Try.prog cfg (k + 1) lo (.func 18) [.agg (prC p)] h = some (accV 1 (intsC (levs p)), h) := by
  obtain ⟨w, vs, body⟩ := p
  dsimp only at hk hv
  have hfin := acc_frz (h := h) (e := 3) (sz := 1) (intsC (levs ⟨w, vs, body⟩)) (intsC_row _)
  apply W_call Try.func18 rfl (Nat.le_of_ble_eq_true rfl) rfl rfl
  (repeat' (first | apply W_seq | refine W_true rfl rfl ?_ | refine W_false rfl rfl ?_ | refine W_region (id := 0) rfl rfl ?_ | refine W_region (id := 1) rfl rfl ?_ | refine W_region (id := 2) rfl rfl ?_ | apply W_skip | apply W_block | apply W_ret | apply W_exit | refine W_true rfl (by assumption) ?_ | refine W_false rfl (by assumption) ?_ | refine W_cond rfl (fun _ => ?_) (fun _ => ?_)))
  apply W_iterI (S := lrS h ⟨w, vs, body⟩) (l := vs) (a0 := []) (fun i rest a => a ++ rest.map (·.level) = levs ⟨w, vs, body⟩ ∧ a.length = i) (by omega) (by omega) rfl ⟨rfl, rfl⟩
  · intro i v rest a hi hd hil hJ
    have hrow := vsC_get hi
    have hlt := lt_vsC hil
    have hap := int_append h a v.level (by omega)
    obtain ⟨nm, level, cells⟩ := v
    dsimp only at hap
    (repeat' (first | apply W_seq | refine W_true rfl rfl ?_ | refine W_false rfl rfl ?_ | (refine W_ops (id := 3) rfl ?_ <;> refine T_ch 4 rfl ?_ <;> (refine T_go rfl ?_; refine G_true rfl (by assumption) ?_) <;> apply T_nil) | refine W_region (id := 4) rfl rfl ?_ | (refine W_ops (id := 5) rfl ?_ <;> refine T_ch 4 rfl ?_ <;> (refine T_go rfl ?_; refine G_op (O_index rfl rfl rfl rfl rfl (by assumption)) ?_) <;> refine T_ch 1 rfl ?_ <;> (refine T_go rfl ?_; refine G_op rfl ?_) <;> refine T_ch 1 rfl ?_ <;> (refine T_go rfl ?_; refine G_op (O_append rfl rfl rfl rfl rfl (by assumption)) ?_) <;> refine T_ch 1 rfl ?_ <;> apply T_nil) | apply W_skip | apply W_block | apply W_ret | apply W_exit | refine W_true rfl (by assumption) ?_ | refine W_false rfl (by assumption) ?_ | refine W_cond rfl (fun _ => ?_) (fun _ => ?_)))
    exact ⟨a ++ [level], rfl, by rw [← hJ.1]; simp, by simp [hJ.2]⟩
  · intro a hJ
    have hlt := ge_vsC (l := vs)
    (repeat' (first | apply W_seq | refine W_true rfl rfl ?_ | refine W_false rfl rfl ?_ | (refine W_ops (id := 3) rfl ?_ <;> refine T_ch 4 rfl ?_ <;> (refine T_go rfl ?_; refine G_false rfl (by assumption) ?_) <;> apply T_nil) | refine W_region (id := 6) rfl rfl ?_ | apply W_skip | apply W_block | apply W_ret | apply W_exit | refine W_true rfl (by assumption) ?_ | refine W_false rfl (by assumption) ?_ | refine W_cond rfl (fun _ => ?_) (fun _ => ?_)))
    have : a = levs ⟨w, vs, body⟩ := by simpa using hJ.1
    subst this
    exact ⟨.inl rfl, hfin⟩

def oeS (h : Heap) (lo : Nat) (l : List Int) (e : Ex') (j : Int) (a : Int) : St :=
  { env := [(0, .v (.vs 1 (intsC l))), (3, .p 3 0), (5, .v (.int .i64 a)), (6, .v (.int .i64 j))], loc := [(3, exC e)], heap := h, inRound := false, lo := lo }
theorem ofR_run : ∀ (k : Nat) (e : Ex') (l : List Int), exK e + 1 ≤ k → exB e → rdE l.length e → ∀ (lo : Nat) (h : Heap),
    call Try.prog cfg k lo (.func 17) [.vs 1 (intsC l), .agg (exC e)] h = some (.int .i64 (ofE l e), h)
  | 0, e, l, hk, _, _, _, _ => by have := exK_pos e; omega
  | k + 1, .mk op n cp es, l, hk, hb, hr, lo, h => by
    rw [exK] at hk
    rw [exB] at hb
    rw [rdE] at hr
    have hlen := exsK_len es
    have hbk := hb.1
    have hrow : (op == 1) = true → _ := fun hop => intsC_at (hr.1 (by simpa using hop))
    cases hc : (op == 1)
    case' true => replace hrow := hrow hc
    all_goals
      apply W_call Try.func17 rfl (Nat.le_of_ble_eq_true rfl) rfl rfl
      (repeat' (first | apply W_seq | refine W_true rfl rfl ?_ | refine W_false rfl rfl ?_ | refine W_region (id := 0) rfl rfl ?_ | refine W_region (id := 1) rfl rfl ?_ | (refine W_ops (id := 2) rfl ?_ <;> refine T_ch 2 rfl ?_ <;> (refine T_go rfl ?_; first | refine G_true rfl (by with_reducible assumption) ?_ | refine G_false rfl (by with_reducible assumption) ?_) <;> apply T_nil) | (refine W_ops (id := 3) rfl ?_ <;> refine T_ch 3 rfl ?_ <;> (refine T_go rfl ?_; refine G_op (O_indexI rfl rfl rfl rfl rfl (by assumption)) ?_) <;> (refine T_go rfl ?_; refine G_op rfl ?_) <;> refine T_ch 1 rfl ?_ <;> apply T_nil) | refine W_region (id := 4) rfl rfl ?_ | apply W_skip | apply W_block | apply W_ret | apply W_exit | refine W_true rfl (by assumption) ?_ | refine W_false rfl (by assumption) ?_ | refine W_cond rfl (fun _ => ?_) (fun _ => ?_)))
      apply W_iter (S := oeS h h.length l (.mk op n cp es)) (l := es) (fun rest a => ofEs l a rest = ofE l (.mk op n cp es)) (by omega) (by omega) rfl (by simp only [ofE]; simp at hc; simp [hc])
      · intro i e rest a hi hd hil hJ
        have hrow := exsC_get _ _ _ hi
        have ih := ofR_run k e l (by have := exsK_mem es i _ hi; omega) (exsB_mem es i _ hb.2 hi) (rdEs_mem hr.2 hi) h.length h
        have hO := or_run (k - 1) h.length a (ofE l e) h
        rw [show k - 1 + 1 = k by omega] at hO
        have hlt := lt_exs hil
        obtain ⟨op', n', cp', es'⟩ := e
        (repeat' (first | apply W_seq | refine W_true rfl rfl ?_ | refine W_false rfl rfl ?_ | (refine W_ops (id := 5) rfl ?_ <;> refine T_ch 4 rfl ?_ <;> (refine T_go rfl ?_; refine G_true rfl (by with_reducible assumption) ?_) <;> apply T_nil) | refine W_region (id := 6) rfl rfl ?_ | (refine W_ops (id := 7) rfl ?_ <;> refine T_ch 5 rfl ?_ <;> (refine T_go rfl ?_; refine G_op (O_index rfl rfl rfl rfl rfl (by assumption)) ?_) <;> (refine T_go rfl ?_; refine G_op rfl ?_) <;> (refine T_go rfl ?_; refine G_op (O_call rfl rfl rfl rfl (by assumption)) ?_) <;> (refine T_go rfl ?_; refine G_op (O_call rfl rfl rfl rfl (by assumption)) ?_) <;> refine T_ch 1 rfl ?_ <;> apply T_nil) | apply W_skip | apply W_block | apply W_ret | apply W_exit | refine W_true rfl (by assumption) ?_ | refine W_false rfl (by assumption) ?_ | refine W_cond rfl (fun _ => ?_) (fun _ => ?_)))
        exact ⟨_, rfl, by rw [← hJ]; rfl⟩
      · intro a hJ
        have hlt := ge_exs (l := es)
        (repeat' (first | apply W_seq | refine W_true rfl rfl ?_ | refine W_false rfl rfl ?_ | (refine W_ops (id := 5) rfl ?_ <;> refine T_ch 4 rfl ?_ <;> (refine T_go rfl ?_; refine G_false rfl (by with_reducible assumption) ?_) <;> apply T_nil) | refine W_region (id := 8) rfl rfl ?_ | apply W_skip | apply W_block | apply W_ret | apply W_exit | refine W_true rfl (by assumption) ?_ | refine W_false rfl (by assumption) ?_ | refine W_cond rfl (fun _ => ?_) (fun _ => ?_)))
        exact ⟨.inl rfl, by rw [← hJ]; rfl⟩

def chkI (p : Pr') : Int := if okP p = true then (if singleP p = true then 0 else 1) else 30
theorem levcheck_run (p : Pr') (k : Nat) (hk : smsK p.body + p.vars.length + 90 ≤ k) (hb : prB p) (h : Heap) (lo : Nat) : call Try.prog cfg (k + 1) lo (.func 45) [.agg (prC p)] h = some (.int .i64 (chkI p), h) := by
  have hS := singleP_run p (k - 2) (by omega) hb h h.length
  rw [show k - 2 + 2 = k by omega] at hS
  have hc : chkI p = if okP p = true then (if singleP p = true then 0 else 1) else 30 := rfl
  have hsp : singleP p = (okP p && singleR p) := rfl
  generalize singleP p = sp at hS hc hsp
  generalize okP p = ok at hS hc hsp
  obtain ⟨w, vs, body⟩ := p
  cases ok <;> cases sp
  · apply W_call Try.func45 rfl (Nat.le_of_ble_eq_true rfl) rfl rfl
    (repeat' (first | apply W_seq | refine W_true rfl rfl ?_ | refine W_false rfl rfl ?_ | refine W_region (id := 0) rfl rfl ?_ | (refine W_ops (id := 1) rfl ?_ <;> refine T_ch 1 rfl ?_ <;> (refine T_go rfl ?_; refine G_op (O_call rfl rfl rfl rfl (by assumption)) ?_) <;> refine T_ch 1 rfl ?_ <;> (refine T_go rfl ?_; refine G_false rfl rfl ?_) <;> refine T_ch 3 rfl ?_ <;> apply T_nil) | (refine W_ops (id := 2) rfl ?_ <;> refine T_ch 1 rfl ?_ <;> (refine T_go rfl ?_; refine G_false rfl rfl ?_) <;> refine T_ch 4 rfl ?_ <;> apply T_nil) | refine W_region (id := 4) rfl rfl ?_ | apply W_skip | apply W_block | apply W_ret | apply W_exit | refine W_true rfl (by assumption) ?_ | refine W_false rfl (by assumption) ?_ | refine W_cond rfl (fun _ => ?_) (fun _ => ?_)))
    all_goals exact ⟨.inl rfl, by rw [hc]; rfl⟩
  · cases hsp
  · apply W_call Try.func45 rfl (Nat.le_of_ble_eq_true rfl) rfl rfl
    (repeat' (first | apply W_seq | refine W_true rfl rfl ?_ | refine W_false rfl rfl ?_ | refine W_region (id := 0) rfl rfl ?_ | (refine W_ops (id := 1) rfl ?_ <;> refine T_ch 1 rfl ?_ <;> (refine T_go rfl ?_; refine G_op (O_call rfl rfl rfl rfl (by assumption)) ?_) <;> refine T_ch 1 rfl ?_ <;> (refine T_go rfl ?_; refine G_false rfl rfl ?_) <;> refine T_ch 3 rfl ?_ <;> apply T_nil) | (refine W_ops (id := 2) rfl ?_ <;> refine T_ch 1 rfl ?_ <;> (refine T_go rfl ?_; refine G_true rfl rfl ?_) <;> refine T_ch 4 rfl ?_ <;> apply T_nil) | refine W_region (id := 3) rfl rfl ?_ | apply W_skip | apply W_block | apply W_ret | apply W_exit | refine W_true rfl (by assumption) ?_ | refine W_false rfl (by assumption) ?_ | refine W_cond rfl (fun _ => ?_) (fun _ => ?_)))
    all_goals exact ⟨.inl rfl, by rw [hc]; rfl⟩
  · apply W_call Try.func45 rfl (Nat.le_of_ble_eq_true rfl) rfl rfl
    (repeat' (first | apply W_seq | refine W_true rfl rfl ?_ | refine W_false rfl rfl ?_ | refine W_region (id := 0) rfl rfl ?_ | (refine W_ops (id := 1) rfl ?_ <;> refine T_ch 1 rfl ?_ <;> (refine T_go rfl ?_; refine G_op (O_call rfl rfl rfl rfl (by assumption)) ?_) <;> refine T_ch 1 rfl ?_ <;> (refine T_go rfl ?_; refine G_true rfl rfl ?_) <;> refine T_ch 3 rfl ?_ <;> apply T_nil) | (refine W_ops (id := 2) rfl ?_ <;> refine T_ch 1 rfl ?_ <;> (refine T_go rfl ?_; refine G_true rfl rfl ?_) <;> refine T_ch 4 rfl ?_ <;> apply T_nil) | refine W_region (id := 4) rfl rfl ?_ | apply W_skip | apply W_block | apply W_ret | apply W_exit | refine W_true rfl (by assumption) ?_ | refine W_false rfl (by assumption) ?_ | refine W_cond rfl (fun _ => ?_) (fun _ => ?_)))
    all_goals exact ⟨.inl rfl, by rw [hc]; rfl⟩
end Go.Proofs.Ytelobnllkhnpaaa.L
/- Plain laws: a program is one for both. -/
open Go Go.Proofs Go.Ev
namespace Go.Proofs.Ytelobnllkhnpaaa.L
set_option linter.unusedVariables false
set_option linter.unusedSimpArgs false
set_option maxHeartbeats 2000000
set_option maxRecDepth 100000

mutual
theorem fine1_iff {w : Int} {vs : List Vr'} (hh : headPB w vs = true) (hc : ∀ v, v ∈ vs → 1 ≤ v.cells) : ∀ (s : Sm') (deep st nd : Int), 1 ≤ deep → deep ≤ 16 → 0 ≤ nd → nd + smN s < 1000000 →
    ((fine1 w vs s deep st nd).1 = true ↔ deep + smD s ≤ 17 ∧ rowB w vs s = true ∧ nd + smN s ≤ 400) ∧ ((fine1 w vs s deep st nd).1 = true → (fine1 w vs s deep st nd).2.2 = nd + smN s)
  | .mk op n a t e, deep, st, nd, d0, d1, n0, n1 => by
    rw [smN] at n1
    rw [fine1_eq, smD, smN, rowB, wsm (n := nd + 1) (by omega) (by omega), wsm (n := deep + 1) (by omega) (by omega), headS_eq hc]
    generalize IntKind.i64.wrap (st + 1) = st1
    by_cases hb : nd + 1 > 400
    · rw [decide_eq_true hb, Bool.true_or, if_pos rfl]
      refine ⟨⟨fun h => (by cases h), fun ⟨_, _, h⟩ => by omega⟩, fun h => (by cases h)⟩
    rw [decide_eq_false hb, Bool.false_or]
    cases hH : headB vs (.mk op n a t e) with
    | false => simp
    | true =>
      rw [Bool.not_true, if_neg (by simp)]
      obtain ⟨a1, a2⟩ := argsF_eq w vs hh a (nd + 1) (by omega) (by omega)
      generalize argsF w vs a (nd + 1) = q at a1 a2
      unfold aftA
      cases hq : q.1 with
      | false =>
        rw [hq] at a1
        rw [if_neg (by simp), ← a1]; simp
      | true =>
        rw [hq] at a1
        rw [if_pos rfl, ← a1, a2 hq]
        unfold thenElse
        obtain ⟨t1, t2⟩ := fineG_iff hh hc t (deep + 1) st1 (nd + 1 + exsN a) (by omega) (by omega) (by omega) (by omega)
        generalize fineG w vs t (deep + 1) st1 (nd + 1 + exsN a) = T at t1 t2
        cases hT : T.1 with
        | false =>
          rw [if_neg (by simp)]
          refine ⟨⟨fun h => (by rw [hT] at h; cases h), fun ⟨g1, g2, g3⟩ => ?_⟩, fun h => (by rw [hT] at h; cases h)⟩
          have : T.1 = true := t1.2 ⟨by omega, by simp only [Bool.and_eq_true] at g2; exact g2.1.1.2, by omega⟩
          rw [hT] at this; cases this
        | true =>
          rw [if_pos rfl, t2 hT]
          obtain ⟨g1, g2, g3⟩ := t1.1 hT
          obtain ⟨e1, e2⟩ := fineG_iff hh hc e (deep + 1) T.2.1 (nd + 1 + exsN a + smsN t) (by omega) (by omega) (by omega) (by omega)
          refine ⟨?_, fun h => by rw [e2 h]; omega⟩
          rw [e1]
          simp only [g2, Bool.true_and, Bool.and_true]
          constructor
          · rintro ⟨k1, k2, k3⟩; exact ⟨by omega, k2, by omega⟩
          · rintro ⟨k1, k2, k3⟩; exact ⟨by omega, k2, by omega⟩
theorem fineL_iff {w : Int} {vs : List Vr'} (hh : headPB w vs = true) (hc : ∀ v, v ∈ vs → 1 ≤ v.cells) : ∀ (l : List Sm') (deep st nd : Int), 1 ≤ deep → deep ≤ 16 → 0 ≤ nd → nd + smsN l < 1000000 →
    ((fineL w vs l deep st nd).1 = true ↔ deep + smsD l ≤ 17 ∧ rowsB w vs l = true ∧ nd + smsN l ≤ 400) ∧ ((fineL w vs l deep st nd).1 = true → (fineL w vs l deep st nd).2.2 = nd + smsN l)
  | [], deep, st, nd, d0, d1, n0, n1 => by
    rw [fineL, smsD, rowsB, smsN]
    simp only [decide_eq_true_eq]
    refine ⟨⟨fun h => ⟨by omega, by trivial, by omega⟩, fun ⟨_, _, h⟩ => by omega⟩, fun _ => by omega⟩
  | s :: l, deep, st, nd, d0, d1, n0, n1 => by
    rw [smsN] at n1
    rw [fineL_cons, smsD, rowsB, smsN]
    obtain ⟨t1, t2⟩ := fine1_iff hh hc s deep st nd d0 d1 n0 (by omega)
    generalize fine1 w vs s deep st nd = T at t1 t2
    unfold nxtL
    cases hT : T.1 with
    | false =>
      rw [if_neg (by simp)]
      refine ⟨⟨fun h => (by rw [hT] at h; cases h), fun ⟨g1, g2, g3⟩ => ?_⟩, fun h => (by rw [hT] at h; cases h)⟩
      have : T.1 = true := t1.2 ⟨by omega, by simp only [Bool.and_eq_true] at g2; exact g2.1, by omega⟩
      rw [hT] at this; cases this
    | true =>
      rw [if_pos rfl, t2 hT]
      obtain ⟨g1, g2, g3⟩ := t1.1 hT
      obtain ⟨e1, e2⟩ := fineL_iff hh hc l deep T.2.1 (nd + smN s) d0 d1 (by omega) (by omega)
      refine ⟨?_, fun h => by rw [e2 h]; omega⟩
      rw [e1, g2, Bool.true_and]
      constructor
      · rintro ⟨k1, k2, k3⟩; exact ⟨by omega, k2, by omega⟩
      · rintro ⟨k1, k2, k3⟩; exact ⟨by omega, k2, by omega⟩
theorem fineG_iff {w : Int} {vs : List Vr'} (hh : headPB w vs = true) (hc : ∀ v, v ∈ vs → 1 ≤ v.cells) : ∀ (l : List Sm') (deep st nd : Int), 1 ≤ deep → deep ≤ 17 → 0 ≤ nd → nd + smsN l < 1000000 →
    ((fineG w vs l deep st nd).1 = true ↔ deep + smsD l ≤ 17 ∧ rowsB w vs l = true ∧ nd + smsN l ≤ 400) ∧ ((fineG w vs l deep st nd).1 = true → (fineG w vs l deep st nd).2.2 = nd + smsN l)
  | [], deep, st, nd, d0, d1, n0, n1 => by
    unfold fineG guardS
    simp only [List.length_nil, smsD, rowsB, smsN, fineL]
    rw [if_neg (by simp)]
    simp only [decide_eq_true_eq]
    refine ⟨⟨fun h => ⟨by omega, by trivial, by omega⟩, fun ⟨_, _, h⟩ => by omega⟩, fun _ => by omega⟩
  | s :: l, deep, st, nd, d0, d1, n0, n1 => by
    by_cases hd : deep > 16
    · unfold fineG guardS
      rw [if_pos (by rw [decide_eq_true hd]; simp)]
      refine ⟨⟨fun h => (by cases h), fun ⟨g, _, _⟩ => ?_⟩, fun h => (by cases h)⟩
      rw [smsD] at g
      have : 1 ≤ smD s := by cases s; rw [smD]; omega
      omega
    · have hg : fineG w vs (s :: l) deep st nd = fineL w vs (s :: l) deep st nd := by
        unfold fineG guardS
        rw [if_neg (by rw [decide_eq_false hd]; simp)]
      rw [hg]
      rw [smsN] at n1
      rw [fineL_cons, smsD, rowsB, smsN]
      obtain ⟨t1, t2⟩ := fine1_iff hh hc s deep st nd d0 (by omega) n0 (by omega)
      generalize fine1 w vs s deep st nd = T at t1 t2
      unfold nxtL
      cases hT : T.1 with
      | false =>
        rw [if_neg (by simp)]
        refine ⟨⟨fun h => (by rw [hT] at h; cases h), fun ⟨g1, g2, g3⟩ => ?_⟩, fun h => (by rw [hT] at h; cases h)⟩
        have : T.1 = true := t1.2 ⟨by omega, by simp only [Bool.and_eq_true] at g2; exact g2.1, by omega⟩
        rw [hT] at this; cases this
      | true =>
        rw [if_pos rfl, t2 hT]
        obtain ⟨g1, g2, g3⟩ := t1.1 hT
        obtain ⟨e1, e2⟩ := fineL_iff hh hc l deep T.2.1 (nd + smN s) d0 (by omega) (by omega) (by omega)
        refine ⟨?_, fun h => by rw [e2 h]; omega⟩
        rw [e1, g2, Bool.true_and]
        constructor
        · rintro ⟨k1, k2, k3⟩; exact ⟨by omega, k2, by omega⟩
        · rintro ⟨k1, k2, k3⟩; exact ⟨by omega, k2, by omega⟩
end

theorem okP_eq (p : Pr') (hN : smsN p.body ≤ 600) : okP p = isP p := by
  unfold okP isP
  rw [← head_eq]
  cases hh : headPB p.width p.vars with
  | false => simp
  | true =>
    have hc : ∀ v, v ∈ p.vars → 1 ≤ v.cells := by
      have := hh
      rw [head_eq] at this
      unfold headRB at this
      simp only [Bool.and_eq_true] at this
      exact varB_cells this.2
    obtain ⟨g1, _⟩ := fineG_iff hh hc p.body 1 0 0 (by omega) (by omega) (by omega) (by omega)
    have hD := smsD_le p.body
    rw [fitsS_eq _ _ (by omega) (by omega), depSs_eq _ _ (by omega) (by omega) (by omega)]
    rw [Bool.eq_iff_iff, Bool.true_and, Bool.true_and, g1]
    simp only [Bool.and_eq_true, decide_eq_true_eq]
    constructor
    · rintro ⟨k1, k2, k3⟩; exact ⟨⟨by omega, by omega⟩, k2⟩
    · rintro ⟨⟨k1, k2⟩, k3⟩; exact ⟨by omega, k3, by omega⟩
mutual
theorem form_rd {w c : Int} {vs : List Vr'} : ∀ (e : Ex'), formE w vs c e = true → rdE vs.length e
  | .mk op n cp es, h => by
    rw [formE, Bool.and_eq_true] at h
    rw [rdE]
    refine ⟨fun ho => ?_, forms_rd es h.2⟩
    have := h.1
    unfold nodeB at this
    dsimp only at this
    rw [if_pos ho] at this
    simp only [Bool.and_eq_true, decide_eq_true_eq] at this
    exact ⟨this.1.1.1.1, this.1.1.1.2⟩
theorem forms_rd {w c : Int} {vs : List Vr'} : ∀ (es : List Ex'), formEs w vs c es = true → rdEs vs.length es
  | [], _ => trivial
  | e :: es, h => by
    rw [formEs, Bool.and_eq_true] at h
    exact ⟨form_rd e h.1, forms_rd es h.2⟩
end
theorem isE_rd {w c : Int} {vs : List Vr'} {e : Ex'} (h : isE w vs c e = true) : rdE vs.length e := by
  unfold isE at h
  simp only [Bool.and_eq_true] at h
  exact form_rd e h.2
theorem chk_eq (p : Pr') (hN : smsN p.body ≤ 600) : chkI p = faultI p := by
  unfold chkI faultI singleP
  rw [okP_eq p hN]
  cases isP p <;> simp
theorem isP_head {p : Pr'} (h : isP p = true) : headPB p.width p.vars = true ∧ 1 ≤ p.vars.length ∧ p.vars.length ≤ 18 := by
  unfold isP at h
  simp only [Bool.and_eq_true] at h
  have := h.1.1.1
  rw [head_eq]
  refine ⟨this, ?_⟩
  unfold headRB at this
  simp only [Bool.and_eq_true, Bool.not_eq_true', decide_eq_false_iff_not] at this
  omega
end Go.Proofs.Ytelobnllkhnpaaa.L
/- level.Expr, and the law LevelExprs. -/
open Go Go.Proofs Go.Ev Go.Proofs.Ytelobnllkhnpaaa.E
namespace Go.Proofs.Ytelobnllkhnpaaa.L
set_option linter.unusedVariables false
set_option linter.unusedSimpArgs false
set_option maxHeartbeats 2000000
set_option maxRecDepth 100000

theorem accV_ne {sz : Nat} {rows : List (List AV)} (h : rows ≠ []) : accV sz rows = .vs sz rows := by
  cases rows with
  | nil => exact absurd rfl h
  | cons r l => rfl
theorem levs_len (p : Pr') : (levs p).length = p.vars.length := by simp [levs]
theorem levs_ne {p : Pr'} (h : 1 ≤ p.vars.length) : intsC (levs p) ≠ [] := fun e => by
  have := congrArg List.length e
  rw [intsC_len, levs_len, List.length_nil] at this
  omega
def exprI (p : Pr') (e : Ex') : Int × Int := if faultI p = 0 then (if isE p.width p.vars 1 e = true then (ofE (levs p) e, 0) else (0, 20)) else (0, faultI p)
theorem faultI_cases (p : Pr') : (faultI p = 0 ∧ isP p = true ∧ singleR p = true) ∨ faultI p = 1 ∨ faultI p = 30 := by
  unfold faultI
  cases isP p <;> cases singleR p <;> simp
theorem levExpr_run (p : Pr') (e : Ex') (hN : smsN p.body ≤ 600) (k : Nat) (hk : smsK p.body + p.vars.length + exK e + 100 ≤ k) (hb : prB p) (hbe : exB e) (h : Heap) (lo : Nat) :
    call Try.prog cfg (k + 1) lo (.func 14) [.agg (prC p), .agg (exC e)] h = some (.tup [.int .i64 (exprI p e).1, .int .i64 (exprI p e).2], h) := by
  have hC := levcheck_run p (k - 1) (by omega) hb h h.length
  rw [show k - 1 + 1 = k by omega, chk_eq p hN] at hC
  have hX : exprI p e = if faultI p = 0 then (if isE p.width p.vars 1 e = true then (ofE (levs p) e, 0) else (0, 20)) else (0, faultI p) := rfl
  rcases faultI_cases p with ⟨hf, hP, hS⟩ | hf | hf
  · rw [hf] at hC hX
    rw [if_pos rfl] at hX
    obtain ⟨hh, hl1, hl2⟩ := isP_head hP
    have hE := Check_run p.width p.vars 1 e (k - 1) (by omega) hbe h h.length
    rw [show k - 1 + 1 = k by omega, checkI_eq _ _ e hh] at hE
    cases hi : isE p.width p.vars 1 e with
    | false =>
      rw [hi] at hE hX
      rw [if_neg (by simp)] at hE hX
      rw [hX]
      obtain ⟨w, vs, body⟩ := p
      obtain ⟨op, n, cp, es⟩ := e
      dsimp only at hE
      apply W_call Try.func14 rfl (Nat.le_of_ble_eq_true rfl) rfl rfl
      (repeat' (first | apply W_seq | refine W_true rfl rfl ?_ | refine W_false rfl rfl ?_ | refine W_region (id := 0) rfl rfl ?_ | (refine W_ops (id := 1) rfl ?_ <;> refine T_ch 1 rfl ?_ <;> (refine T_go rfl ?_; refine G_op (O_call rfl rfl rfl rfl (by assumption)) ?_) <;> refine T_ch 1 rfl ?_ <;> apply T_nil) | (refine W_ops (id := 2) rfl ?_ <;> refine T_ch 1 rfl ?_ <;> (refine T_go rfl ?_; refine G_false rfl rfl ?_) <;> apply T_nil) | (refine W_ops (id := 4) rfl ?_ <;> refine T_ch 5 rfl ?_ <;> (refine T_go rfl ?_; refine G_op (O_call rfl rfl rfl rfl (by assumption)) ?_) <;> (refine T_go rfl ?_; refine G_true rfl rfl ?_) <;> apply T_nil) | refine W_region (id := 5) rfl rfl ?_ | apply W_skip | apply W_block | apply W_ret | apply W_exit | refine W_true rfl (by assumption) ?_ | refine W_false rfl (by assumption) ?_ | refine W_cond rfl (fun _ => ?_) (fun _ => ?_)))
      all_goals exact ⟨.inl rfl, rfl⟩
    | true =>
      rw [hi] at hE hX
      rw [if_pos rfl] at hE hX
      rw [hX]
      have hL := levels_run p (k - 1) (by omega) (by omega) h h.length
      rw [show k - 1 + 1 = k by omega, accV_ne (levs_ne hl1)] at hL
      have hO := of_run k e (levs p) (by omega) hbe (by rw [levs_len]; exact isE_rd hi) h.length h
      generalize levs p = lv at hL hO
      obtain ⟨w, vs, body⟩ := p
      obtain ⟨op, n, cp, es⟩ := e
      dsimp only at hE
      apply W_call Try.func14 rfl (Nat.le_of_ble_eq_true rfl) rfl rfl
      (repeat' (first | apply W_seq | refine W_true rfl rfl ?_ | refine W_false rfl rfl ?_ | refine W_region (id := 0) rfl rfl ?_ | (refine W_ops (id := 1) rfl ?_ <;> refine T_ch 1 rfl ?_ <;> (refine T_go rfl ?_; refine G_op (O_call rfl rfl rfl rfl (by assumption)) ?_) <;> refine T_ch 1 rfl ?_ <;> apply T_nil) | (refine W_ops (id := 2) rfl ?_ <;> refine T_ch 1 rfl ?_ <;> (refine T_go rfl ?_; refine G_false rfl rfl ?_) <;> apply T_nil) | (refine W_ops (id := 4) rfl ?_ <;> refine T_ch 5 rfl ?_ <;> (refine T_go rfl ?_; refine G_op (O_call rfl rfl rfl rfl (by assumption)) ?_) <;> (refine T_go rfl ?_; refine G_false rfl rfl ?_) <;> apply T_nil) | (refine W_dops (id := 6) (bs := [0, 1, 0, 7, 15, 31]) rfl (by decide +kernel) ?_ <;> (refine U_go rfl ?_; refine H_free (by decide +kernel) rfl rfl rfl rfl rfl ?_) <;> (refine U_go rfl ?_; refine H_free (by decide +kernel) rfl (O_call rfl rfl rfl rfl (by assumption)) rfl rfl rfl ?_) <;> (refine U_go rfl ?_; refine H_free (by decide +kernel) rfl rfl rfl rfl rfl ?_) <;> (refine U_go rfl ?_; refine H_op (by decide +kernel) (O_call rfl rfl rfl rfl (by assumption)) ?_) <;> (refine U_go rfl ?_; refine H_op (by decide +kernel) rfl ?_) <;> (refine U_go rfl ?_; refine H_op (by decide +kernel) rfl ?_) <;> apply U_nil) | apply W_skip | apply W_block | apply W_ret | apply W_exit | refine W_true rfl (by assumption) ?_ | refine W_false rfl (by assumption) ?_ | refine W_cond rfl (fun _ => ?_) (fun _ => ?_)))
      all_goals exact ⟨.inl rfl, rfl⟩
  · rw [hf] at hC hX
    rw [if_neg (by simp)] at hX
    rw [hX]
    obtain ⟨w, vs, body⟩ := p
    obtain ⟨op, n, cp, es⟩ := e
    apply W_call Try.func14 rfl (Nat.le_of_ble_eq_true rfl) rfl rfl
    (repeat' (first | apply W_seq | refine W_true rfl rfl ?_ | refine W_false rfl rfl ?_ | refine W_region (id := 0) rfl rfl ?_ | (refine W_ops (id := 1) rfl ?_ <;> refine T_ch 1 rfl ?_ <;> (refine T_go rfl ?_; refine G_op (O_call rfl rfl rfl rfl (by assumption)) ?_) <;> refine T_ch 1 rfl ?_ <;> apply T_nil) | (refine W_ops (id := 2) rfl ?_ <;> refine T_ch 1 rfl ?_ <;> (refine T_go rfl ?_; refine G_true rfl rfl ?_) <;> apply T_nil) | refine W_region (id := 3) rfl rfl ?_ | apply W_skip | apply W_block | apply W_ret | apply W_exit | refine W_true rfl (by assumption) ?_ | refine W_false rfl (by assumption) ?_ | refine W_cond rfl (fun _ => ?_) (fun _ => ?_)))
    all_goals exact ⟨.inl rfl, rfl⟩
  · rw [hf] at hC hX
    rw [if_neg (by simp)] at hX
    rw [hX]
    obtain ⟨w, vs, body⟩ := p
    obtain ⟨op, n, cp, es⟩ := e
    apply W_call Try.func14 rfl (Nat.le_of_ble_eq_true rfl) rfl rfl
    (repeat' (first | apply W_seq | refine W_true rfl rfl ?_ | refine W_false rfl rfl ?_ | refine W_region (id := 0) rfl rfl ?_ | (refine W_ops (id := 1) rfl ?_ <;> refine T_ch 1 rfl ?_ <;> (refine T_go rfl ?_; refine G_op (O_call rfl rfl rfl rfl (by assumption)) ?_) <;> refine T_ch 1 rfl ?_ <;> apply T_nil) | (refine W_ops (id := 2) rfl ?_ <;> refine T_ch 1 rfl ?_ <;> (refine T_go rfl ?_; refine G_true rfl rfl ?_) <;> apply T_nil) | refine W_region (id := 3) rfl rfl ?_ | apply W_skip | apply W_block | apply W_ret | apply W_exit | refine W_true rfl (by assumption) ?_ | refine W_false rfl (by assumption) ?_ | refine W_cond rfl (fun _ => ?_) (fun _ => ?_)))
    all_goals exact ⟨.inl rfl, rfl⟩

theorem awake_run (k lo : Nat) (h : Heap) (hk : 1 ≤ k) : call Try.prog cfg k lo (.func 13) [] h = some (.bool true, h) := by
  cases k with
  | zero => omega
  | succ k => rfl
theorem levelExprs_run (p : Pr') (e : Ex') (k : Nat) (hk : smsK p.body + p.vars.length + exK e + 110 ≤ k) (hb : prB p) (hbe : exB e) (h : Heap) (lo : Nat) :
    call Try.prog cfg (k + 1) lo (.func 3) [.agg (prC p), .agg (exC e)] h = some (.bool true, h) := by
  have hA := awake_run k h.length h (by omega)
  have h1 := fitsS_run (k - 1) h h.length p.body (by omega) hb.2.1 hb.2.2 600
  have h2 := fitsE_run (k - 1) h h.length e (by omega) hbe 600
  rw [show k - 1 + 1 = k by omega] at h1 h2
  cases hf : fitsS p.body 600 with
  | false =>
    rw [hf] at h1
    obtain ⟨w, vs, body⟩ := p
    obtain ⟨op, n, cp, es⟩ := e
    apply W_call Try.func3 rfl (Nat.le_of_ble_eq_true rfl) rfl rfl
    (repeat' (first | apply W_seq | refine W_true rfl rfl ?_ | refine W_false rfl rfl ?_ | refine W_region (id := 0) rfl rfl ?_ | (refine W_ops (id := 1) rfl ?_ <;> refine T_ch 2 rfl ?_ <;> (refine T_go rfl ?_; refine G_false (O_call rfl rfl rfl rfl (by assumption)) rfl ?_) <;> refine T_ch 3 rfl ?_ <;> refine T_skip rfl ?_ <;> refine T_ch 2 rfl ?_ <;> apply T_nil) | (refine W_ops (id := 2) rfl ?_ <;> (refine T_go rfl ?_; refine G_true (O_call rfl rfl rfl rfl (by assumption)) rfl ?_) <;> refine T_ch 1 rfl ?_ <;> apply T_nil) | apply W_skip | apply W_block | apply W_ret | apply W_exit | refine W_true rfl (by assumption) ?_ | refine W_false rfl (by assumption) ?_ | refine W_cond rfl (fun _ => ?_) (fun _ => ?_)))
    all_goals exact ⟨.inl rfl, rfl⟩
  | true =>
  rw [hf] at h1
  cases hfe : fitsE e 600 with
  | false =>
    rw [hfe] at h2
    obtain ⟨w, vs, body⟩ := p
    obtain ⟨op, n, cp, es⟩ := e
    apply W_call Try.func3 rfl (Nat.le_of_ble_eq_true rfl) rfl rfl
    (repeat' (first | apply W_seq | refine W_true rfl rfl ?_ | refine W_false rfl rfl ?_ | refine W_region (id := 0) rfl rfl ?_ | (refine W_ops (id := 1) rfl ?_ <;> refine T_ch 2 rfl ?_ <;> (refine T_go rfl ?_; refine G_true (O_call rfl rfl rfl rfl (by assumption)) rfl ?_) <;> refine T_ch 3 rfl ?_ <;> (refine T_go rfl ?_; refine G_false (O_call rfl rfl rfl rfl (by assumption)) rfl ?_) <;> refine T_ch 2 rfl ?_ <;> apply T_nil) | (refine W_ops (id := 2) rfl ?_ <;> (refine T_go rfl ?_; refine G_true (O_call rfl rfl rfl rfl (by assumption)) rfl ?_) <;> refine T_ch 1 rfl ?_ <;> apply T_nil) | apply W_skip | apply W_block | apply W_ret | apply W_exit | refine W_true rfl (by assumption) ?_ | refine W_false rfl (by assumption) ?_ | refine W_cond rfl (fun _ => ?_) (fun _ => ?_)))
    all_goals exact ⟨.inl rfl, rfl⟩
  | true =>
  rw [hfe] at h2
  have hN : smsN p.body ≤ 600 := by
    rw [fitsS_eq _ _ (by omega) (by omega)] at hf
    have := of_decide_eq_true hf
    omega
  have hX := levExpr_run p e hN (k - 1) (by omega) hb hbe h h.length
  have hF := fault_run p (k - 1) (by omega) hb h h.length
  have hI := isE_run p.width p.vars 1 e (k - 1) (by omega) hbe h h.length
  rw [show k - 1 + 1 = k by omega] at hX hF hI
  have hE : exprI p e = if faultI p = 0 then (if isE p.width p.vars 1 e = true then (ofE (levs p) e, 0) else (0, 20)) else (0, faultI p) := rfl
  rcases faultI_cases p with ⟨hf, hP, hS⟩ | hf | hf
  · rw [hf] at hF hE
    rw [if_pos rfl] at hE
    obtain ⟨hh, hl1, hl2⟩ := isP_head hP
    cases hi : isE p.width p.vars 1 e with
    | false =>
      rw [hi] at hI hE
      rw [if_neg (by simp)] at hE
      rw [hE] at hX
      obtain ⟨w, vs, body⟩ := p
      obtain ⟨op, n, cp, es⟩ := e
      dsimp only at hI
      apply W_call Try.func3 rfl (Nat.le_of_ble_eq_true rfl) rfl rfl
      (repeat' (first | apply W_seq | refine W_true rfl rfl ?_ | refine W_false rfl rfl ?_ | refine W_region (id := 0) rfl rfl ?_ | (refine W_ops (id := 1) rfl ?_ <;> refine T_ch 2 rfl ?_ <;> (refine T_go rfl ?_; refine G_true (O_call rfl rfl rfl rfl (by assumption)) rfl ?_) <;> refine T_ch 3 rfl ?_ <;> (refine T_go rfl ?_; refine G_true (O_call rfl rfl rfl rfl (by assumption)) rfl ?_) <;> refine T_ch 2 rfl ?_ <;> apply T_nil) | (refine W_ops (id := 3) rfl ?_ <;> refine T_ch 2 rfl ?_ <;> (refine T_go rfl ?_; refine G_op (O_call rfl rfl rfl rfl (by assumption)) ?_) <;> refine T_ch 5 rfl ?_ <;> apply T_nil) | (refine W_ops (id := 4) rfl ?_ <;> refine T_ch 1 rfl ?_ <;> (refine T_go rfl ?_; refine G_op (O_call rfl rfl rfl rfl (by assumption)) ?_) <;> refine T_ch 1 rfl ?_ <;> apply T_nil) | (refine W_ops (id := 5) rfl ?_ <;> refine T_ch 1 rfl ?_ <;> (refine T_go rfl ?_; refine G_true rfl rfl ?_) <;> refine T_ch 6 rfl ?_ <;> (refine T_go rfl ?_; refine G_false (O_call rfl rfl rfl rfl (by assumption)) rfl ?_) <;> refine T_ch 2 rfl ?_ <;> apply T_nil) | refine W_region (id := 6) rfl rfl ?_ | (refine W_ops (id := 7) rfl ?_ <;> refine T_ch 1 rfl ?_ <;> (refine T_go rfl ?_; refine G_true rfl rfl ?_) <;> apply T_nil) | (refine W_ops (id := 8) rfl ?_ <;> refine T_ch 2 rfl ?_ <;> (refine T_go rfl ?_; refine G_true rfl rfl ?_) <;> refine T_ch 2 rfl ?_ <;> (refine T_go rfl ?_; refine G_true rfl rfl ?_) <;> refine T_ch 2 rfl ?_ <;> (refine T_go rfl ?_; refine G_true (O_call rfl rfl rfl rfl (by assumption)) rfl ?_) <;> refine T_ch 2 rfl ?_ <;> apply T_nil) | apply W_skip | apply W_block | apply W_ret | apply W_exit | refine W_true rfl (by assumption) ?_ | refine W_false rfl (by assumption) ?_ | refine W_cond rfl (fun _ => ?_) (fun _ => ?_)))
      all_goals exact ⟨.inl rfl, rfl⟩
    | true =>
      rw [hi] at hI hE
      rw [if_pos rfl] at hE
      rw [hE] at hX
      have hL := levelsR_run p (k - 1) (by omega) (by omega) h h.length
      rw [show k - 1 + 1 = k by omega, accV_ne (levs_ne hl1)] at hL
      have hO := ofR_run k e (levs p) (by omega) hbe (by rw [levs_len]; exact isE_rd hi) h.length h
      have hself : (ofE (levs p) e == ofE (levs p) e) = true := beq_self_eq_true _
      generalize levs p = lv at hL hO hX hself
      obtain ⟨w, vs, body⟩ := p
      obtain ⟨op, n, cp, es⟩ := e
      dsimp only at hI
      apply W_call Try.func3 rfl (Nat.le_of_ble_eq_true rfl) rfl rfl
      (repeat' (first | apply W_seq | refine W_true rfl rfl ?_ | refine W_false rfl rfl ?_ | refine W_region (id := 0) rfl rfl ?_ | (refine W_ops (id := 1) rfl ?_ <;> refine T_ch 2 rfl ?_ <;> (refine T_go rfl ?_; refine G_true (O_call rfl rfl rfl rfl (by assumption)) rfl ?_) <;> refine T_ch 3 rfl ?_ <;> (refine T_go rfl ?_; refine G_true (O_call rfl rfl rfl rfl (by assumption)) rfl ?_) <;> refine T_ch 2 rfl ?_ <;> apply T_nil) | (refine W_ops (id := 3) rfl ?_ <;> refine T_ch 2 rfl ?_ <;> (refine T_go rfl ?_; refine G_op (O_call rfl rfl rfl rfl (by assumption)) ?_) <;> refine T_ch 5 rfl ?_ <;> apply T_nil) | (refine W_ops (id := 4) rfl ?_ <;> refine T_ch 1 rfl ?_ <;> (refine T_go rfl ?_; refine G_op (O_call rfl rfl rfl rfl (by assumption)) ?_) <;> refine T_ch 1 rfl ?_ <;> apply T_nil) | (refine W_ops (id := 5) rfl ?_ <;> refine T_ch 1 rfl ?_ <;> (refine T_go rfl ?_; refine G_true rfl rfl ?_) <;> refine T_ch 6 rfl ?_ <;> (refine T_go rfl ?_; refine G_true (O_call rfl rfl rfl rfl (by assumption)) rfl ?_) <;> refine T_ch 2 rfl ?_ <;> apply T_nil) | (refine W_ops (id := 7) rfl ?_ <;> refine T_ch 1 rfl ?_ <;> (refine T_go rfl ?_; refine G_false rfl rfl ?_) <;> apply T_nil) | (refine W_dops (id := 9) (bs := [0, 1, 3, 7, 7, 23, 7, 119, 255, 511, 1023, 2047, 4095, 8191]) rfl (by decide +kernel) ?_ <;> (refine U_go rfl ?_; refine H_op (by decide +kernel) rfl ?_) <;> (refine U_go rfl ?_; refine H_true (by decide +kernel) rfl rfl ?_) <;> (refine U_go rfl ?_; refine H_op (by decide +kernel) rfl ?_) <;> (refine U_go rfl ?_; refine H_free (by decide +kernel) rfl rfl rfl rfl rfl ?_) <;> (refine U_go rfl ?_; refine H_free (by decide +kernel) rfl rfl rfl rfl rfl ?_) <;> (refine U_go rfl ?_; refine H_free (by decide +kernel) rfl (O_call rfl rfl rfl rfl (by assumption)) rfl rfl rfl ?_) <;> (refine U_go rfl ?_; refine H_free (by decide +kernel) rfl rfl rfl rfl rfl ?_) <;> (refine U_go rfl ?_; refine H_free (by decide +kernel) rfl (O_call rfl rfl rfl rfl (by assumption)) rfl rfl rfl ?_) <;> (refine U_go rfl ?_; refine H_true (by decide +kernel) rfl (by with_reducible assumption) ?_) <;> (refine U_go rfl ?_; refine H_op (by decide +kernel) rfl ?_) <;> (refine U_go rfl ?_; refine H_op (by decide +kernel) rfl ?_) <;> (refine U_go rfl ?_; refine H_true (by decide +kernel) (O_call rfl rfl rfl rfl (by assumption)) rfl ?_) <;> (refine U_go rfl ?_; refine H_op (by decide +kernel) rfl ?_) <;> (refine U_go rfl ?_; refine H_op (by decide +kernel) rfl ?_) <;> apply U_nil) | apply W_skip | apply W_block | apply W_ret | apply W_exit | refine W_true rfl (by assumption) ?_ | refine W_false rfl (by assumption) ?_ | refine W_cond rfl (fun _ => ?_) (fun _ => ?_)))
      all_goals exact ⟨.inl rfl, rfl⟩
  · rw [hf] at hF hE
    rw [if_neg (by simp)] at hE
    rw [hE] at hX
    obtain ⟨w, vs, body⟩ := p
    obtain ⟨op, n, cp, es⟩ := e
    apply W_call Try.func3 rfl (Nat.le_of_ble_eq_true rfl) rfl rfl
    (repeat' (first | apply W_seq | refine W_true rfl rfl ?_ | refine W_false rfl rfl ?_ | refine W_region (id := 0) rfl rfl ?_ | (refine W_ops (id := 1) rfl ?_ <;> refine T_ch 2 rfl ?_ <;> (refine T_go rfl ?_; refine G_true (O_call rfl rfl rfl rfl (by assumption)) rfl ?_) <;> refine T_ch 3 rfl ?_ <;> (refine T_go rfl ?_; refine G_true (O_call rfl rfl rfl rfl (by assumption)) rfl ?_) <;> refine T_ch 2 rfl ?_ <;> apply T_nil) | (refine W_ops (id := 3) rfl ?_ <;> refine T_ch 2 rfl ?_ <;> (refine T_go rfl ?_; refine G_op (O_call rfl rfl rfl rfl (by assumption)) ?_) <;> refine T_ch 5 rfl ?_ <;> apply T_nil) | (refine W_ops (id := 4) rfl ?_ <;> refine T_ch 1 rfl ?_ <;> (refine T_go rfl ?_; refine G_op (O_call rfl rfl rfl rfl (by assumption)) ?_) <;> refine T_ch 1 rfl ?_ <;> apply T_nil) | (refine W_ops (id := 5) rfl ?_ <;> refine T_ch 1 rfl ?_ <;> (refine T_go rfl ?_; refine G_false rfl rfl ?_) <;> refine T_ch 6 rfl ?_ <;> refine T_skip rfl ?_ <;> refine T_ch 2 rfl ?_ <;> apply T_nil) | (refine W_ops (id := 7) rfl ?_ <;> refine T_ch 1 rfl ?_ <;> (refine T_go rfl ?_; refine G_true rfl rfl ?_) <;> apply T_nil) | (refine W_ops (id := 8) rfl ?_ <;> refine T_ch 2 rfl ?_ <;> (refine T_go rfl ?_; refine G_true rfl rfl ?_) <;> refine T_ch 2 rfl ?_ <;> (refine T_go rfl ?_; refine G_true rfl rfl ?_) <;> refine T_ch 2 rfl ?_ <;> (refine T_go rfl ?_; refine G_true (O_call rfl rfl rfl rfl (by assumption)) rfl ?_) <;> refine T_ch 2 rfl ?_ <;> apply T_nil) | apply W_skip | apply W_block | apply W_ret | apply W_exit | refine W_true rfl (by assumption) ?_ | refine W_false rfl (by assumption) ?_ | refine W_cond rfl (fun _ => ?_) (fun _ => ?_)))
    all_goals exact ⟨.inl rfl, rfl⟩
  · rw [hf] at hF hE
    rw [if_neg (by simp)] at hE
    rw [hE] at hX
    obtain ⟨w, vs, body⟩ := p
    obtain ⟨op, n, cp, es⟩ := e
    apply W_call Try.func3 rfl (Nat.le_of_ble_eq_true rfl) rfl rfl
    (repeat' (first | apply W_seq | refine W_true rfl rfl ?_ | refine W_false rfl rfl ?_ | refine W_region (id := 0) rfl rfl ?_ | (refine W_ops (id := 1) rfl ?_ <;> refine T_ch 2 rfl ?_ <;> (refine T_go rfl ?_; refine G_true (O_call rfl rfl rfl rfl (by assumption)) rfl ?_) <;> refine T_ch 3 rfl ?_ <;> (refine T_go rfl ?_; refine G_true (O_call rfl rfl rfl rfl (by assumption)) rfl ?_) <;> refine T_ch 2 rfl ?_ <;> apply T_nil) | (refine W_ops (id := 3) rfl ?_ <;> refine T_ch 2 rfl ?_ <;> (refine T_go rfl ?_; refine G_op (O_call rfl rfl rfl rfl (by assumption)) ?_) <;> refine T_ch 5 rfl ?_ <;> apply T_nil) | (refine W_ops (id := 4) rfl ?_ <;> refine T_ch 1 rfl ?_ <;> (refine T_go rfl ?_; refine G_op (O_call rfl rfl rfl rfl (by assumption)) ?_) <;> refine T_ch 1 rfl ?_ <;> apply T_nil) | (refine W_ops (id := 5) rfl ?_ <;> refine T_ch 1 rfl ?_ <;> (refine T_go rfl ?_; refine G_false rfl rfl ?_) <;> refine T_ch 6 rfl ?_ <;> refine T_skip rfl ?_ <;> refine T_ch 2 rfl ?_ <;> apply T_nil) | (refine W_ops (id := 7) rfl ?_ <;> refine T_ch 1 rfl ?_ <;> (refine T_go rfl ?_; refine G_true rfl rfl ?_) <;> apply T_nil) | (refine W_ops (id := 8) rfl ?_ <;> refine T_ch 2 rfl ?_ <;> (refine T_go rfl ?_; refine G_true rfl rfl ?_) <;> refine T_ch 2 rfl ?_ <;> (refine T_go rfl ?_; refine G_true rfl rfl ?_) <;> refine T_ch 2 rfl ?_ <;> (refine T_go rfl ?_; refine G_true (O_call rfl rfl rfl rfl (by assumption)) rfl ?_) <;> refine T_ch 2 rfl ?_ <;> apply T_nil) | apply W_skip | apply W_block | apply W_ret | apply W_exit | refine W_true rfl (by assumption) ?_ | refine W_false rfl (by assumption) ?_ | refine W_cond rfl (fun _ => ?_) (fun _ => ?_)))
    all_goals exact ⟨.inl rfl, rfl⟩
end Go.Proofs.Ytelobnllkhnpaaa.L
/- Flows: small functions; items. -/
open Go Go.Proofs Go.Ev Go.Proofs.Ytelobnllkhnpaaa.E
namespace Go.Proofs.Ytelobnllkhnpaaa.L
set_option linter.unusedVariables false
set_option linter.unusedSimpArgs false
set_option maxHeartbeats 2000000
set_option maxRecDepth 100000

def oaS (h : Heap) (lo : Nat) (l : List Int) (es : List Ex') (j : Int) (a : Int) : St :=
  { env := [(0, .v (.vs 1 (intsC l))), (5, .v (.int .i64 a)), (8, .v (.vs 4 (exsC es))), (9, .v (.int .i64 (exsC es).length)), (10, .v (.int .i64 j))], loc := [], heap := h, inRound := false, lo := lo }
theorem ofAll_run (es : List Ex') (l : List Int) (k : Nat) (hk : exsK es ≤ k) (hl : es.length < 9223372036854775808) (hb : exsB es) (hr : rdEs l.length es) (h : Heap) (lo : Nat) : call Try.prog cfg (k + 1) lo (.func 59) [.vs 1 (intsC l), .vs 4 (exsC es)] h = some (.int .i64 (ofEs l 0 es), h) := by
  have hlen := exsK_len es
  apply W_call Try.func59 rfl (Nat.le_of_ble_eq_true rfl) rfl rfl
  (repeat' (first | apply W_seq | refine W_true rfl rfl ?_ | refine W_false rfl rfl ?_ | refine W_region (id := 0) rfl rfl ?_ | refine W_region (id := 1) rfl rfl ?_ | refine W_region (id := 2) rfl rfl ?_ | apply W_skip | apply W_block | apply W_ret | apply W_exit | refine W_true rfl (by assumption) ?_ | refine W_false rfl (by assumption) ?_ | refine W_cond rfl (fun _ => ?_) (fun _ => ?_)))
  apply W_iter (S := oaS h h.length l es) (l := es) (a0 := 0) (fun rest a => ofEs l a rest = ofEs l 0 es) hl (by omega) rfl rfl
  · intro i e rest a hi hd hil hJ
    have hrow := exsC_get _ _ _ hi
    have ih := of_run k e l (by have := exsK_mem es i _ hi; omega) (exsB_mem es i _ hb hi) (rdEs_mem hr hi) h.length h
    have hlt := lt_exs hil
    obtain ⟨op', n', cp', es'⟩ := e
    (repeat' (first | apply W_seq | refine W_true rfl rfl ?_ | refine W_false rfl rfl ?_ | (refine W_ops (id := 3) rfl ?_ <;> (refine T_go rfl ?_; refine G_true rfl (by with_reducible assumption) ?_) <;> apply T_nil) | (refine W_ops (id := 4) rfl ?_ <;> (refine T_go rfl ?_; refine G_op (O_index rfl rfl rfl rfl rfl (by assumption)) ?_) <;> (refine T_go rfl ?_; refine G_op rfl ?_) <;> refine T_ch 2 rfl ?_ <;> apply T_nil) | (refine W_ops (id := 5) rfl ?_ <;> refine T_ch 3 rfl ?_ <;> (refine T_go rfl ?_; refine G_op (O_call rfl rfl rfl rfl (by assumption)) ?_) <;> refine T_ch 2 rfl ?_ <;> apply T_nil) | refine W_region (id := 6) rfl rfl ?_ | apply W_skip | apply W_block | apply W_ret | apply W_exit | refine W_true rfl (by assumption) ?_ | refine W_false rfl (by assumption) ?_ | refine W_cond rfl (fun _ => ?_) (fun _ => ?_)))
    exact ⟨_, rfl, by rw [← hJ]; rfl⟩
  · intro a hJ
    have hlt := ge_exs (l := es)
    (repeat' (first | apply W_seq | refine W_true rfl rfl ?_ | refine W_false rfl rfl ?_ | (refine W_ops (id := 3) rfl ?_ <;> (refine T_go rfl ?_; refine G_false rfl (by with_reducible assumption) ?_) <;> apply T_nil) | refine W_region (id := 7) rfl rfl ?_ | apply W_skip | apply W_block | apply W_ret | apply W_exit | refine W_true rfl (by assumption) ?_ | refine W_false rfl (by assumption) ?_ | refine W_cond rfl (fun _ => ?_) (fun _ => ?_)))
    exact ⟨.inl rfl, Eq.trans (b := some (AV.int .i64 a, _)) rfl (by rw [← hJ]; rfl)⟩
def aaS (h : Heap) (lo : Nat) (l : List Int) (s : Sm') (j : Int) (a : Int) : St :=
  { env := [(0, .v (.vs 1 (intsC l))), (3, .p 3 0), (5, .v (.int .i64 a)), (6, .v (.int .i64 j))], loc := [(3, smC s)], heap := h, inRound := false, lo := lo }
theorem argsR_run (op n : Int) (es : List Ex') (t e : List Sm') (l : List Int) (k : Nat) (hk : exsK es + 1 ≤ k) (hl : es.length < 9223372036854775808) (hb : exsB es) (hr : rdEs l.length es) (h : Heap) (lo : Nat) :
    call Try.prog cfg (k + 1) lo (.func 63) [.vs 1 (intsC l), .agg (smC (.mk op n es t e))] h = some (.int .i64 (ofEs l 0 es), h) := by
  have hlen := exsK_len es
  apply W_call Try.func63 rfl (Nat.le_of_ble_eq_true rfl) rfl rfl
  (repeat' (first | apply W_seq | refine W_true rfl rfl ?_ | refine W_false rfl rfl ?_ | refine W_region (id := 0) rfl rfl ?_ | refine W_region (id := 1) rfl rfl ?_ | refine W_region (id := 2) rfl rfl ?_ | apply W_skip | apply W_block | apply W_ret | apply W_exit | refine W_true rfl (by assumption) ?_ | refine W_false rfl (by assumption) ?_ | refine W_cond rfl (fun _ => ?_) (fun _ => ?_)))
  apply W_iter (S := aaS h h.length l (.mk op n es t e)) (l := es) (a0 := 0) (fun rest a => ofEs l a rest = ofEs l 0 es) hl (by omega) rfl rfl
  · intro i e' rest a hi hd hil hJ
    have hrow := exsC_get _ _ _ hi
    have ih := ofR_run k e' l (by have := exsK_mem1 es i _ hi; omega) (exsB_mem es i _ hb hi) (rdEs_mem hr hi) h.length h
    have hO := or_run (k - 1) h.length a (ofE l e') h
    rw [show k - 1 + 1 = k by omega] at hO
    have hlt := lt_exs hil
    obtain ⟨op', n', cp', es'⟩ := e'
    (repeat' (first | apply W_seq | refine W_true rfl rfl ?_ | refine W_false rfl rfl ?_ | (refine W_ops (id := 3) rfl ?_ <;> refine T_ch 4 rfl ?_ <;> (refine T_go rfl ?_; refine G_true rfl (by with_reducible assumption) ?_) <;> apply T_nil) | refine W_region (id := 4) rfl rfl ?_ | (refine W_ops (id := 5) rfl ?_ <;> refine T_ch 5 rfl ?_ <;> (refine T_go rfl ?_; refine G_op (O_index rfl rfl rfl rfl rfl (by assumption)) ?_) <;> (refine T_go rfl ?_; refine G_op rfl ?_) <;> (refine T_go rfl ?_; refine G_op (O_call rfl rfl rfl rfl (by assumption)) ?_) <;> (refine T_go rfl ?_; refine G_op (O_call rfl rfl rfl rfl (by assumption)) ?_) <;> refine T_ch 1 rfl ?_ <;> apply T_nil) | apply W_skip | apply W_block | apply W_ret | apply W_exit | refine W_true rfl (by assumption) ?_ | refine W_false rfl (by assumption) ?_ | refine W_cond rfl (fun _ => ?_) (fun _ => ?_)))
    exact ⟨_, rfl, by rw [← hJ]; rfl⟩
  · intro a hJ
    have hlt := ge_exs (l := es)
    (repeat' (first | apply W_seq | refine W_true rfl rfl ?_ | refine W_false rfl rfl ?_ | (refine W_ops (id := 3) rfl ?_ <;> refine T_ch 4 rfl ?_ <;> (refine T_go rfl ?_; refine G_false rfl (by with_reducible assumption) ?_) <;> apply T_nil) | refine W_region (id := 6) rfl rfl ?_ | apply W_skip | apply W_block | apply W_ret | apply W_exit | refine W_true rfl (by assumption) ?_ | refine W_false rfl (by assumption) ?_ | refine W_cond rfl (fun _ => ?_) (fun _ => ?_)))
    exact ⟨.inl rfl, Eq.trans (b := some (AV.int .i64 a, _)) rfl (by rw [← hJ]; rfl)⟩

def withinB (a b : Int) : Bool := IntKind.i64.wrap ((BitVec.ofInt 64 a) &&& ~~~(BitVec.ofInt 64 b)).toNat == 0
theorem within_run (a b : Int) (k lo : Nat) (h : Heap) : call Try.prog cfg (k + 1) lo (.func 60) [.int .i64 a, .int .i64 b] h = some (.bool (withinB a b), h) := by
  cases hc : withinB a b
  all_goals
    unfold withinB at hc
    apply W_call Try.func60 rfl (Nat.le_of_ble_eq_true rfl) rfl rfl
    (repeat' (first | apply W_seq | refine W_true rfl rfl ?_ | refine W_false rfl rfl ?_ | refine W_region (id := 0) rfl rfl ?_ | (refine W_ops (id := 1) rfl ?_ <;> refine T_ch 3 rfl ?_ <;> (refine T_go rfl ?_; first | refine G_true rfl (by assumption) ?_ | refine G_false rfl (by assumption) ?_) <;> refine T_ch 1 rfl ?_ <;> apply T_nil) | apply W_skip | apply W_block | apply W_ret | apply W_exit | refine W_true rfl (by assumption) ?_ | refine W_false rfl (by assumption) ?_ | refine W_cond rfl (fun _ => ?_) (fun _ => ?_)))
    all_goals exact ⟨.inl rfl, rfl⟩
theorem withinR_run (a b : Int) (k lo : Nat) (h : Heap) : call Try.prog cfg (k + 1) lo (.func 37) [.int .i64 a, .int .i64 b] h = some (.bool (withinB a b), h) := by
  cases hc : withinB a b
  all_goals
    unfold withinB at hc
    apply W_call Try.func37 rfl (Nat.le_of_ble_eq_true rfl) rfl rfl
    (repeat' (first | apply W_seq | refine W_true rfl rfl ?_ | refine W_false rfl rfl ?_ | refine W_region (id := 0) rfl rfl ?_ | (refine W_ops (id := 1) rfl ?_ <;> refine T_ch 3 rfl ?_ <;> (refine T_go rfl ?_; first | refine G_true rfl (by assumption) ?_ | refine G_false rfl (by assumption) ?_) <;> refine T_ch 1 rfl ?_ <;> apply T_nil) | apply W_skip | apply W_block | apply W_ret | apply W_exit | refine W_true rfl (by assumption) ?_ | refine W_false rfl (by assumption) ?_ | refine W_cond rfl (fun _ => ?_) (fun _ => ?_)))
    all_goals exact ⟨.inl rfl, rfl⟩
def flowL (a f t : Int) : List (List AV) := if withinB f t = true then [] else [[.int .i64 a, .int .i64 f, .int .i64 t]]
theorem flow_run (a f t : Int) (k lo : Nat) (h : Heap) : call Try.prog cfg (k + 2) lo (.func 62) [.int .i64 a, .int .i64 f, .int .i64 t] h = some (accV 3 (flowL a f t), h) := by
  have hw := withinR_run f t k h.length h
  unfold flowL
  cases hc : withinB f t
  · rw [hc] at hw
    rw [if_neg (by simp)]
    apply W_call Try.func62 rfl (Nat.le_of_ble_eq_true rfl) rfl rfl
    (repeat' (first | apply W_seq | refine W_true rfl rfl ?_ | refine W_false rfl rfl ?_ | refine W_region (id := 0) rfl rfl ?_ | (refine W_ops (id := 1) rfl ?_ <;> refine T_ch 2 rfl ?_ <;> (refine T_go rfl ?_; refine G_false (O_call rfl rfl rfl rfl (by assumption)) rfl ?_) <;> apply T_nil) | refine W_region (id := 3) rfl rfl ?_ | apply W_skip | apply W_block | apply W_ret | apply W_exit | refine W_true rfl (by assumption) ?_ | refine W_false rfl (by assumption) ?_ | refine W_cond rfl (fun _ => ?_) (fun _ => ?_)))
    all_goals exact ⟨.inl rfl, rfl⟩
  · rw [hc] at hw
    rw [if_pos rfl]
    apply W_call Try.func62 rfl (Nat.le_of_ble_eq_true rfl) rfl rfl
    (repeat' (first | apply W_seq | refine W_true rfl rfl ?_ | refine W_false rfl rfl ?_ | refine W_region (id := 0) rfl rfl ?_ | (refine W_ops (id := 1) rfl ?_ <;> refine T_ch 2 rfl ?_ <;> (refine T_go rfl ?_; refine G_true (O_call rfl rfl rfl rfl (by assumption)) rfl ?_) <;> apply T_nil) | refine W_region (id := 2) rfl rfl ?_ | apply W_skip | apply W_block | apply W_ret | apply W_exit | refine W_true rfl (by assumption) ?_ | refine W_false rfl (by assumption) ?_ | refine W_cond rfl (fun _ => ?_) (fun _ => ?_)))
    all_goals exact ⟨.inl rfl, rfl⟩

mutual
def cnt1 : Sm' → Int → Int
  | .mk _ _ _ t e, n => IntKind.i64.wrap (IntKind.i64.wrap (IntKind.i64.wrap (n + 1) + cntL t 0) + cntL e 0)
def cntL : List Sm' → Int → Int
  | [], n => n
  | s :: l, n => cntL l (cnt1 s n)
end
def cnS (h : Heap) (lo : Nat) (l : List Sm') (i : Int) (n : Int) : St :=
  { env := [(0, .v (.vs 5 (smsC l))), (3, .v (.int .i64 n)), (4, .v (.int .i64 i))], loc := [], heap := h, inRound := false, lo := lo }
theorem count_run : ∀ (k : Nat) (l : List Sm'), smsK l ≤ k → l.length < 9223372036854775808 → smsB l → ∀ (h : Heap) (lo : Nat), call Try.prog cfg k lo (.func 92) [.vs 5 (smsC l)] h = some (.int .i64 (cntL l 0), h)
  | 0, l, hk, _, _, _, _ => by have := smsK_len l; omega
  | k + 1, l, hk, hlen, hb, h, lo => by
    have hll := smsK_len l
    apply W_call Try.func92 rfl (Nat.le_of_ble_eq_true rfl) rfl rfl
    (repeat' (first | apply W_seq | refine W_true rfl rfl ?_ | refine W_false rfl rfl ?_ | refine W_region (id := 0) rfl rfl ?_ | refine W_region (id := 1) rfl rfl ?_ | refine W_region (id := 2) rfl rfl ?_ | apply W_skip | apply W_block | apply W_ret | apply W_exit | refine W_true rfl (by assumption) ?_ | refine W_false rfl (by assumption) ?_ | refine W_cond rfl (fun _ => ?_) (fun _ => ?_)))
    apply W_iter (S := cnS h h.length l) (l := l) (a0 := 0) (fun rest a => cntL rest a = cntL l 0) hlen (by omega) rfl rfl
    · intro i st rest a hi hd hil hJ
      have hlt := lt_sms hil
      have hrow := smsC_get _ _ _ hi
      have hmem := smsK_mem l i _ hi
      have hbm := smsB_mem l i _ hb hi
      obtain ⟨op, nn, ar, t, e⟩ := st
      rw [smK] at hmem
      rw [smB] at hbm
      obtain ⟨⟨ha1, ha2⟩, ⟨ht1, ht2⟩, he1, he2⟩ := hbm
      have hla := exsK_len ar
      rw [cntL, cnt1] at hJ
      have iht := count_run k t (by omega) ht1 ht2 h h.length
      have ihe := count_run k e (by omega) he1 he2 h h.length
      (repeat' (first | apply W_seq | refine W_true rfl rfl ?_ | refine W_false rfl rfl ?_ | (refine W_ops (id := 3) rfl ?_ <;> refine T_ch 3 rfl ?_ <;> (refine T_go rfl ?_; refine G_true rfl (by with_reducible assumption) ?_) <;> apply T_nil) | refine W_region (id := 4) rfl rfl ?_ | (refine W_dops (id := 5) (bs := [0, 1, 0, 0, 12, 28, 60, 124, 255, 0, 0, 1536, 3584, 7680, 16124, 32767, 65535]) rfl (by decide +kernel) ?_ <;> (refine U_go rfl ?_; refine H_free (by decide +kernel) rfl rfl rfl rfl rfl ?_) <;> (refine U_go rfl ?_; refine H_free (by decide +kernel) rfl rfl rfl rfl rfl ?_) <;> (refine U_go rfl ?_; refine H_free (by decide +kernel) rfl rfl rfl rfl rfl ?_) <;> (refine U_go rfl ?_; refine H_free (by decide +kernel) rfl rfl rfl rfl rfl ?_) <;> (refine U_go rfl ?_; refine H_free (by decide +kernel) rfl (O_index rfl rfl rfl rfl rfl (by assumption)) rfl rfl rfl ?_) <;> (refine U_go rfl ?_; refine H_free (by decide +kernel) rfl rfl rfl rfl rfl ?_) <;> (refine U_go rfl ?_; refine H_free (by decide +kernel) rfl rfl rfl rfl rfl ?_) <;> (refine U_go rfl ?_; refine H_free (by decide +kernel) rfl (O_call rfl rfl rfl rfl (by assumption)) rfl rfl rfl ?_) <;> (refine U_go rfl ?_; refine H_free (by decide +kernel) rfl rfl rfl rfl rfl ?_) <;> (refine U_go rfl ?_; refine H_free (by decide +kernel) rfl rfl rfl rfl rfl ?_) <;> (refine U_go rfl ?_; refine H_free (by decide +kernel) rfl rfl rfl rfl rfl ?_) <;> (refine U_go rfl ?_; refine H_free (by decide +kernel) rfl (O_index rfl rfl rfl rfl rfl (by assumption)) rfl rfl rfl ?_) <;> (refine U_go rfl ?_; refine H_free (by decide +kernel) rfl rfl rfl rfl rfl ?_) <;> (refine U_go rfl ?_; refine H_free (by decide +kernel) rfl rfl rfl rfl rfl ?_) <;> (refine U_go rfl ?_; refine H_free (by decide +kernel) rfl (O_call rfl rfl rfl rfl (by assumption)) rfl rfl rfl ?_) <;> (refine U_go rfl ?_; refine H_op (by decide +kernel) rfl ?_) <;> (refine U_go rfl ?_; refine H_op (by decide +kernel) rfl ?_) <;> apply U_nil) | apply W_skip | apply W_block | apply W_ret | apply W_exit | refine W_true rfl (by assumption) ?_ | refine W_false rfl (by assumption) ?_ | refine W_cond rfl (fun _ => ?_) (fun _ => ?_)))
      exact ⟨_, rfl, hJ⟩
    · intro a hJ
      have hlt := ge_sms (l := l)
      (repeat' (first | apply W_seq | refine W_true rfl rfl ?_ | refine W_false rfl rfl ?_ | (refine W_ops (id := 3) rfl ?_ <;> refine T_ch 3 rfl ?_ <;> (refine T_go rfl ?_; refine G_false rfl (by with_reducible assumption) ?_) <;> apply T_nil) | refine W_region (id := 6) rfl rfl ?_ | apply W_skip | apply W_block | apply W_ret | apply W_exit | refine W_true rfl (by assumption) ?_ | refine W_false rfl (by assumption) ?_ | refine W_cond rfl (fun _ => ?_) (fun _ => ?_)))
      exact ⟨.inl rfl, Eq.trans (b := some (AV.int .i64 a, _)) rfl (by rw [← hJ]; rfl)⟩

def itC (x : Int × Sm') : List AV := .int .i64 x.1 :: smC x.2
def itemsL : List Sm' → Int → List (Int × Sm')
  | [], _ => []
  | s :: l, n => (n, s) :: itemsL l (cnt1 s n)
theorem itemsL_len : ∀ (l : List Sm') (n : Int), (itemsL l n).length = l.length
  | [], _ => rfl
  | s :: l, n => by simp [itemsL, itemsL_len l]
theorem itC_row (its : List (Int × Sm')) : ∀ r, r ∈ its.map itC → r.length = 6 ∧ ∀ x, x ∈ r → static x = true := by
  intro r hr
  obtain ⟨⟨n, s⟩, _, rfl⟩ := List.mem_map.1 hr
  obtain ⟨op, nn, a, t, e⟩ := s
  refine ⟨rfl, fun x hx => ?_⟩
  simp only [itC, smC, List.mem_cons, List.not_mem_nil, or_false] at hx
  rcases hx with rfl | rfl | rfl | rfl | rfl | rfl <;> rfl
theorem it_append (h : Heap) (its : List (Int × Sm')) (x : Int × Sm') (hl : its.length < 100000) : append cfg.tab h.length (accH h 105 (its.map itC)) 96 (accA h 6 (its.map itC)) (.vs 6 [itC x]) = some (accA h 6 ((its ++ [x]).map itC), accH h 105 ((its ++ [x]).map itC)) := by
  have := acc_append (tab := cfg.tab) (lo := h.length) (h := h) (t := 96) (e := 105) rfl rfl (by decide) (Nat.le_refl _) (its.map itC) [itC x] (fun r hr => (itC_row its r hr).1) (by rw [List.length_map]; simp only [List.length_cons, List.length_nil, room]; show (its.length + (0 + 1)) * 96 ≤ _; omega) (by rw [List.length_map]; simp [room]; omega)
  rw [this]
  simp
def imS (h : Heap) (l : List Sm') (i : Int) (a : List (Int × Sm') × Int) : St :=
  { env := [(0, .v (.vs 5 (smsC l))), (1, .v (.int .i64 a.2)), (5, .v (accA h 6 (a.1.map itC))), (6, .v (.int .i64 i))], loc := [], heap := accH h 105 (a.1.map itC), inRound := false, lo := h.length }
theorem items_run (l : List Sm') (n : Int) (k : Nat) (hk : smsK l ≤ k) (hl : l.length < 1000) (hb : smsB l) (h : Heap) (lo : Nat) : call Try.prog cfg (k + 1) lo (.func 56) [.vs 5 (smsC l), .int .i64 n] h = some (accV 6 ((itemsL l n).map itC), h) := by
  have hll := smsK_len l
  have hfin := acc_frz (h := h) (e := 105) (sz := 6) ((itemsL l n).map itC) (itC_row _)
  apply W_call Try.func56 rfl (Nat.le_of_ble_eq_true rfl) rfl rfl
  (repeat' (first | apply W_seq | refine W_true rfl rfl ?_ | refine W_false rfl rfl ?_ | refine W_region (id := 0) rfl rfl ?_ | refine W_region (id := 1) rfl rfl ?_ | refine W_region (id := 2) rfl rfl ?_ | apply W_skip | apply W_block | apply W_ret | apply W_exit | refine W_true rfl (by assumption) ?_ | refine W_false rfl (by assumption) ?_ | refine W_cond rfl (fun _ => ?_) (fun _ => ?_)))
  apply W_iterI (S := imS h l) (l := l) (a0 := ([], n)) (fun i rest a => a.1 ++ itemsL rest a.2 = itemsL l n ∧ a.1.length = i) (by omega) (by omega) rfl ⟨rfl, rfl⟩
  · intro i st rest a hi hd hil hJ
    obtain ⟨its, m⟩ := a
    have hlt := lt_sms hil
    have hrow := smsC_get _ _ _ hi
    have hmem := smsK_mem l i _ hi
    have hbm := smsB_mem l i _ hb hi
    have hap := it_append h its (m, st) (by have := hJ.2; dsimp only at this; omega)
    obtain ⟨hJ, hJl⟩ := hJ
    rw [itemsL] at hJ
    obtain ⟨op, nn, ar, t, e⟩ := st
    rw [smK] at hmem
    rw [smB] at hbm
    obtain ⟨⟨ha1, ha2⟩, ⟨ht1, ht2⟩, he1, he2⟩ := hbm
    have hla := exsK_len ar
    rw [cnt1] at hJ
    dsimp only at hJ hJl
    have iht := count_run k t (by omega) ht1 ht2 (accH h 105 ((its ++ [(m, Sm'.mk op nn ar t e)]).map itC)) (accH h 105 ((its ++ [(m, Sm'.mk op nn ar t e)]).map itC)).length
    have ihe := count_run k e (by omega) he1 he2 (accH h 105 ((its ++ [(m, Sm'.mk op nn ar t e)]).map itC)) (accH h 105 ((its ++ [(m, Sm'.mk op nn ar t e)]).map itC)).length
    (repeat' (first | apply W_seq | refine W_true rfl rfl ?_ | refine W_false rfl rfl ?_ | (refine W_ops (id := 3) rfl ?_ <;> refine T_ch 3 rfl ?_ <;> (refine T_go rfl ?_; refine G_true rfl (by with_reducible assumption) ?_) <;> apply T_nil) | refine W_region (id := 4) rfl rfl ?_ | (refine W_ops (id := 5) rfl ?_ <;> refine T_ch 4 rfl ?_ <;> (refine T_go rfl ?_; refine G_op (O_index rfl rfl rfl rfl rfl (by assumption)) ?_) <;> (refine T_go rfl ?_; refine G_op rfl ?_) <;> refine T_ch 2 rfl ?_ <;> (refine T_go rfl ?_; refine G_op (O_append rfl rfl rfl rfl rfl (by assumption)) ?_) <;> refine T_ch 1 rfl ?_ <;> apply T_nil) | (refine W_dops (id := 6) (bs := [0, 1, 0, 0, 12, 28, 60, 124, 255, 0, 0, 1536, 3584, 7680, 16124, 32767, 65535]) rfl (by decide +kernel) ?_ <;> (refine U_go rfl ?_; refine H_free (by decide +kernel) rfl rfl rfl rfl rfl ?_) <;> (refine U_go rfl ?_; refine H_free (by decide +kernel) rfl rfl rfl rfl rfl ?_) <;> (refine U_go rfl ?_; refine H_free (by decide +kernel) rfl rfl rfl rfl rfl ?_) <;> (refine U_go rfl ?_; refine H_free (by decide +kernel) rfl rfl rfl rfl rfl ?_) <;> (refine U_go rfl ?_; refine H_free (by decide +kernel) rfl (O_index rfl rfl rfl rfl rfl (by assumption)) rfl rfl rfl ?_) <;> (refine U_go rfl ?_; refine H_free (by decide +kernel) rfl rfl rfl rfl rfl ?_) <;> (refine U_go rfl ?_; refine H_free (by decide +kernel) rfl rfl rfl rfl rfl ?_) <;> (refine U_go rfl ?_; refine H_free (by decide +kernel) rfl (O_call rfl rfl rfl rfl (by assumption)) rfl rfl rfl ?_) <;> (refine U_go rfl ?_; refine H_free (by decide +kernel) rfl rfl rfl rfl rfl ?_) <;> (refine U_go rfl ?_; refine H_free (by decide +kernel) rfl rfl rfl rfl rfl ?_) <;> (refine U_go rfl ?_; refine H_free (by decide +kernel) rfl rfl rfl rfl rfl ?_) <;> (refine U_go rfl ?_; refine H_free (by decide +kernel) rfl (O_index rfl rfl rfl rfl rfl (by assumption)) rfl rfl rfl ?_) <;> (refine U_go rfl ?_; refine H_free (by decide +kernel) rfl rfl rfl rfl rfl ?_) <;> (refine U_go rfl ?_; refine H_free (by decide +kernel) rfl rfl rfl rfl rfl ?_) <;> (refine U_go rfl ?_; refine H_free (by decide +kernel) rfl (O_call rfl rfl rfl rfl (by assumption)) rfl rfl rfl ?_) <;> (refine U_go rfl ?_; refine H_op (by decide +kernel) rfl ?_) <;> (refine U_go rfl ?_; refine H_op (by decide +kernel) rfl ?_) <;> apply U_nil) | apply W_skip | apply W_block | apply W_ret | apply W_exit | refine W_true rfl (by assumption) ?_ | refine W_false rfl (by assumption) ?_ | refine W_cond rfl (fun _ => ?_) (fun _ => ?_)))
    exact ⟨(its ++ [(m, .mk op nn ar t e)], IntKind.i64.wrap (IntKind.i64.wrap (IntKind.i64.wrap (m + 1) + cntL t 0) + cntL e 0)), rfl, by rw [← hJ]; simp, by simp [hJl]⟩
  · intro a hJ
    have hlt := ge_sms (l := l)
    obtain ⟨its, m⟩ := a
    (repeat' (first | apply W_seq | refine W_true rfl rfl ?_ | refine W_false rfl rfl ?_ | (refine W_ops (id := 3) rfl ?_ <;> refine T_ch 3 rfl ?_ <;> (refine T_go rfl ?_; refine G_false rfl (by with_reducible assumption) ?_) <;> apply T_nil) | refine W_region (id := 7) rfl rfl ?_ | apply W_skip | apply W_block | apply W_ret | apply W_exit | refine W_true rfl (by assumption) ?_ | refine W_false rfl (by assumption) ?_ | refine W_cond rfl (fun _ => ?_) (fun _ => ?_)))
    have : its = itemsL l n := by simpa [itemsL] using hJ.1
    subst this
    exact ⟨.inl rfl, hfin⟩
theorem then_run (n op nn : Int) (a : List Ex') (t e : List Sm') (k : Nat) (hk : smsK t + 1 ≤ k) (hl : t.length < 1000) (hb : smsB t) (h : Heap) (lo : Nat) :
    call Try.prog cfg (k + 1) lo (.func 90) [.agg (itC (n, .mk op nn a t e))] h = some (accV 6 ((itemsL t (IntKind.i64.wrap (n + 1))).map itC), h) := by
  have hi := items_run t (IntKind.i64.wrap (n + 1)) (k - 1) (by omega) hl hb h h.length
  rw [show k - 1 + 1 = k by omega] at hi
  generalize itemsL t (IntKind.i64.wrap (n + 1)) = its at hi
  cases its <;>
  · apply W_call Try.func90 rfl (Nat.le_of_ble_eq_true rfl) rfl rfl
    (repeat' (first | apply W_seq | refine W_true rfl rfl ?_ | refine W_false rfl rfl ?_ | refine W_region (id := 0) rfl rfl ?_ | (refine W_ops (id := 1) rfl ?_ <;> refine T_ch 6 rfl ?_ <;> (refine T_go rfl ?_; refine G_op (O_call rfl rfl rfl rfl (by assumption)) ?_) <;> refine T_ch 1 rfl ?_ <;> apply T_nil) | apply W_skip | apply W_block | apply W_ret | apply W_exit | refine W_true rfl (by assumption) ?_ | refine W_false rfl (by assumption) ?_ | refine W_cond rfl (fun _ => ?_) (fun _ => ?_)))
    exact ⟨.inl rfl, rfl⟩
theorem else_run (n op nn : Int) (a : List Ex') (t e : List Sm') (k : Nat) (hk : smsK t + smsK e + 1 ≤ k) (ht : t.length < 1000) (htb : smsB t) (hl : e.length < 1000) (hb : smsB e) (h : Heap) (lo : Nat) :
    call Try.prog cfg (k + 1) lo (.func 91) [.agg (itC (n, .mk op nn a t e))] h = some (accV 6 ((itemsL e (IntKind.i64.wrap (IntKind.i64.wrap (n + 1) + cntL t 0))).map itC), h) := by
  have hc := count_run k t (by omega) (by omega) htb h h.length
  have hi := items_run e (IntKind.i64.wrap (IntKind.i64.wrap (n + 1) + cntL t 0)) (k - 1) (by omega) hl hb h h.length
  rw [show k - 1 + 1 = k by omega] at hi
  generalize itemsL e (IntKind.i64.wrap (IntKind.i64.wrap (n + 1) + cntL t 0)) = its at hi
  cases its <;>
  · apply W_call Try.func91 rfl (Nat.le_of_ble_eq_true rfl) rfl rfl
    (repeat' (first | apply W_seq | refine W_true rfl rfl ?_ | refine W_false rfl rfl ?_ | refine W_region (id := 0) rfl rfl ?_ | (refine W_dops (id := 1) (bs := [0, 1, 3, 0, 8, 24, 0, 64, 192, 448, 1016, 2047, 4095]) rfl (by decide +kernel) ?_ <;> (refine U_go rfl ?_; refine H_free (by decide +kernel) rfl rfl rfl rfl rfl ?_) <;> (refine U_go rfl ?_; refine H_free (by decide +kernel) rfl rfl rfl rfl rfl ?_) <;> (refine U_go rfl ?_; refine H_free (by decide +kernel) rfl rfl rfl rfl rfl ?_) <;> (refine U_go rfl ?_; refine H_free (by decide +kernel) rfl rfl rfl rfl rfl ?_) <;> (refine U_go rfl ?_; refine H_free (by decide +kernel) rfl rfl rfl rfl rfl ?_) <;> (refine U_go rfl ?_; refine H_free (by decide +kernel) rfl rfl rfl rfl rfl ?_) <;> (refine U_go rfl ?_; refine H_free (by decide +kernel) rfl rfl rfl rfl rfl ?_) <;> (refine U_go rfl ?_; refine H_free (by decide +kernel) rfl rfl rfl rfl rfl ?_) <;> (refine U_go rfl ?_; refine H_free (by decide +kernel) rfl rfl rfl rfl rfl ?_) <;> (refine U_go rfl ?_; refine H_free (by decide +kernel) rfl (O_call rfl rfl rfl rfl (by assumption)) rfl rfl rfl ?_) <;> (refine U_go rfl ?_; refine H_free (by decide +kernel) rfl rfl rfl rfl rfl ?_) <;> (refine U_go rfl ?_; refine H_op (by decide +kernel) (O_call rfl rfl rfl rfl (by assumption)) ?_) <;> (refine U_go rfl ?_; refine H_op (by decide +kernel) rfl ?_) <;> apply U_nil) | apply W_skip | apply W_block | apply W_ret | apply W_exit | refine W_true rfl (by assumption) ?_ | refine W_false rfl (by assumption) ?_ | refine W_cond rfl (fun _ => ?_) (fun _ => ?_)))
    exact ⟨.inl rfl, rfl⟩
end Go.Proofs.Ytelobnllkhnpaaa.L
/- Flows by fixed types, in the reference. -/
open Go Go.Proofs Go.Ev Go.Proofs.Ytelobnllkhnpaaa.E
namespace Go.Proofs.Ytelobnllkhnpaaa.L
set_option linter.unusedVariables false
set_option linter.unusedSimpArgs false
set_option maxHeartbeats 2000000
set_option maxRecDepth 100000

theorem acc_appendV {tab : Tab} {lo : Nat} {h : Heap} {t e : Nat} {ti : TI} {sz0 by_ : Nat} {zr : List AV} (ht : Go.Ev.look tab t = some ⟨.slice e, sz0, by_, zr⟩) (he : Go.Ev.look tab e = some ti) (hsz : 0 < ti.sz) (hlo : lo ≤ h.length) (rows more : List (List AV))
    (hr : ∀ r, r ∈ rows → r.length = ti.sz) (hroom : (rows.length + more.length) * ti.bytes ≤ room) (hroom2 : rows.length + more.length ≤ room) :
    append tab lo (accH h e rows) t (accA h ti.sz rows) (accV ti.sz more) = some (accA h ti.sz (rows ++ more), accH h e (rows ++ more)) := by
  cases more with
  | cons m ms => exact acc_append ht he hsz hlo rows (m :: ms) hr hroom hroom2
  | nil =>
    have := acc_append ht he hsz hlo rows [] hr hroom hroom2
    rw [← this]
    unfold append
    rw [ht]
    dsimp only
    rw [he]
    simp [accV, rowOf, lenOf]
mutual
def rdS1 (m : Nat) : Sm' → Prop
  | .mk op n a t e => rdEs m a ∧ ((op = 0 ∨ op = 4) → 0 ≤ n ∧ n < m) ∧ rdSs m t ∧ rdSs m e
def rdSs (m : Nat) : List Sm' → Prop
  | [] => True
  | s :: l => rdS1 m s ∧ rdSs m l
end
theorem rdSs_mem {m : Nat} : ∀ {l : List Sm'} {i : Nat} {e : Sm'}, rdSs m l → l[i]? = some e → rdS1 m e
  | [], i, e, _, h => by simp at h
  | a :: l, 0, e, hb, h => by simp at h; subst h; exact hb.1
  | a :: l, i + 1, e, hb, h => by simp at h; exact rdSs_mem hb.2 h
mutual
def fixR1 (lv : List Int) : Sm' → Int → Int → List (List AV)
  | .mk op nn a t e, ar, n =>
    (if op = 0 then flowL n (orI ar (ofEs lv 0 a)) (lv.getD nn.toNat 0) else if op = 4 then flowL n (orI (orI ar (ofEs lv 0 a)) 16) (lv.getD nn.toNat 0) else if op = 3 then flowL n (orI ar (ofEs lv 0 a)) nn else []) ++
      (fixRL lv t (orI ar (ofEs lv 0 a)) (IntKind.i64.wrap (n + 1)) ++ fixRL lv e (orI ar (ofEs lv 0 a)) (IntKind.i64.wrap (IntKind.i64.wrap (n + 1) + cntL t 0)))
def fixRL (lv : List Int) : List Sm' → Int → Int → List (List AV)
  | [], _, _ => []
  | s :: l, ar, n => fixR1 lv s ar n ++ fixRL lv l ar (cnt1 s n)
end
theorem flowL_row (a f t : Int) : ∀ r, r ∈ flowL a f t → r.length = 3 ∧ ∀ x, x ∈ r → static x = true := by
  intro r hr
  unfold flowL at hr
  split at hr
  · cases hr
  · simp at hr; subst hr
    refine ⟨rfl, fun x hx => ?_⟩
    simp only [List.mem_cons, List.not_mem_nil, or_false] at hx
    rcases hx with rfl | rfl | rfl <;> rfl
theorem flowL_len (a f t : Int) : (flowL a f t).length ≤ 1 := by unfold flowL; split <;> simp
mutual
theorem fixR1_row (lv : List Int) : ∀ (s : Sm') (ar n : Int) (r : List AV), r ∈ fixR1 lv s ar n → r.length = 3 ∧ ∀ x, x ∈ r → static x = true
  | .mk op nn a t e, ar, n, r, h => by
    rw [fixR1] at h
    rcases List.mem_append.1 h with h | h
    · split at h
      · exact flowL_row _ _ _ r h
      · split at h
        · exact flowL_row _ _ _ r h
        · split at h
          · exact flowL_row _ _ _ r h
          · cases h
    · rcases List.mem_append.1 h with h | h
      · exact fixRL_row lv t _ _ r h
      · exact fixRL_row lv e _ _ r h
theorem fixRL_row (lv : List Int) : ∀ (l : List Sm') (ar n : Int) (r : List AV), r ∈ fixRL lv l ar n → r.length = 3 ∧ ∀ x, x ∈ r → static x = true
  | [], ar, n, r, h => by rw [fixRL] at h; cases h
  | s :: l, ar, n, r, h => by
    rw [fixRL] at h
    rcases List.mem_append.1 h with h | h
    · exact fixR1_row lv s ar n r h
    · exact fixRL_row lv l ar _ r h
end
mutual
theorem fixR1_len (lv : List Int) : ∀ (s : Sm') (ar n : Int), (fixR1 lv s ar n).length ≤ smN s
  | .mk op nn a t e, ar, n => by
    have h1 := fixRL_len lv t (orI ar (ofEs lv 0 a)) (IntKind.i64.wrap (n + 1))
    have h2 := fixRL_len lv e (orI ar (ofEs lv 0 a)) (IntKind.i64.wrap (IntKind.i64.wrap (n + 1) + cntL t 0))
    rw [fixR1, smN, List.length_append, List.length_append]
    have h3 : (if op = 0 then flowL n (orI ar (ofEs lv 0 a)) (lv.getD nn.toNat 0) else if op = 4 then flowL n (orI (orI ar (ofEs lv 0 a)) 16) (lv.getD nn.toNat 0) else if op = 3 then flowL n (orI ar (ofEs lv 0 a)) nn else []).length ≤ 1 := by
      split
      · exact flowL_len _ _ _
      · split
        · exact flowL_len _ _ _
        · split
          · exact flowL_len _ _ _
          · simp
    omega
theorem fixRL_len (lv : List Int) : ∀ (l : List Sm') (ar n : Int), (fixRL lv l ar n).length ≤ smsN l
  | [], ar, n => by rw [fixRL, smsN]; simp
  | s :: l, ar, n => by
    have h1 := fixR1_len lv s ar n
    have h2 := fixRL_len lv l ar (cnt1 s n)
    rw [fixRL, smsN, List.length_append]; omega
end
theorem smsN_len : ∀ l : List Sm', l.length ≤ smsN l
  | [] => by simp
  | s :: l => by have := smsN_len l; have := smN_pos s; rw [smsN, List.length_cons]; omega
theorem smsN_mem : ∀ (l : List Sm') (i : Nat) (e : Sm'), l[i]? = some e → smN e ≤ smsN l
  | [], i, e, h => by simp at h
  | a :: l, 0, e, h => by simp at h; subst h; rw [smsN]; omega
  | a :: l, i + 1, e, h => by
    simp at h
    have := smsN_mem l i e h
    rw [smsN]; omega
theorem fl_append (h : Heap) (rows more : List (List AV)) (hr : ∀ r, r ∈ rows → r.length = 3) (hl : rows.length + more.length < 100000) : append cfg.tab h.length (accH h 89 rows) 45 (accA h 3 rows) (accV 3 more) = some (accA h 3 (rows ++ more), accH h 89 (rows ++ more)) :=
  acc_appendV (tab := cfg.tab) (lo := h.length) (h := h) (t := 45) (e := 89) rfl rfl (by decide) (Nat.le_refl _) rows more hr (by simp only [room]; show (rows.length + more.length) * 24 ≤ _; omega) (by simp only [room]; omega)

def fxS (h : Heap) (lv : List Int) (ar : Int) (v : AV) (i : Int) (a : List (List AV) × Int) : St :=
  { env := [(0, .v (.vs 1 (intsC lv))), (1, .v (.int .i64 ar)), (2, .v v), (7, .v (accA h 3 a.1)), (8, .v (.int .i64 i))], loc := [], heap := accH h 89 a.1, inRound := false, lo := h.length }
theorem lt_its {l : List Sm'} {n : Int} {i : Nat} (h : i < l.length) : decide ((i : Int) < (((itemsL l n).map itC).length : Int)) = true := decide_eq_true (by rw [List.length_map, itemsL_len]; omega)
theorem ge_its {l : List Sm'} {n : Int} : decide ((l.length : Int) < (((itemsL l n).map itC).length : Int)) = false := decide_eq_false (by rw [List.length_map, itemsL_len]; omega)

set_option maxHeartbeats 2000000 in
theorem fixedR_run (lv : List Int) : ∀ (k : Nat) (l : List Sm'), smsK l + 20 ≤ k → smsN l ≤ 600 → smsB l → rdSs lv.length l → ∀ (ar n : Int) (h : Heap) (lo : Nat),
    call Try.prog cfg k lo (.func 55) [.vs 1 (intsC lv), .int .i64 ar, accV 6 ((itemsL l n).map itC)] h = some (accV 3 (fixRL lv l ar n), h)
  | 0, l, hk, _, _, _, _, _, _, _ => by omega
  | k + 1, [], hk, hN, hb, hr, ar, n, h, lo => by
    apply W_call Try.func55 rfl (Nat.le_of_ble_eq_true rfl) rfl rfl
    (repeat' (first | apply W_seq | refine W_true rfl rfl ?_ | refine W_false rfl rfl ?_ | refine W_region (id := 0) rfl rfl ?_ | refine W_region (id := 1) rfl rfl ?_ | refine W_region (id := 2) rfl rfl ?_ | apply W_skip | apply W_block | apply W_ret | apply W_exit | refine W_true rfl (by assumption) ?_ | refine W_false rfl (by assumption) ?_ | refine W_cond rfl (fun _ => ?_) (fun _ => ?_)))
    apply W_iter (S := fxS h lv ar .nils) (l := ([] : List Sm')) (a0 := ([], 0)) (fun _ a => a = ([], 0)) (by simp) (by simp; omega) rfl rfl
    · intro i st rest a hi; simp at hi
    · intro a hJ
      subst hJ
      (repeat' (first | apply W_seq | refine W_true rfl rfl ?_ | refine W_false rfl rfl ?_ | (refine W_ops (id := 3) rfl ?_ <;> refine T_ch 3 rfl ?_ <;> (refine T_go rfl ?_; refine G_false rfl rfl ?_) <;> apply T_nil) | refine W_region (id := 16) rfl rfl ?_ | apply W_skip | apply W_block | apply W_ret | apply W_exit | refine W_true rfl (by assumption) ?_ | refine W_false rfl (by assumption) ?_ | refine W_cond rfl (fun _ => ?_) (fun _ => ?_)))
      exact ⟨.inl rfl, rfl⟩
  | k + 1, s0 :: l0, hk, hN, hb, hr, ar, n, h, lo => by
    have hll := smsK_len (s0 :: l0)
    have hln := smsN_len (s0 :: l0)
    have hfin := acc_frz (h := h) (e := 89) (sz := 3) (fixRL lv (s0 :: l0) ar n) (fixRL_row lv _ ar n)
    have htot := fixRL_len lv (s0 :: l0) ar n
    have hrows := fixRL_row lv (s0 :: l0) ar n
    generalize hl : s0 :: l0 = l at *
    have hJ0 : fixRL lv l ar n = fixRL lv l ar n := rfl
    generalize hR : fixRL lv l ar n = R at hfin htot hrows
    have hacc : accV 6 ((itemsL l n).map itC) = .vs 6 ((itemsL l n).map itC) := by subst hl; rfl
    rw [hacc]
    apply W_call Try.func55 rfl (Nat.le_of_ble_eq_true rfl) rfl rfl
    (repeat' (first | apply W_seq | refine W_true rfl rfl ?_ | refine W_false rfl rfl ?_ | refine W_region (id := 0) rfl rfl ?_ | refine W_region (id := 1) rfl rfl ?_ | refine W_region (id := 2) rfl rfl ?_ | apply W_skip | apply W_block | apply W_ret | apply W_exit | refine W_true rfl (by assumption) ?_ | refine W_false rfl (by assumption) ?_ | refine W_cond rfl (fun _ => ?_) (fun _ => ?_)))
    apply W_iterI (S := fxS h lv ar (.vs 6 ((itemsL l n).map itC))) (l := l) (a0 := ([], n)) (fun i rest a => a.1 ++ fixRL lv rest ar a.2 = R ∧ (itemsL l n).drop i = itemsL rest a.2) (by omega) (by omega) rfl ⟨by simpa using hR, rfl⟩
    · intro i st rest a hi hd hil hJ
      obtain ⟨rows, m⟩ := a
      obtain ⟨hJ, hdr⟩ := hJ
      dsimp only at hJ hdr
      have hlt := lt_its (n := n) hil
      have hmem := smsK_mem l i _ hi
      have hNm := smsN_mem l i _ hi
      have hbm := smsB_mem l i _ hb hi
      have hrm := rdSs_mem hr hi
      rw [itemsL] at hdr
      have hget : (itemsL l n)[i]? = some (m, st) := by
        have := congrArg (fun z => z[0]?) hdr
        simpa using this
      have hrow : ((itemsL l n).map itC)[i]? = some (itC (m, st)) := by rw [List.getElem?_map, hget]; rfl
      have hdr2 : (itemsL l n).drop (i + 1) = itemsL rest (cnt1 st m) := by rw [← List.drop_drop, hdr]; rfl
      rw [fixRL] at hJ
      obtain ⟨op, nn, a, t, e⟩ := st
      rw [smK] at hmem
      rw [smN] at hNm
      rw [smB] at hbm
      rw [rdS1] at hrm
      obtain ⟨⟨ha1, ha2⟩, ⟨ht1, ht2⟩, he1, he2⟩ := hbm
      obtain ⟨r1, r2, r3, r4⟩ := hrm
      have hla := exsK_len a
      have htl := smsN_len t
      have hel := smsN_len e
      rw [fixR1] at hJ
      generalize hF : (if op = 0 then flowL m (orI ar (ofEs lv 0 a)) (lv.getD nn.toNat 0) else if op = 4 then flowL m (orI (orI ar (ofEs lv 0 a)) 16) (lv.getD nn.toNat 0) else if op = 3 then flowL m (orI ar (ofEs lv 0 a)) nn else []) = F at hJ
      generalize hT : fixRL lv t (orI ar (ofEs lv 0 a)) (IntKind.i64.wrap (m + 1)) = T at hJ
      generalize hE : fixRL lv e (orI ar (ofEs lv 0 a)) (IntKind.i64.wrap (IntKind.i64.wrap (m + 1) + cntL t 0)) = E at hJ
      have hlen := congrArg List.length hJ
      simp only [List.length_append] at hlen
      have q1 : ∀ r, r ∈ rows → r.length = 3 := fun r hr => (hrows r (by rw [← hJ]; simp [hr])).1
      have q2 : ∀ r, r ∈ rows ++ F → r.length = 3 := fun r hr => (hrows r (by rw [← hJ]; simp at hr ⊢; rcases hr with hr | hr <;> simp [hr])).1
      have q3 : ∀ r, r ∈ rows ++ F ++ T → r.length = 3 := fun r hr => (hrows r (by rw [← hJ]; simp at hr ⊢; rcases hr with hr | hr | hr <;> simp [hr])).1
      have hA := argsR_run op nn a t e lv (k - 1) (by omega) ha1 ha2 r1 (accH h 89 rows) h.length
      have hO := or_run (k - 1) h.length ar (ofEs lv 0 a) (accH h 89 rows)
      have hO16 := or_run (k - 1) (accH h 89 rows).length (orI ar (ofEs lv 0 a)) 16 (accH h 89 rows)
      rw [show k - 1 + 1 = k by omega] at hA hO hO16
      have hF0 := flow_run m (orI ar (ofEs lv 0 a)) (lv.getD nn.toNat 0) (k - 2) (accH h 89 rows).length (accH h 89 rows)
      have hF4 := flow_run m (orI (orI ar (ofEs lv 0 a)) 16) (lv.getD nn.toNat 0) (k - 2) (accH h 89 rows).length (accH h 89 rows)
      have hF3 := flow_run m (orI ar (ofEs lv 0 a)) nn (k - 2) (accH h 89 rows).length (accH h 89 rows)
      rw [show k - 2 + 2 = k by omega] at hF0 hF4 hF3
      have hap1 := fl_append h rows F q1 (by omega)
      have hap2 := fl_append h (rows ++ F) T q2 (by simp; omega)
      have hap3 := fl_append h (rows ++ F ++ T) E q3 (by simp; omega)
      have hTh := then_run m op nn a t e (k - 1) (by omega) (by omega) ht2 (accH h 89 (rows ++ F)) h.length
      have hEl := else_run m op nn a t e (k - 1) (by omega) (by omega) ht2 (by omega) he2 (accH h 89 (rows ++ F ++ T)) h.length
      rw [show k - 1 + 1 = k by omega] at hTh hEl
      have hfT := fixedR_run lv k t (by omega) (by omega) ht2 r3 (orI ar (ofEs lv 0 a)) (IntKind.i64.wrap (m + 1)) (accH h 89 (rows ++ F)) h.length
      have hfE := fixedR_run lv k e (by omega) (by omega) he2 r4 (orI ar (ofEs lv 0 a)) (IntKind.i64.wrap (IntKind.i64.wrap (m + 1) + cntL t 0)) (accH h 89 (rows ++ F ++ T)) h.length
      rw [hT] at hfT
      rw [hE] at hfE
      have hend : rows ++ F ++ T ++ E ++ fixRL lv rest ar (cnt1 (.mk op nn a t e) m) = R := by rw [← hJ]; simp
      clear hJ hfin htot hrows hlen q1 q2 q3 hdr hR hJ0
      by_cases o0 : op = 0
      · have hx := intsC_at (r2 (.inl o0))
        rw [if_pos o0] at hF
        rw [hF] at hF0
        have c0 : (op == 0) = true := by simp [o0]
        (repeat' (first | apply W_seq | refine W_true rfl rfl ?_ | refine W_false rfl rfl ?_ | (refine W_ops (id := 3) rfl ?_ <;> refine T_ch 3 rfl ?_ <;> (refine T_go rfl ?_; refine G_true rfl (by with_reducible assumption) ?_) <;> apply T_nil) | refine W_region (id := 4) rfl rfl ?_ | (refine W_ops (id := 5) rfl ?_ <;> refine T_ch 2 rfl ?_ <;> (refine T_go rfl ?_; refine G_op (O_index rfl rfl rfl rfl rfl (by assumption)) ?_) <;> refine T_ch 1 rfl ?_ <;> (refine T_go rfl ?_; refine G_op rfl ?_) <;> refine T_ch 2 rfl ?_ <;> apply T_nil) | (refine W_ops (id := 6) rfl ?_ <;> refine T_ch 3 rfl ?_ <;> (refine T_go rfl ?_; refine G_op (O_call rfl rfl rfl rfl (by assumption)) ?_) <;> (refine T_go rfl ?_; refine G_op (O_call rfl rfl rfl rfl (by assumption)) ?_) <;> refine T_ch 1 rfl ?_ <;> apply T_nil) | refine W_region (id := 7) rfl rfl ?_ | (refine W_ops (id := 8) rfl ?_ <;> (refine T_go rfl ?_; refine G_true rfl (by with_reducible assumption) ?_) <;> refine T_ch 1 rfl ?_ <;> apply T_nil) | (refine W_dops (id := 9) (bs := [0, 0, 0, 6, 14, 30, 0, 0, 0, 256, 896, 1920, 4094, 8191, 16383]) rfl (by decide +kernel) ?_ <;> (refine U_go rfl ?_; refine H_free (by decide +kernel) rfl rfl rfl rfl rfl ?_) <;> (refine U_go rfl ?_; refine H_free (by decide +kernel) rfl rfl rfl rfl rfl ?_) <;> (refine U_go rfl ?_; refine H_free (by decide +kernel) rfl rfl rfl rfl rfl ?_) <;> (refine U_go rfl ?_; refine H_free (by decide +kernel) rfl (O_index rfl rfl rfl rfl rfl (by assumption)) rfl rfl rfl ?_) <;> (refine U_go rfl ?_; refine H_free (by decide +kernel) rfl rfl rfl rfl rfl ?_) <;> (refine U_go rfl ?_; refine H_free (by decide +kernel) rfl rfl rfl rfl rfl ?_) <;> (refine U_go rfl ?_; refine H_free (by decide +kernel) rfl rfl rfl rfl rfl ?_) <;> (refine U_go rfl ?_; refine H_free (by decide +kernel) rfl rfl rfl rfl rfl ?_) <;> (refine U_go rfl ?_; refine H_free (by decide +kernel) rfl rfl rfl rfl rfl ?_) <;> (refine U_go rfl ?_; refine H_free (by decide +kernel) rfl rfl rfl rfl rfl ?_) <;> (refine U_go rfl ?_; refine H_free (by decide +kernel) rfl (O_indexI rfl rfl rfl rfl rfl (by assumption)) rfl rfl rfl ?_) <;> (refine U_go rfl ?_; refine H_free (by decide +kernel) rfl rfl rfl rfl rfl ?_) <;> (refine U_go rfl ?_; refine H_free (by decide +kernel) rfl (O_call rfl rfl rfl rfl (by assumption)) rfl rfl rfl ?_) <;> (refine U_go rfl ?_; refine H_op (by decide +kernel) (O_append rfl rfl rfl rfl rfl (by assumption)) ?_) <;> (refine U_go rfl ?_; refine H_op (by decide +kernel) rfl ?_) <;> apply U_nil) | (refine W_ops (id := 14) rfl ?_ <;> refine T_ch 5 rfl ?_ <;> (refine T_go rfl ?_; refine G_op (O_index rfl rfl rfl rfl rfl (by assumption)) ?_) <;> (refine T_go rfl ?_; refine G_op rfl ?_) <;> (refine T_go rfl ?_; refine G_op (O_call rfl rfl rfl rfl (by assumption)) ?_) <;> (refine T_go rfl ?_; refine G_op (O_call rfl rfl rfl rfl (by assumption)) ?_) <;> (refine T_go rfl ?_; refine G_op (O_append rfl rfl rfl rfl rfl (by assumption)) ?_) <;> refine T_ch 1 rfl ?_ <;> apply T_nil) | (refine W_ops (id := 15) rfl ?_ <;> refine T_ch 5 rfl ?_ <;> (refine T_go rfl ?_; refine G_op (O_index rfl rfl rfl rfl rfl (by assumption)) ?_) <;> (refine T_go rfl ?_; refine G_op rfl ?_) <;> (refine T_go rfl ?_; refine G_op (O_call rfl rfl rfl rfl (by assumption)) ?_) <;> (refine T_go rfl ?_; refine G_op (O_call rfl rfl rfl rfl (by assumption)) ?_) <;> (refine T_go rfl ?_; refine G_op (O_append rfl rfl rfl rfl rfl (by assumption)) ?_) <;> refine T_ch 1 rfl ?_ <;> apply T_nil) | apply W_skip | apply W_block | apply W_ret | apply W_exit | refine W_true rfl (by assumption) ?_ | refine W_false rfl (by assumption) ?_ | refine W_cond rfl (fun _ => ?_) (fun _ => ?_)))
        exact ⟨(rows ++ F ++ T ++ E, cnt1 (.mk op nn a t e) m), rfl, hend, hdr2⟩
      by_cases o4 : op = 4
      · have hx := intsC_at (r2 (.inr o4))
        rw [if_neg o0, if_pos o4] at hF
        rw [hF] at hF4
        have c0 : (op == 0) = false := by simp [o0]
        have c4 : (op == 4) = true := by simp [o4]
        (repeat' (first | apply W_seq | refine W_true rfl rfl ?_ | refine W_false rfl rfl ?_ | (refine W_ops (id := 3) rfl ?_ <;> refine T_ch 3 rfl ?_ <;> (refine T_go rfl ?_; refine G_true rfl (by with_reducible assumption) ?_) <;> apply T_nil) | refine W_region (id := 4) rfl rfl ?_ | (refine W_ops (id := 5) rfl ?_ <;> refine T_ch 2 rfl ?_ <;> (refine T_go rfl ?_; refine G_op (O_index rfl rfl rfl rfl rfl (by assumption)) ?_) <;> refine T_ch 1 rfl ?_ <;> (refine T_go rfl ?_; refine G_op rfl ?_) <;> refine T_ch 2 rfl ?_ <;> apply T_nil) | (refine W_ops (id := 6) rfl ?_ <;> refine T_ch 3 rfl ?_ <;> (refine T_go rfl ?_; refine G_op (O_call rfl rfl rfl rfl (by assumption)) ?_) <;> (refine T_go rfl ?_; refine G_op (O_call rfl rfl rfl rfl (by assumption)) ?_) <;> refine T_ch 1 rfl ?_ <;> apply T_nil) | refine W_region (id := 7) rfl rfl ?_ | (refine W_ops (id := 8) rfl ?_ <;> (refine T_go rfl ?_; refine G_false rfl (by with_reducible assumption) ?_) <;> refine T_ch 1 rfl ?_ <;> apply T_nil) | (refine W_ops (id := 10) rfl ?_ <;> (refine T_go rfl ?_; refine G_true rfl (by with_reducible assumption) ?_) <;> refine T_ch 1 rfl ?_ <;> apply T_nil) | (refine W_dops (id := 11) (bs := [0, 0, 0, 6, 14, 30, 0, 64, 0, 0, 512, 1792, 3840, 8190, 16383, 32767]) rfl (by decide +kernel) ?_ <;> (refine U_go rfl ?_; refine H_free (by decide +kernel) rfl rfl rfl rfl rfl ?_) <;> (refine U_go rfl ?_; refine H_free (by decide +kernel) rfl rfl rfl rfl rfl ?_) <;> (refine U_go rfl ?_; refine H_free (by decide +kernel) rfl rfl rfl rfl rfl ?_) <;> (refine U_go rfl ?_; refine H_free (by decide +kernel) rfl (O_index rfl rfl rfl rfl rfl (by assumption)) rfl rfl rfl ?_) <;> (refine U_go rfl ?_; refine H_free (by decide +kernel) rfl rfl rfl rfl rfl ?_) <;> (refine U_go rfl ?_; refine H_free (by decide +kernel) rfl rfl rfl rfl rfl ?_) <;> (refine U_go rfl ?_; refine H_free (by decide +kernel) rfl rfl rfl rfl rfl ?_) <;> (refine U_go rfl ?_; refine H_free (by decide +kernel) rfl (O_call rfl rfl rfl rfl (by assumption)) rfl rfl rfl ?_) <;> (refine U_go rfl ?_; refine H_free (by decide +kernel) rfl rfl rfl rfl rfl ?_) <;> (refine U_go rfl ?_; refine H_free (by decide +kernel) rfl rfl rfl rfl rfl ?_) <;> (refine U_go rfl ?_; refine H_free (by decide +kernel) rfl rfl rfl rfl rfl ?_) <;> (refine U_go rfl ?_; refine H_free (by decide +kernel) rfl (O_indexI rfl rfl rfl rfl rfl (by assumption)) rfl rfl rfl ?_) <;> (refine U_go rfl ?_; refine H_free (by decide +kernel) rfl rfl rfl rfl rfl ?_) <;> (refine U_go rfl ?_; refine H_free (by decide +kernel) rfl (O_call rfl rfl rfl rfl (by assumption)) rfl rfl rfl ?_) <;> (refine U_go rfl ?_; refine H_op (by decide +kernel) (O_append rfl rfl rfl rfl rfl (by assumption)) ?_) <;> (refine U_go rfl ?_; refine H_op (by decide +kernel) rfl ?_) <;> apply U_nil) | (refine W_ops (id := 14) rfl ?_ <;> refine T_ch 5 rfl ?_ <;> (refine T_go rfl ?_; refine G_op (O_index rfl rfl rfl rfl rfl (by assumption)) ?_) <;> (refine T_go rfl ?_; refine G_op rfl ?_) <;> (refine T_go rfl ?_; refine G_op (O_call rfl rfl rfl rfl (by assumption)) ?_) <;> (refine T_go rfl ?_; refine G_op (O_call rfl rfl rfl rfl (by assumption)) ?_) <;> (refine T_go rfl ?_; refine G_op (O_append rfl rfl rfl rfl rfl (by assumption)) ?_) <;> refine T_ch 1 rfl ?_ <;> apply T_nil) | (refine W_ops (id := 15) rfl ?_ <;> refine T_ch 5 rfl ?_ <;> (refine T_go rfl ?_; refine G_op (O_index rfl rfl rfl rfl rfl (by assumption)) ?_) <;> (refine T_go rfl ?_; refine G_op rfl ?_) <;> (refine T_go rfl ?_; refine G_op (O_call rfl rfl rfl rfl (by assumption)) ?_) <;> (refine T_go rfl ?_; refine G_op (O_call rfl rfl rfl rfl (by assumption)) ?_) <;> (refine T_go rfl ?_; refine G_op (O_append rfl rfl rfl rfl rfl (by assumption)) ?_) <;> refine T_ch 1 rfl ?_ <;> apply T_nil) | refine W_region (id := 4) rfl rfl ?_ | apply W_skip | apply W_block | apply W_ret | apply W_exit | refine W_true rfl (by assumption) ?_ | refine W_false rfl (by assumption) ?_ | refine W_cond rfl (fun _ => ?_) (fun _ => ?_)))
        exact ⟨(rows ++ F ++ T ++ E, cnt1 (.mk op nn a t e) m), rfl, hend, hdr2⟩
      by_cases o3 : op = 3
      · rw [if_neg o0, if_neg o4, if_pos o3] at hF
        rw [hF] at hF3
        have c0 : (op == 0) = false := by simp [o0]
        have c4 : (op == 4) = false := by simp [o4]
        have c3 : (op == 3) = true := by simp [o3]
        (repeat' (first | apply W_seq | refine W_true rfl rfl ?_ | refine W_false rfl rfl ?_ | (refine W_ops (id := 3) rfl ?_ <;> refine T_ch 3 rfl ?_ <;> (refine T_go rfl ?_; refine G_true rfl (by with_reducible assumption) ?_) <;> apply T_nil) | refine W_region (id := 4) rfl rfl ?_ | (refine W_ops (id := 5) rfl ?_ <;> refine T_ch 2 rfl ?_ <;> (refine T_go rfl ?_; refine G_op (O_index rfl rfl rfl rfl rfl (by assumption)) ?_) <;> refine T_ch 1 rfl ?_ <;> (refine T_go rfl ?_; refine G_op rfl ?_) <;> refine T_ch 2 rfl ?_ <;> apply T_nil) | (refine W_ops (id := 6) rfl ?_ <;> refine T_ch 3 rfl ?_ <;> (refine T_go rfl ?_; refine G_op (O_call rfl rfl rfl rfl (by assumption)) ?_) <;> (refine T_go rfl ?_; refine G_op (O_call rfl rfl rfl rfl (by assumption)) ?_) <;> refine T_ch 1 rfl ?_ <;> apply T_nil) | refine W_region (id := 7) rfl rfl ?_ | (refine W_ops (id := 8) rfl ?_ <;> (refine T_go rfl ?_; refine G_false rfl (by with_reducible assumption) ?_) <;> refine T_ch 1 rfl ?_ <;> apply T_nil) | (refine W_ops (id := 10) rfl ?_ <;> (refine T_go rfl ?_; refine G_false rfl (by with_reducible assumption) ?_) <;> refine T_ch 1 rfl ?_ <;> apply T_nil) | (refine W_ops (id := 12) rfl ?_ <;> (refine T_go rfl ?_; refine G_true rfl (by with_reducible assumption) ?_) <;> refine T_ch 1 rfl ?_ <;> apply T_nil) | (refine W_dops (id := 13) (bs := [0, 0, 0, 6, 14, 30, 0, 0, 128, 510, 1023, 2047]) rfl (by decide +kernel) ?_ <;> (refine U_go rfl ?_; refine H_free (by decide +kernel) rfl rfl rfl rfl rfl ?_) <;> (refine U_go rfl ?_; refine H_free (by decide +kernel) rfl rfl rfl rfl rfl ?_) <;> (refine U_go rfl ?_; refine H_free (by decide +kernel) rfl rfl rfl rfl rfl ?_) <;> (refine U_go rfl ?_; refine H_free (by decide +kernel) rfl (O_index rfl rfl rfl rfl rfl (by assumption)) rfl rfl rfl ?_) <;> (refine U_go rfl ?_; refine H_free (by decide +kernel) rfl rfl rfl rfl rfl ?_) <;> (refine U_go rfl ?_; refine H_free (by decide +kernel) rfl rfl rfl rfl rfl ?_) <;> (refine U_go rfl ?_; refine H_free (by decide +kernel) rfl rfl rfl rfl rfl ?_) <;> (refine U_go rfl ?_; refine H_free (by decide +kernel) rfl rfl rfl rfl rfl ?_) <;> (refine U_go rfl ?_; refine H_free (by decide +kernel) rfl rfl rfl rfl rfl ?_) <;> (refine U_go rfl ?_; refine H_free (by decide +kernel) rfl (O_call rfl rfl rfl rfl (by assumption)) rfl rfl rfl ?_) <;> (refine U_go rfl ?_; refine H_op (by decide +kernel) (O_append rfl rfl rfl rfl rfl (by assumption)) ?_) <;> (refine U_go rfl ?_; refine H_op (by decide +kernel) rfl ?_) <;> apply U_nil) | (refine W_ops (id := 14) rfl ?_ <;> refine T_ch 5 rfl ?_ <;> (refine T_go rfl ?_; refine G_op (O_index rfl rfl rfl rfl rfl (by assumption)) ?_) <;> (refine T_go rfl ?_; refine G_op rfl ?_) <;> (refine T_go rfl ?_; refine G_op (O_call rfl rfl rfl rfl (by assumption)) ?_) <;> (refine T_go rfl ?_; refine G_op (O_call rfl rfl rfl rfl (by assumption)) ?_) <;> (refine T_go rfl ?_; refine G_op (O_append rfl rfl rfl rfl rfl (by assumption)) ?_) <;> refine T_ch 1 rfl ?_ <;> apply T_nil) | (refine W_ops (id := 15) rfl ?_ <;> refine T_ch 5 rfl ?_ <;> (refine T_go rfl ?_; refine G_op (O_index rfl rfl rfl rfl rfl (by assumption)) ?_) <;> (refine T_go rfl ?_; refine G_op rfl ?_) <;> (refine T_go rfl ?_; refine G_op (O_call rfl rfl rfl rfl (by assumption)) ?_) <;> (refine T_go rfl ?_; refine G_op (O_call rfl rfl rfl rfl (by assumption)) ?_) <;> (refine T_go rfl ?_; refine G_op (O_append rfl rfl rfl rfl rfl (by assumption)) ?_) <;> refine T_ch 1 rfl ?_ <;> apply T_nil) | apply W_skip | apply W_block | apply W_ret | apply W_exit | refine W_true rfl (by assumption) ?_ | refine W_false rfl (by assumption) ?_ | refine W_cond rfl (fun _ => ?_) (fun _ => ?_)))
        exact ⟨(rows ++ F ++ T ++ E, cnt1 (.mk op nn a t e) m), rfl, hend, hdr2⟩
      · rw [if_neg o0, if_neg o4, if_neg o3] at hF
        subst hF
        rw [List.append_nil] at *
        have c0 : (op == 0) = false := by simp [o0]
        have c4 : (op == 4) = false := by simp [o4]
        have c3 : (op == 3) = false := by simp [o3]
        (repeat' (first | apply W_seq | refine W_true rfl rfl ?_ | refine W_false rfl rfl ?_ | (refine W_ops (id := 3) rfl ?_ <;> refine T_ch 3 rfl ?_ <;> (refine T_go rfl ?_; refine G_true rfl (by with_reducible assumption) ?_) <;> apply T_nil) | refine W_region (id := 4) rfl rfl ?_ | (refine W_ops (id := 5) rfl ?_ <;> refine T_ch 2 rfl ?_ <;> (refine T_go rfl ?_; refine G_op (O_index rfl rfl rfl rfl rfl (by assumption)) ?_) <;> refine T_ch 1 rfl ?_ <;> (refine T_go rfl ?_; refine G_op rfl ?_) <;> refine T_ch 2 rfl ?_ <;> apply T_nil) | (refine W_ops (id := 6) rfl ?_ <;> refine T_ch 3 rfl ?_ <;> (refine T_go rfl ?_; refine G_op (O_call rfl rfl rfl rfl (by assumption)) ?_) <;> (refine T_go rfl ?_; refine G_op (O_call rfl rfl rfl rfl (by assumption)) ?_) <;> refine T_ch 1 rfl ?_ <;> apply T_nil) | refine W_region (id := 7) rfl rfl ?_ | (refine W_ops (id := 8) rfl ?_ <;> (refine T_go rfl ?_; refine G_false rfl (by with_reducible assumption) ?_) <;> refine T_ch 1 rfl ?_ <;> apply T_nil) | (refine W_ops (id := 10) rfl ?_ <;> (refine T_go rfl ?_; refine G_false rfl (by with_reducible assumption) ?_) <;> refine T_ch 1 rfl ?_ <;> apply T_nil) | (refine W_ops (id := 12) rfl ?_ <;> (refine T_go rfl ?_; refine G_false rfl (by with_reducible assumption) ?_) <;> refine T_ch 1 rfl ?_ <;> apply T_nil) | (refine W_ops (id := 14) rfl ?_ <;> refine T_ch 5 rfl ?_ <;> (refine T_go rfl ?_; refine G_op (O_index rfl rfl rfl rfl rfl (by assumption)) ?_) <;> (refine T_go rfl ?_; refine G_op rfl ?_) <;> (refine T_go rfl ?_; refine G_op (O_call rfl rfl rfl rfl (by assumption)) ?_) <;> (refine T_go rfl ?_; refine G_op (O_call rfl rfl rfl rfl (by assumption)) ?_) <;> (refine T_go rfl ?_; refine G_op (O_append rfl rfl rfl rfl rfl (by assumption)) ?_) <;> refine T_ch 1 rfl ?_ <;> apply T_nil) | (refine W_ops (id := 15) rfl ?_ <;> refine T_ch 5 rfl ?_ <;> (refine T_go rfl ?_; refine G_op (O_index rfl rfl rfl rfl rfl (by assumption)) ?_) <;> (refine T_go rfl ?_; refine G_op rfl ?_) <;> (refine T_go rfl ?_; refine G_op (O_call rfl rfl rfl rfl (by assumption)) ?_) <;> (refine T_go rfl ?_; refine G_op (O_call rfl rfl rfl rfl (by assumption)) ?_) <;> (refine T_go rfl ?_; refine G_op (O_append rfl rfl rfl rfl rfl (by assumption)) ?_) <;> refine T_ch 1 rfl ?_ <;> apply T_nil) | apply W_skip | apply W_block | apply W_ret | apply W_exit | refine W_true rfl (by assumption) ?_ | refine W_false rfl (by assumption) ?_ | refine W_cond rfl (fun _ => ?_) (fun _ => ?_)))
        exact ⟨(rows ++ T ++ E, cnt1 (.mk op nn a t e) m), rfl, hend, hdr2⟩
    · intro a hJ
      have hlt := ge_its (l := l) (n := n)
      obtain ⟨rows, m⟩ := a
      have hJ1 : rows = R := by simpa [fixRL] using hJ.1
      subst hJ1
      (repeat' (first | apply W_seq | refine W_true rfl rfl ?_ | refine W_false rfl rfl ?_ | (refine W_ops (id := 3) rfl ?_ <;> refine T_ch 3 rfl ?_ <;> (refine T_go rfl ?_; refine G_false rfl (by with_reducible assumption) ?_) <;> apply T_nil) | refine W_region (id := 16) rfl rfl ?_ | apply W_skip | apply W_block | apply W_ret | apply W_exit | refine W_true rfl (by assumption) ?_ | refine W_false rfl (by assumption) ?_ | refine W_cond rfl (fun _ => ?_) (fun _ => ?_)))
      exact ⟨.inl rfl, hfin⟩
theorem FixedR_run (lv : List Int) (p : Pr') (k : Nat) (hk : smsK p.body + 30 ≤ k) (hN : smsN p.body ≤ 600) (hb : prB p) (hr : rdSs lv.length p.body) (h : Heap) (lo : Nat) :
    call Try.prog cfg (k + 1) lo (.func 22) [.agg (prC p), .vs 1 (intsC lv)] h = some (accV 3 (fixRL lv p.body 0 0), h) := by
  have hln := smsN_len p.body
  have hI := items_run p.body 0 (k - 1) (by omega) (by omega) hb.2.2 h h.length
  rw [show k - 1 + 1 = k by omega] at hI
  have hF := fixedR_run lv k p.body (by omega) hN hb.2.2 hr 0 0 h h.length
  have hrw := fixRL_row lv p.body 0 0
  obtain ⟨w, vs, body⟩ := p
  dsimp only at hI hF hrw ⊢
  generalize fixRL lv body 0 0 = R at hF hrw ⊢
  cases R with
  | nil =>
    apply W_call Try.func22 rfl (Nat.le_of_ble_eq_true rfl) rfl rfl
    (repeat' (first | apply W_seq | refine W_true rfl rfl ?_ | refine W_false rfl rfl ?_ | refine W_region (id := 0) rfl rfl ?_ | (refine W_ops (id := 1) rfl ?_ <;> refine T_ch 3 rfl ?_ <;> (refine T_go rfl ?_; refine G_op (O_call rfl rfl rfl rfl (by assumption)) ?_) <;> (refine T_go rfl ?_; refine G_op (O_call rfl rfl rfl rfl (by assumption)) ?_) <;> refine T_ch 1 rfl ?_ <;> apply T_nil) | apply W_skip | apply W_block | apply W_ret | apply W_exit | refine W_true rfl (by assumption) ?_ | refine W_false rfl (by assumption) ?_ | refine W_cond rfl (fun _ => ?_) (fun _ => ?_)))
    exact ⟨.inl rfl, rfl⟩
  | cons r R =>
    apply W_call Try.func22 rfl (Nat.le_of_ble_eq_true rfl) rfl rfl
    (repeat' (first | apply W_seq | refine W_true rfl rfl ?_ | refine W_false rfl rfl ?_ | refine W_region (id := 0) rfl rfl ?_ | (refine W_ops (id := 1) rfl ?_ <;> refine T_ch 3 rfl ?_ <;> (refine T_go rfl ?_; refine G_op (O_call rfl rfl rfl rfl (by assumption)) ?_) <;> (refine T_go rfl ?_; refine G_op (O_call rfl rfl rfl rfl (by assumption)) ?_) <;> refine T_ch 1 rfl ?_ <;> apply T_nil) | apply W_skip | apply W_block | apply W_ret | apply W_exit | refine W_true rfl (by assumption) ?_ | refine W_false rfl (by assumption) ?_ | refine W_cond rfl (fun _ => ?_) (fun _ => ?_)))
    exact ⟨.inl rfl, rfl⟩
end Go.Proofs.Ytelobnllkhnpaaa.L
/- Flows by fixed types, in the program. -/
open Go Go.Proofs Go.Ev Go.Proofs.Ytelobnllkhnpaaa.E
namespace Go.Proofs.Ytelobnllkhnpaaa.L
set_option linter.unusedVariables false
set_option linter.unusedSimpArgs false
set_option maxHeartbeats 2000000
set_option maxRecDepth 100000

section
variable {σ : Type} (tl : σ → Int → Int → Int → σ) (lv : List Int)
mutual
def fixP1 : Sm' → Int → σ → Int → σ × Int
  | .mk op nn a t e, ar, x, n =>
    if op = 0 then (tl x n (orI ar (ofEs lv 0 a)) (lv.getD nn.toNat 0), IntKind.i64.wrap (n + 1)) else if op = 4 then (tl x n (orI (orI ar (ofEs lv 0 a)) 16) (lv.getD nn.toNat 0), IntKind.i64.wrap (n + 1))
    else if op = 3 then (tl x n (orI ar (ofEs lv 0 a)) nn, IntKind.i64.wrap (n + 1))
    else if op = 1 ∨ op = 2 then fixPL e (orI ar (ofEs lv 0 a)) (fixPL t (orI ar (ofEs lv 0 a)) x (IntKind.i64.wrap (n + 1))).1 (fixPL t (orI ar (ofEs lv 0 a)) x (IntKind.i64.wrap (n + 1))).2
    else (x, IntKind.i64.wrap (n + 1))
def fixPL : List Sm' → Int → σ → Int → σ × Int
  | [], _, x, n => (x, n)
  | s :: l, ar, x, n => fixPL l ar (fixP1 s ar x n).1 (fixP1 s ar x n).2
end
end
def tellL (x : List (List AV)) (a f t : Int) : List (List AV) := x ++ flowL a f t
def outA (h : Heap) : List (List AV) → AV
  | [] => .nils
  | r :: l => .sl (h.length + 2) 3 0 (l.length + 1)
def flB (h : Heap) : List (List AV) → Heap
  | [] => h ++ [.cells 41 [.nils], .cells 3 [.int .i64 0]]
  | r :: l => h ++ [.cells 41 [.sl (h.length + 2) 3 0 (l.length + 1)], .cells 3 [.int .i64 0], .cells 94 (r :: l).flatten]
def flX (h : Heap) : List (List AV) → Int → Heap
  | [], m => h ++ [.cells 41 [.nils], .cells 3 [.int .i64 m]]
  | r :: l, m => h ++ [.cells 41 [.sl (h.length + 2) 3 0 (l.length + 1)], .cells 3 [.int .i64 m], .cells 94 (r :: l).flatten]
theorem flB_set (h : Heap) (rows : List (List AV)) (m : Int) : (flB h rows).set (h.length + 1) (.cells 3 [.int .i64 m]) = flX h rows m := by
  cases rows <;> simp [flB, flX, List.set_append]
theorem flB_len (h : Heap) (rows : List (List AV)) : h.length + 1 < (flB h rows).length := by
  cases rows <;> simp [flB]
theorem tell_run (h : Heap) (rows : List (List AV)) (hr : ∀ r, r ∈ rows → r.length = 3) (hl : rows.length < 100000) (a f t m : Int) (k lo : Nat) (hlo : lo ≤ h.length) :
    call Try.prog cfg (k + 2) lo (.func 89) [.int .i64 a, .int .i64 f, .int .i64 t, .hp h.length 1 0] (flX h rows m) = some (.tup [], flX h (rows ++ flowL a f t) m) := by
  have hw := within_run f t k lo (flX h rows m)
  have hw2 := within_run f t k (flX h rows m).length (flX h rows m)
  unfold flowL
  cases hc : withinB f t
  · rw [hc] at hw hw2
    rw [if_neg (by simp)]
    cases rows with
    | nil =>
      have hg : (flX h [] m)[h.length]? = some (.cells 41 [.nils]) := by simp [flX]
      have hg2 : (flX h [] m ++ [HObj.cells 94 [.int .i64 a, .int .i64 f, .int .i64 t]])[h.length]? = some (.cells 41 [.nils]) := by simp [flX]
      have hap : append cfg.tab lo (flX h [] m) 41 .nils (.vs 3 [[.int .i64 a, .int .i64 f, .int .i64 t]]) = some (.sl (flX h [] m).length 3 0 1, flX h [] m ++ [.cells 94 [.int .i64 a, .int .i64 f, .int .i64 t]]) := rfl
      have hend : (flX h [] m ++ [HObj.cells 94 [.int .i64 a, .int .i64 f, .int .i64 t]]).set h.length (.cells 41 [.sl (flX h [] m).length 3 0 1]) = flX h [[.int .i64 a, .int .i64 f, .int .i64 t]] m := by simp [flX, List.set_append]
      rw [List.nil_append, ← hend]
      apply W_call Try.func89 rfl (Nat.le_of_ble_eq_true rfl) rfl rfl
      (repeat' (first | apply W_seq | refine W_true rfl rfl ?_ | refine W_false rfl rfl ?_ | (refine W_ops (id := 0) rfl ?_ <;> refine T_ch 2 rfl ?_ <;> (refine T_go rfl ?_; refine G_false (O_call rfl rfl rfl rfl (by assumption)) rfl ?_) <;> refine T_ch 1 rfl ?_ <;> apply T_nil) | (refine W_ops (id := 1) rfl ?_ <;> (refine T_go rfl ?_; refine G_op (O_loadH rfl rfl rfl (by assumption) rfl rfl) ?_) <;> refine T_ch 5 rfl ?_ <;> (refine T_go rfl ?_; refine G_op (O_append rfl rfl rfl rfl rfl (by assumption)) ?_) <;> (refine T_go rfl ?_; refine G_op (O_storeH rfl rfl rfl rfl (by assumption) ⟨by assumption, rfl, rfl, Nat.le_of_ble_eq_true rfl⟩) ?_) <;> apply T_nil) | apply W_skip | apply W_block | apply W_ret | apply W_exit | refine W_true rfl (by assumption) ?_ | refine W_false rfl (by assumption) ?_ | refine W_cond rfl (fun _ => ?_) (fun _ => ?_)))
      exact ⟨.inr rfl, rfl⟩
    | cons r l =>
      have hg : (flX h (r :: l) m)[h.length]? = some (.cells 41 [.sl (h.length + 2) 3 0 (l.length + 1)]) := by simp [flX]
      have hgo : (flX h (r :: l) m)[h.length + 2]? = some (.cells 94 (r :: l).flatten) := by simp [flX]
      have hg2 : ((flX h (r :: l) m).set (h.length + 2) (HObj.cells 94 ((r :: l).flatten ++ [.int .i64 a, .int .i64 f, .int .i64 t])))[h.length]? = some (.cells 41 [.sl (h.length + 2) 3 0 (l.length + 1)]) := by
        rw [List.getElem?_set_ne (by omega)]; exact hg
      have hap : append cfg.tab lo (flX h (r :: l) m) 41 (.sl (h.length + 2) 3 0 (l.length + 1)) (.vs 3 [[.int .i64 a, .int .i64 f, .int .i64 t]]) = some (.sl (h.length + 2) 3 0 (l.length + 1 + 1), (flX h (r :: l) m).set (h.length + 2) (.cells 94 ((r :: l).flatten ++ [.int .i64 a, .int .i64 f, .int .i64 t]))) := by
        unfold append
        rw [show Go.Ev.look cfg.tab 41 = some ⟨.slice 94, 1, 24, [.nils]⟩ from rfl]
        dsimp only
        rw [show Go.Ev.look cfg.tab 94 = some ⟨.struct [(0, 3), (1, 3), (2, 3)], 3, 24, [.int .i64 0, .int .i64 0, .int .i64 0]⟩ from rfl]
        have hrow : rowOf (flX h (r :: l) m) 3 (.vs 3 [[.int .i64 a, .int .i64 f, .int .i64 t]]) = some [.int .i64 a, .int .i64 f, .int .i64 t] := by simp [rowOf]
        dsimp only
        rw [hrow]
        simp only [lenOf]
        rw [hgo]
        dsimp only
        simp only [List.length_cons] at hl
        rw [if_pos ⟨by omega, by trivial, by trivial, by trivial, by rw [flat_len _ hr]; rfl, by trivial, by simp only [room, List.length_cons, List.length_nil]; omega, by simp only [room, List.length_cons, List.length_nil]; omega⟩]
        rfl
      have hend : ((flX h (r :: l) m).set (h.length + 2) (HObj.cells 94 ((r :: l).flatten ++ [.int .i64 a, .int .i64 f, .int .i64 t]))).set h.length (.cells 41 [.sl (h.length + 2) 3 0 (l.length + 1 + 1)]) = flX h (r :: l ++ [[.int .i64 a, .int .i64 f, .int .i64 t]]) m := by simp [flX, List.set_append]
      rw [← hend]
      apply W_call Try.func89 rfl (Nat.le_of_ble_eq_true rfl) rfl rfl
      (repeat' (first | apply W_seq | refine W_true rfl rfl ?_ | refine W_false rfl rfl ?_ | (refine W_ops (id := 0) rfl ?_ <;> refine T_ch 2 rfl ?_ <;> (refine T_go rfl ?_; refine G_false (O_call rfl rfl rfl rfl (by assumption)) rfl ?_) <;> refine T_ch 1 rfl ?_ <;> apply T_nil) | (refine W_ops (id := 1) rfl ?_ <;> (refine T_go rfl ?_; refine G_op (O_loadH rfl rfl rfl (by assumption) rfl rfl) ?_) <;> refine T_ch 5 rfl ?_ <;> (refine T_go rfl ?_; refine G_op (O_append rfl rfl rfl rfl rfl (by assumption)) ?_) <;> (refine T_go rfl ?_; refine G_op (O_storeH rfl rfl rfl rfl (by assumption) ⟨by assumption, rfl, rfl, Nat.le_of_ble_eq_true rfl⟩) ?_) <;> apply T_nil) | apply W_skip | apply W_block | apply W_ret | apply W_exit | refine W_true rfl (by assumption) ?_ | refine W_false rfl (by assumption) ?_ | refine W_cond rfl (fun _ => ?_) (fun _ => ?_)))
      exact ⟨.inr rfl, rfl⟩
  · rw [hc] at hw hw2
    rw [if_pos rfl, List.append_nil]
    apply W_call Try.func89 rfl (Nat.le_of_ble_eq_true rfl) rfl rfl
    (repeat' (first | apply W_seq | refine W_true rfl rfl ?_ | refine W_false rfl rfl ?_ | (refine W_ops (id := 0) rfl ?_ <;> refine T_ch 2 rfl ?_ <;> (refine T_go rfl ?_; refine G_true (O_call rfl rfl rfl rfl (by assumption)) rfl ?_) <;> refine T_ch 1 rfl ?_ <;> apply T_nil) | apply W_skip | apply W_block | apply W_ret | apply W_exit | refine W_true rfl (by assumption) ?_ | refine W_false rfl (by assumption) ?_ | refine W_cond rfl (fun _ => ?_) (fun _ => ?_)))
    exact ⟨.inr rfl, rfl⟩
/-- The rows that are told: three numbers each. -/
def Row3 (rows : List (List AV)) : Prop := ∀ r, r ∈ rows → r.length = 3 ∧ ∀ x, x ∈ r → static x = true
mutual
theorem fixP1_row (lv : List Int) : ∀ (s : Sm') (ar : Int) (x : List (List AV)) (n : Int), Row3 x → Row3 (fixP1 tellL lv s ar x n).1 ∧ (fixP1 tellL lv s ar x n).1.length ≤ x.length + smN s
  | .mk op nn a t e, ar, x, n, hx => by
    have key : ∀ a f t : Int, Row3 (tellL x a f t) ∧ (tellL x a f t).length ≤ x.length + 1 := fun a f t => by
      refine ⟨fun r hr => ?_, ?_⟩
      · rcases List.mem_append.1 hr with hr | hr
        · exact hx r hr
        · exact flowL_row _ _ _ r hr
      · unfold tellL; have := flowL_len a f t; rw [List.length_append]; omega
    rw [fixP1, smN]
    split
    · exact ⟨(key _ _ _).1, by have := (key n (orI ar (ofEs lv 0 a)) (lv.getD nn.toNat 0)).2; dsimp only; omega⟩
    split
    · exact ⟨(key _ _ _).1, by have := (key n (orI (orI ar (ofEs lv 0 a)) 16) (lv.getD nn.toNat 0)).2; dsimp only; omega⟩
    split
    · exact ⟨(key _ _ _).1, by have := (key n (orI ar (ofEs lv 0 a)) nn).2; dsimp only; omega⟩
    split
    · obtain ⟨g1, g2⟩ := fixPL_row lv t (orI ar (ofEs lv 0 a)) x (IntKind.i64.wrap (n + 1)) hx
      obtain ⟨g3, g4⟩ := fixPL_row lv e (orI ar (ofEs lv 0 a)) _ (fixPL tellL lv t (orI ar (ofEs lv 0 a)) x (IntKind.i64.wrap (n + 1))).2 g1
      exact ⟨g3, by omega⟩
    · exact ⟨hx, by dsimp only; omega⟩
theorem fixPL_row (lv : List Int) : ∀ (l : List Sm') (ar : Int) (x : List (List AV)) (n : Int), Row3 x → Row3 (fixPL tellL lv l ar x n).1 ∧ (fixPL tellL lv l ar x n).1.length ≤ x.length + smsN l
  | [], ar, x, n, hx => by rw [fixPL, smsN]; exact ⟨hx, by dsimp only; omega⟩
  | s :: l, ar, x, n, hx => by
    rw [fixPL, smsN]
    obtain ⟨g1, g2⟩ := fixP1_row lv s ar x n hx
    obtain ⟨g3, g4⟩ := fixPL_row lv l ar _ (fixP1 tellL lv s ar x n).2 g1
    exact ⟨g3, by omega⟩
end
def fpS (lv : List Int) (h : Heap) (lo : Nat) (ar : Int) (l : List Sm') (i : Int) (a : List (List AV) × Int) : St :=
  { env := [(1, .v (.vs 1 (intsC lv))), (2, .v (.int .i64 ar)), (3, .v (.hp (h.length + 1) 1 0)), (4, .v (.fn (.func 89) [.hp h.length 1 0])), (14, .v (.vs 5 (smsC l))), (15, .v (.int .i64 (smsC l).length)), (16, .v (.int .i64 i))], loc := [], heap := (flB h a.1).set (h.length + 1) (.cells 3 [.int .i64 a.2]), inRound := false, lo := lo }
set_option maxHeartbeats 2000000 in
theorem fixedP_run (lv : List Int) (h : Heap) (lo : Nat) (hlo' : lo ≤ h.length) : ∀ (k : Nat) (l : List Sm'), smsK l + 20 ≤ k → l.length < 9223372036854775808 → smsB l → rdSs lv.length l → ∀ (ar : Int) (x : List (List AV)) (n : Int), Row3 x → x.length + smsN l ≤ 90000 →
    call Try.prog cfg k lo (.func 88) [.vs 5 (smsC l), .vs 1 (intsC lv), .int .i64 ar, .hp (h.length + 1) 1 0, .fn (.func 89) [.hp h.length 1 0]] ((flB h x).set (h.length + 1) (.cells 3 [.int .i64 n])) =
      some (.tup [], (flB h (fixPL tellL lv l ar x n).1).set (h.length + 1) (.cells 3 [.int .i64 (fixPL tellL lv l ar x n).2]))
  | 0, l, hk, _, _, _, _, _, _, _, _ => by have := smsK_len l; omega
  | k + 1, l, hk, hlen, hb, hr, ar, x, n, hx3, hxn => by
    have hll := smsK_len l
    have hlo : lo ≤ h.length + 1 := by omega
    generalize hR : fixPL tellL lv l ar x n = R
    apply W_call Try.func88 rfl (Nat.le_of_ble_eq_true rfl) rfl rfl
    (repeat' (first | apply W_seq | refine W_true rfl rfl ?_ | refine W_false rfl rfl ?_ | refine W_region (id := 0) rfl rfl ?_ | apply W_skip | apply W_block | apply W_ret | apply W_exit | refine W_true rfl (by assumption) ?_ | refine W_false rfl (by assumption) ?_ | refine W_cond rfl (fun _ => ?_) (fun _ => ?_)))
    apply W_iter (S := fpS lv h lo ar l) (l := l) (a0 := (x, n)) (fun rest a => fixPL tellL lv rest ar a.1 a.2 = R ∧ Row3 a.1 ∧ a.1.length + smsN rest ≤ 90000) hlen (by omega) rfl ⟨hR, hx3, hxn⟩
    · intro i s rest a hi hd hil hJ
      obtain ⟨x1, n1⟩ := a
      obtain ⟨hJ, hx1, hxl⟩ := hJ
      dsimp only at hJ hx1 hxl
      rw [smsN] at hxl
      have hid1 := flB_len h x1
      obtain ⟨rw1, rw2⟩ := fixP1_row lv s ar x1 n1 hx1
      have hlt := lt_sms hil
      have hrow := smsC_get _ _ _ hi
      have hmem := smsK_mem l i _ hi
      have hbm := smsB_mem l i _ hb hi
      have hrm := rdSs_mem hr hi
      obtain ⟨op, nn, a, t, e⟩ := s
      rw [smK] at hmem
      rw [smB] at hbm
      rw [rdS1] at hrm
      obtain ⟨⟨ha1, ha2⟩, ⟨ht1, ht2⟩, he1, he2⟩ := hbm
      obtain ⟨r1, r2, r3, r4⟩ := hrm
      have hla := exsK_len a
      rw [fixPL] at hJ
      rw [smN] at hxl rw2
      generalize hP : fixP1 tellL lv (.mk op nn a t e) ar x1 n1 = P at hJ rw1 rw2
      have hJn : fixPL tellL lv rest ar P.1 P.2 = R ∧ Row3 P.1 ∧ P.1.length + smsN rest ≤ 90000 := ⟨hJ, rw1, by omega⟩
      clear hJ rw1 rw2
      rw [fixP1] at hP
      have hA := ofAll_run a lv (k - 1) (by omega) ha1 ha2 r1 ((flB h x1).set (h.length + 1) (.cells 3 [.int .i64 (IntKind.i64.wrap (n1 + 1))])) lo
      rw [show k - 1 + 1 = k by omega] at hA
      have yT : ∀ f t : Int, call Try.prog cfg k lo (.func 89) [.int .i64 n1, .int .i64 f, .int .i64 t, .hp h.length 1 0] ((flB h x1).set (h.length + 1) (.cells 3 [.int .i64 (IntKind.i64.wrap (n1 + 1))])) = some (.tup [], (flB h (tellL x1 n1 f t)).set (h.length + 1) (.cells 3 [.int .i64 (IntKind.i64.wrap (n1 + 1))])) := fun f t => by
        have := tell_run h x1 (fun r hr => (hx1 r hr).1) (by omega) n1 f t (IntKind.i64.wrap (n1 + 1)) (k - 2) lo hlo'
        rw [show k - 2 + 2 = k by omega] at this
        rw [flB_set, flB_set]
        exact this
      have y0 := yT (orI ar (ofEs lv 0 a)) (lv.getD nn.toNat 0)
      have y4 := yT (orI (orI ar (ofEs lv 0 a)) 16) (lv.getD nn.toNat 0)
      have y3 := yT (orI ar (ofEs lv 0 a)) nn
      by_cases o0 : op = 0
      · have hx := intsC_at (r2 (.inl o0))
        simp only [if_pos o0] at hP
        have c0 : (op == 0) = true := by simp [o0]
        (repeat' (first | apply W_seq | refine W_true rfl rfl ?_ | refine W_false rfl rfl ?_ | (refine W_ops (id := 1) rfl ?_ <;> (refine T_go rfl ?_; refine G_true rfl (by with_reducible assumption) ?_) <;> apply T_nil) | (refine W_ops (id := 2) rfl ?_ <;> (refine T_go rfl ?_; refine G_op (O_index rfl rfl rfl rfl rfl (by assumption)) ?_) <;> (refine T_go rfl ?_; refine G_op rfl ?_) <;> refine T_ch 2 rfl ?_ <;> apply T_nil) | (refine W_ops (id := 3) rfl ?_ <;> refine T_ch 2 rfl ?_ <;> (refine T_go rfl ?_; refine G_op (O_loadS rfl rfl rfl rfl (by assumption) rfl rfl) ?_) <;> refine T_ch 1 rfl ?_ <;> apply T_nil) | (refine W_ops (id := 4) rfl ?_ <;> refine T_ch 2 rfl ?_ <;> (refine T_go rfl ?_; refine G_op (O_loadS rfl rfl rfl rfl (by assumption) rfl rfl) ?_) <;> refine T_ch 2 rfl ?_ <;> (refine T_go rfl ?_; refine G_op (O_storeS rfl rfl rfl rfl rfl (by assumption) (by assumption) ⟨rfl, rfl, Nat.le_of_ble_eq_true rfl⟩ rfl) ?_) <;> apply T_nil) | (refine W_ops (id := 5) rfl ?_ <;> refine T_ch 4 rfl ?_ <;> (refine T_go rfl ?_; refine G_op (O_call rfl rfl rfl rfl (by assumption)) ?_) <;> refine T_ch 2 rfl ?_ <;> apply T_nil) | refine W_region (id := 6) rfl rfl ?_ | (refine W_ops (id := 7) rfl ?_ <;> (refine T_go rfl ?_; refine G_true rfl (by with_reducible assumption) ?_) <;> refine T_ch 1 rfl ?_ <;> apply T_nil) | (refine W_ops (id := 8) rfl ?_ <;> refine T_ch 6 rfl ?_ <;> (refine T_go rfl ?_; refine G_op (O_indexI rfl rfl rfl rfl rfl (by assumption)) ?_) <;> (refine T_go rfl ?_; refine G_op rfl ?_) <;> (refine T_go rfl ?_; refine G_op (O_call rfl rfl rfl rfl (by assumption)) ?_) <;> apply T_nil) | refine W_region (id := 17) rfl rfl ?_ | apply W_skip | apply W_block | apply W_ret | apply W_exit | refine W_true rfl (by assumption) ?_ | refine W_false rfl (by assumption) ?_ | refine W_cond rfl (fun _ => ?_) (fun _ => ?_)))
        subst hP; exact ⟨(_, _), rfl, hJn⟩
      by_cases o4 : op = 4
      · have hx := intsC_at (r2 (.inr o4))
        simp only [if_neg o0, if_pos o4] at hP
        have c0 : (op == 0) = false := by simp [o0]
        have c4 : (op == 4) = true := by simp [o4]
        (repeat' (first | apply W_seq | refine W_true rfl rfl ?_ | refine W_false rfl rfl ?_ | (refine W_ops (id := 1) rfl ?_ <;> (refine T_go rfl ?_; refine G_true rfl (by with_reducible assumption) ?_) <;> apply T_nil) | (refine W_ops (id := 2) rfl ?_ <;> (refine T_go rfl ?_; refine G_op (O_index rfl rfl rfl rfl rfl (by assumption)) ?_) <;> (refine T_go rfl ?_; refine G_op rfl ?_) <;> refine T_ch 2 rfl ?_ <;> apply T_nil) | (refine W_ops (id := 3) rfl ?_ <;> refine T_ch 2 rfl ?_ <;> (refine T_go rfl ?_; refine G_op (O_loadS rfl rfl rfl rfl (by assumption) rfl rfl) ?_) <;> refine T_ch 1 rfl ?_ <;> apply T_nil) | (refine W_ops (id := 4) rfl ?_ <;> refine T_ch 2 rfl ?_ <;> (refine T_go rfl ?_; refine G_op (O_loadS rfl rfl rfl rfl (by assumption) rfl rfl) ?_) <;> refine T_ch 2 rfl ?_ <;> (refine T_go rfl ?_; refine G_op (O_storeS rfl rfl rfl rfl rfl (by assumption) (by assumption) ⟨rfl, rfl, Nat.le_of_ble_eq_true rfl⟩ rfl) ?_) <;> apply T_nil) | (refine W_ops (id := 5) rfl ?_ <;> refine T_ch 4 rfl ?_ <;> (refine T_go rfl ?_; refine G_op (O_call rfl rfl rfl rfl (by assumption)) ?_) <;> refine T_ch 2 rfl ?_ <;> apply T_nil) | refine W_region (id := 6) rfl rfl ?_ | (refine W_ops (id := 7) rfl ?_ <;> (refine T_go rfl ?_; refine G_false rfl (by with_reducible assumption) ?_) <;> refine T_ch 1 rfl ?_ <;> apply T_nil) | (refine W_ops (id := 9) rfl ?_ <;> (refine T_go rfl ?_; refine G_true rfl (by with_reducible assumption) ?_) <;> refine T_ch 1 rfl ?_ <;> apply T_nil) | (refine W_ops (id := 10) rfl ?_ <;> refine T_ch 7 rfl ?_ <;> (refine T_go rfl ?_; refine G_op (O_indexI rfl rfl rfl rfl rfl (by assumption)) ?_) <;> (refine T_go rfl ?_; refine G_op rfl ?_) <;> (refine T_go rfl ?_; refine G_op (O_call rfl rfl rfl rfl (by assumption)) ?_) <;> apply T_nil) | refine W_region (id := 17) rfl rfl ?_ | apply W_skip | apply W_block | apply W_ret | apply W_exit | refine W_true rfl (by assumption) ?_ | refine W_false rfl (by assumption) ?_ | refine W_cond rfl (fun _ => ?_) (fun _ => ?_)))
        subst hP; exact ⟨(_, _), rfl, hJn⟩
      by_cases o3 : op = 3
      · simp only [if_neg o0, if_neg o4, if_pos o3] at hP
        have c0 : (op == 0) = false := by simp [o0]
        have c4 : (op == 4) = false := by simp [o4]
        have c3 : (op == 3) = true := by simp [o3]
        (repeat' (first | apply W_seq | refine W_true rfl rfl ?_ | refine W_false rfl rfl ?_ | (refine W_ops (id := 1) rfl ?_ <;> (refine T_go rfl ?_; refine G_true rfl (by with_reducible assumption) ?_) <;> apply T_nil) | (refine W_ops (id := 2) rfl ?_ <;> (refine T_go rfl ?_; refine G_op (O_index rfl rfl rfl rfl rfl (by assumption)) ?_) <;> (refine T_go rfl ?_; refine G_op rfl ?_) <;> refine T_ch 2 rfl ?_ <;> apply T_nil) | (refine W_ops (id := 3) rfl ?_ <;> refine T_ch 2 rfl ?_ <;> (refine T_go rfl ?_; refine G_op (O_loadS rfl rfl rfl rfl (by assumption) rfl rfl) ?_) <;> refine T_ch 1 rfl ?_ <;> apply T_nil) | (refine W_ops (id := 4) rfl ?_ <;> refine T_ch 2 rfl ?_ <;> (refine T_go rfl ?_; refine G_op (O_loadS rfl rfl rfl rfl (by assumption) rfl rfl) ?_) <;> refine T_ch 2 rfl ?_ <;> (refine T_go rfl ?_; refine G_op (O_storeS rfl rfl rfl rfl rfl (by assumption) (by assumption) ⟨rfl, rfl, Nat.le_of_ble_eq_true rfl⟩ rfl) ?_) <;> apply T_nil) | (refine W_ops (id := 5) rfl ?_ <;> refine T_ch 4 rfl ?_ <;> (refine T_go rfl ?_; refine G_op (O_call rfl rfl rfl rfl (by assumption)) ?_) <;> refine T_ch 2 rfl ?_ <;> apply T_nil) | refine W_region (id := 6) rfl rfl ?_ | (refine W_ops (id := 7) rfl ?_ <;> (refine T_go rfl ?_; refine G_false rfl (by with_reducible assumption) ?_) <;> refine T_ch 1 rfl ?_ <;> apply T_nil) | (refine W_ops (id := 9) rfl ?_ <;> (refine T_go rfl ?_; refine G_false rfl (by with_reducible assumption) ?_) <;> refine T_ch 1 rfl ?_ <;> apply T_nil) | (refine W_ops (id := 11) rfl ?_ <;> (refine T_go rfl ?_; refine G_true rfl (by with_reducible assumption) ?_) <;> refine T_ch 1 rfl ?_ <;> apply T_nil) | (refine W_ops (id := 12) rfl ?_ <;> refine T_ch 5 rfl ?_ <;> (refine T_go rfl ?_; refine G_op (O_call rfl rfl rfl rfl (by assumption)) ?_) <;> apply T_nil) | refine W_region (id := 17) rfl rfl ?_ | apply W_skip | apply W_block | apply W_ret | apply W_exit | refine W_true rfl (by assumption) ?_ | refine W_false rfl (by assumption) ?_ | refine W_cond rfl (fun _ => ?_) (fun _ => ?_)))
        subst hP; exact ⟨(_, _), rfl, hJn⟩
      have c0 : (op == 0) = false := by simp [o0]
      have c4 : (op == 4) = false := by simp [o4]
      have c3 : (op == 3) = false := by simp [o3]
      by_cases o1 : op = 1 ∨ op = 2
      · simp only [if_neg o0, if_neg o4, if_neg o3, if_pos o1] at hP
        have iht := fixedP_run lv h lo hlo' k t (by omega) ht1 ht2 r3 (orI ar (ofEs lv 0 a)) x1 (IntKind.i64.wrap (n1 + 1)) hx1 (by omega)
        obtain ⟨tr1, tr2⟩ := fixPL_row lv t (orI ar (ofEs lv 0 a)) x1 (IntKind.i64.wrap (n1 + 1)) hx1
        generalize fixPL tellL lv t (orI ar (ofEs lv 0 a)) x1 (IntKind.i64.wrap (n1 + 1)) = T at iht hP tr1 tr2
        have ihe := fixedP_run lv h lo hlo' k e (by omega) he1 he2 r4 (orI ar (ofEs lv 0 a)) T.1 T.2 tr1 (by omega)
        generalize fixPL tellL lv e (orI ar (ofEs lv 0 a)) T.1 T.2 = E at ihe hP
        rcases o1 with o1 | o1
        · have c1 : (op == 1) = true := by simp [o1]
          (repeat' (first | apply W_seq | refine W_true rfl rfl ?_ | refine W_false rfl rfl ?_ | (refine W_ops (id := 1) rfl ?_ <;> (refine T_go rfl ?_; refine G_true rfl (by with_reducible assumption) ?_) <;> apply T_nil) | (refine W_ops (id := 2) rfl ?_ <;> (refine T_go rfl ?_; refine G_op (O_index rfl rfl rfl rfl rfl (by assumption)) ?_) <;> (refine T_go rfl ?_; refine G_op rfl ?_) <;> refine T_ch 2 rfl ?_ <;> apply T_nil) | (refine W_ops (id := 3) rfl ?_ <;> refine T_ch 2 rfl ?_ <;> (refine T_go rfl ?_; refine G_op (O_loadS rfl rfl rfl rfl (by assumption) rfl rfl) ?_) <;> refine T_ch 1 rfl ?_ <;> apply T_nil) | (refine W_ops (id := 4) rfl ?_ <;> refine T_ch 2 rfl ?_ <;> (refine T_go rfl ?_; refine G_op (O_loadS rfl rfl rfl rfl (by assumption) rfl rfl) ?_) <;> refine T_ch 2 rfl ?_ <;> (refine T_go rfl ?_; refine G_op (O_storeS rfl rfl rfl rfl rfl (by assumption) (by assumption) ⟨rfl, rfl, Nat.le_of_ble_eq_true rfl⟩ rfl) ?_) <;> apply T_nil) | (refine W_ops (id := 5) rfl ?_ <;> refine T_ch 4 rfl ?_ <;> (refine T_go rfl ?_; refine G_op (O_call rfl rfl rfl rfl (by assumption)) ?_) <;> refine T_ch 2 rfl ?_ <;> apply T_nil) | refine W_region (id := 6) rfl rfl ?_ | (refine W_ops (id := 7) rfl ?_ <;> (refine T_go rfl ?_; refine G_false rfl (by with_reducible assumption) ?_) <;> refine T_ch 1 rfl ?_ <;> apply T_nil) | (refine W_ops (id := 9) rfl ?_ <;> (refine T_go rfl ?_; refine G_false rfl (by with_reducible assumption) ?_) <;> refine T_ch 1 rfl ?_ <;> apply T_nil) | (refine W_ops (id := 11) rfl ?_ <;> (refine T_go rfl ?_; refine G_false rfl (by with_reducible assumption) ?_) <;> refine T_ch 1 rfl ?_ <;> apply T_nil) | (refine W_ops (id := 13) rfl ?_ <;> (refine T_go rfl ?_; refine G_true rfl (by with_reducible assumption) ?_) <;> refine T_ch 1 rfl ?_ <;> apply T_nil) | (refine W_ops (id := 15) rfl ?_ <;> refine T_ch 6 rfl ?_ <;> (refine T_go rfl ?_; refine G_op (O_call rfl rfl rfl rfl (by assumption)) ?_) <;> apply T_nil) | (refine W_ops (id := 16) rfl ?_ <;> refine T_ch 6 rfl ?_ <;> (refine T_go rfl ?_; refine G_op (O_call rfl rfl rfl rfl (by assumption)) ?_) <;> apply T_nil) | refine W_region (id := 17) rfl rfl ?_ | apply W_skip | apply W_block | apply W_ret | apply W_exit | refine W_true rfl (by assumption) ?_ | refine W_false rfl (by assumption) ?_ | refine W_cond rfl (fun _ => ?_) (fun _ => ?_)))
          subst hP; exact ⟨(E.1, E.2), rfl, hJn⟩
        · have c1 : (op == 1) = false := by simp [o1]
          have c2 : (op == 2) = true := by simp [o1]
          (repeat' (first | apply W_seq | refine W_true rfl rfl ?_ | refine W_false rfl rfl ?_ | (refine W_ops (id := 1) rfl ?_ <;> (refine T_go rfl ?_; refine G_true rfl (by with_reducible assumption) ?_) <;> apply T_nil) | (refine W_ops (id := 2) rfl ?_ <;> (refine T_go rfl ?_; refine G_op (O_index rfl rfl rfl rfl rfl (by assumption)) ?_) <;> (refine T_go rfl ?_; refine G_op rfl ?_) <;> refine T_ch 2 rfl ?_ <;> apply T_nil) | (refine W_ops (id := 3) rfl ?_ <;> refine T_ch 2 rfl ?_ <;> (refine T_go rfl ?_; refine G_op (O_loadS rfl rfl rfl rfl (by assumption) rfl rfl) ?_) <;> refine T_ch 1 rfl ?_ <;> apply T_nil) | (refine W_ops (id := 4) rfl ?_ <;> refine T_ch 2 rfl ?_ <;> (refine T_go rfl ?_; refine G_op (O_loadS rfl rfl rfl rfl (by assumption) rfl rfl) ?_) <;> refine T_ch 2 rfl ?_ <;> (refine T_go rfl ?_; refine G_op (O_storeS rfl rfl rfl rfl rfl (by assumption) (by assumption) ⟨rfl, rfl, Nat.le_of_ble_eq_true rfl⟩ rfl) ?_) <;> apply T_nil) | (refine W_ops (id := 5) rfl ?_ <;> refine T_ch 4 rfl ?_ <;> (refine T_go rfl ?_; refine G_op (O_call rfl rfl rfl rfl (by assumption)) ?_) <;> refine T_ch 2 rfl ?_ <;> apply T_nil) | refine W_region (id := 6) rfl rfl ?_ | (refine W_ops (id := 7) rfl ?_ <;> (refine T_go rfl ?_; refine G_false rfl (by with_reducible assumption) ?_) <;> refine T_ch 1 rfl ?_ <;> apply T_nil) | (refine W_ops (id := 9) rfl ?_ <;> (refine T_go rfl ?_; refine G_false rfl (by with_reducible assumption) ?_) <;> refine T_ch 1 rfl ?_ <;> apply T_nil) | (refine W_ops (id := 11) rfl ?_ <;> (refine T_go rfl ?_; refine G_false rfl (by with_reducible assumption) ?_) <;> refine T_ch 1 rfl ?_ <;> apply T_nil) | (refine W_ops (id := 13) rfl ?_ <;> (refine T_go rfl ?_; refine G_false rfl (by with_reducible assumption) ?_) <;> refine T_ch 1 rfl ?_ <;> apply T_nil) | (refine W_ops (id := 14) rfl ?_ <;> (refine T_go rfl ?_; refine G_true rfl (by with_reducible assumption) ?_) <;> refine T_ch 1 rfl ?_ <;> apply T_nil) | (refine W_ops (id := 15) rfl ?_ <;> refine T_ch 6 rfl ?_ <;> (refine T_go rfl ?_; refine G_op (O_call rfl rfl rfl rfl (by assumption)) ?_) <;> apply T_nil) | (refine W_ops (id := 16) rfl ?_ <;> refine T_ch 6 rfl ?_ <;> (refine T_go rfl ?_; refine G_op (O_call rfl rfl rfl rfl (by assumption)) ?_) <;> apply T_nil) | refine W_region (id := 17) rfl rfl ?_ | apply W_skip | apply W_block | apply W_ret | apply W_exit | refine W_true rfl (by assumption) ?_ | refine W_false rfl (by assumption) ?_ | refine W_cond rfl (fun _ => ?_) (fun _ => ?_)))
          subst hP; exact ⟨(E.1, E.2), rfl, hJn⟩
      · simp only [if_neg o0, if_neg o4, if_neg o3, if_neg o1] at hP
        have c1 : (op == 1) = false := by simp; exact fun h => o1 (.inl h)
        have c2 : (op == 2) = false := by simp; exact fun h => o1 (.inr h)
        (repeat' (first | apply W_seq | refine W_true rfl rfl ?_ | refine W_false rfl rfl ?_ | (refine W_ops (id := 1) rfl ?_ <;> (refine T_go rfl ?_; refine G_true rfl (by with_reducible assumption) ?_) <;> apply T_nil) | (refine W_ops (id := 2) rfl ?_ <;> (refine T_go rfl ?_; refine G_op (O_index rfl rfl rfl rfl rfl (by assumption)) ?_) <;> (refine T_go rfl ?_; refine G_op rfl ?_) <;> refine T_ch 2 rfl ?_ <;> apply T_nil) | (refine W_ops (id := 3) rfl ?_ <;> refine T_ch 2 rfl ?_ <;> (refine T_go rfl ?_; refine G_op (O_loadS rfl rfl rfl rfl (by assumption) rfl rfl) ?_) <;> refine T_ch 1 rfl ?_ <;> apply T_nil) | (refine W_ops (id := 4) rfl ?_ <;> refine T_ch 2 rfl ?_ <;> (refine T_go rfl ?_; refine G_op (O_loadS rfl rfl rfl rfl (by assumption) rfl rfl) ?_) <;> refine T_ch 2 rfl ?_ <;> (refine T_go rfl ?_; refine G_op (O_storeS rfl rfl rfl rfl rfl (by assumption) (by assumption) ⟨rfl, rfl, Nat.le_of_ble_eq_true rfl⟩ rfl) ?_) <;> apply T_nil) | (refine W_ops (id := 5) rfl ?_ <;> refine T_ch 4 rfl ?_ <;> (refine T_go rfl ?_; refine G_op (O_call rfl rfl rfl rfl (by assumption)) ?_) <;> refine T_ch 2 rfl ?_ <;> apply T_nil) | refine W_region (id := 6) rfl rfl ?_ | (refine W_ops (id := 7) rfl ?_ <;> (refine T_go rfl ?_; refine G_false rfl (by with_reducible assumption) ?_) <;> refine T_ch 1 rfl ?_ <;> apply T_nil) | (refine W_ops (id := 9) rfl ?_ <;> (refine T_go rfl ?_; refine G_false rfl (by with_reducible assumption) ?_) <;> refine T_ch 1 rfl ?_ <;> apply T_nil) | (refine W_ops (id := 11) rfl ?_ <;> (refine T_go rfl ?_; refine G_false rfl (by with_reducible assumption) ?_) <;> refine T_ch 1 rfl ?_ <;> apply T_nil) | (refine W_ops (id := 13) rfl ?_ <;> (refine T_go rfl ?_; refine G_false rfl (by with_reducible assumption) ?_) <;> refine T_ch 1 rfl ?_ <;> apply T_nil) | (refine W_ops (id := 14) rfl ?_ <;> (refine T_go rfl ?_; refine G_false rfl (by with_reducible assumption) ?_) <;> refine T_ch 1 rfl ?_ <;> apply T_nil) | refine W_region (id := 17) rfl rfl ?_ | apply W_skip | apply W_block | apply W_ret | apply W_exit | refine W_true rfl (by assumption) ?_ | refine W_false rfl (by assumption) ?_ | refine W_cond rfl (fun _ => ?_) (fun _ => ?_)))
        subst hP; exact ⟨(x1, IntKind.i64.wrap (n1 + 1)), rfl, hJn⟩
    · intro a hJ
      have hlt := ge_sms (l := l)
      have hJ := hJ.1
      rw [fixPL] at hJ
      (repeat' (first | apply W_seq | refine W_true rfl rfl ?_ | refine W_false rfl rfl ?_ | (refine W_ops (id := 1) rfl ?_ <;> (refine T_go rfl ?_; refine G_false rfl (by with_reducible assumption) ?_) <;> apply T_nil) | apply W_skip | apply W_block | apply W_ret | apply W_exit | refine W_true rfl (by assumption) ?_ | refine W_false rfl (by assumption) ?_ | refine W_cond rfl (fun _ => ?_) (fun _ => ?_)))
      exact ⟨.inr rfl, Eq.trans (b := some (AV.tup [], (flB h a.1).set (h.length + 1) (.cells 3 [.int .i64 a.2]))) rfl (by rw [← hJ])⟩
end Go.Proofs.Ytelobnllkhnpaaa.L
/- level.flows, level.Check; the flows of the law; Same. -/
open Go Go.Proofs Go.Ev Go.Proofs.Ytelobnllkhnpaaa.E
namespace Go.Proofs.Ytelobnllkhnpaaa.L
set_option linter.unusedVariables false
set_option linter.unusedSimpArgs false
set_option maxHeartbeats 2000000
set_option maxRecDepth 100000

theorem flX_frz (h : Heap) (rows : List (List AV)) (m : Int) (hr : ∀ r, r ∈ rows → r.length = 3 ∧ ∀ x, x ∈ r → static x = true) : hand true h (outA h rows) (flX h rows m) = some (accV 3 rows, h) := by
  cases rows with
  | nil => rfl
  | cons r l =>
    have hlen : ∀ q, q ∈ r :: l → q.length = 3 := fun q hq => (hr q hq).1
    have hst : (r :: l).flatten.all static = true := by
      rw [List.all_eq_true]
      intro x hx
      obtain ⟨q, h1, h2⟩ := List.mem_flatten.1 hx
      exact (hr q h1).2 x h2
    have hg : (flX h (r :: l) m)[h.length + 2]? = some (.cells 94 (r :: l).flatten) := by simp [flX]
    have h1 : frz1 (flX h (r :: l) m) h.length (.sl (h.length + 2) 3 0 (l.length + 1)) = some (.vs 3 (r :: l)) := by
      unfold frz1
      dsimp only
      rw [hg]
      dsimp only
      rw [if_pos ⟨by omega, by rw [flat_len _ hlen]; simp, hst⟩, List.drop_zero]
      rw [show l.length + 1 = (r :: l).length from rfl, chunks_flat _ hlen]
    show (if true then match frz (flX h (r :: l) m) h.length (outA h (r :: l)) with | some b => some (b, h) | none => none else _) = _
    have h2 : frz (flX h (r :: l) m) h.length (outA h (r :: l)) = some (.vs 3 (r :: l)) := h1
    rw [h2]
    rfl

def flP (lv : List Int) (p : Pr') : List (List AV) := (fixPL tellL lv p.body 0 [] 0).1
theorem flows_run (lv : List Int) (p : Pr') (k : Nat) (hk : smsK p.body + 30 ≤ k) (hN : smsN p.body ≤ 600) (hb : prB p) (hr : rdSs lv.length p.body) (h : Heap) (lo : Nat) :
    call Try.prog cfg (k + 1) lo (.func 54) [.agg (prC p), .vs 1 (intsC lv)] h = some (accV 3 (flP lv p), h) := by
  have hF := fixedP_run lv h h.length (Nat.le_refl _) k p.body (by omega) hb.2.1 hb.2.2 hr 0 [] 0 (fun r hr => by cases hr) (by simp; omega)
  obtain ⟨g1, _⟩ := fixPL_row lv p.body 0 [] 0 (fun r hr => by cases hr)
  have hP : flP lv p = (fixPL tellL lv p.body 0 [] 0).1 := rfl
  generalize fixPL tellL lv p.body 0 [] 0 = R at hF g1 hP
  rw [hP]
  have hfin := flX_frz h R.1 R.2 g1
  have hlo : h.length ≤ (h ++ [HObj.cells 41 [.nils]]).length := by simp
  have hg : (h ++ [HObj.cells 41 [.nils]] ++ [HObj.cells 3 [.int .i64 0]])[(h ++ [HObj.cells 41 [.nils]]).length]? = some (.cells 3 [.int .i64 0]) := by simp
  have e1 : (flB h []).set (h.length + 1) (.cells 3 [.int .i64 0]) = (h ++ [HObj.cells 41 [.nils]] ++ [HObj.cells 3 [.int .i64 0]]).set (h ++ [HObj.cells 41 [.nils]]).length (.cells 3 [.int .i64 0]) := by simp [flB, List.set_append]
  have e2 : h.length + 1 = (h ++ [HObj.cells 41 [.nils]]).length := by simp
  rw [flB_set h R.1, e1, e2] at hF
  have hg2 : (flX h R.1 R.2)[h.length]? = some (.cells 41 [outA h R.1]) := by
    cases R.1 <;> simp [flX, outA]
  obtain ⟨w, vs, body⟩ := p
  dsimp only at hF
  apply W_call Try.func54 rfl (Nat.le_of_ble_eq_true rfl) rfl rfl
  (repeat' (first | apply W_seq | refine W_true rfl rfl ?_ | refine W_false rfl rfl ?_ | refine W_region (id := 0) rfl rfl ?_ | refine W_region (id := 1) rfl rfl ?_ | (refine W_ops (id := 2) rfl ?_ <;> refine T_ch 1 rfl ?_ <;> (refine T_go rfl ?_; refine G_op (O_storeH rfl rfl rfl rfl (by assumption) ⟨by assumption, rfl, rfl, Nat.le_of_ble_eq_true rfl⟩) ?_) <;> apply T_nil) | (refine W_ops (id := 3) rfl ?_ <;> refine T_ch 4 rfl ?_ <;> (refine T_go rfl ?_; refine G_op (O_call rfl rfl rfl rfl (by assumption)) ?_) <;> apply T_nil) | (refine W_ops (id := 4) rfl ?_ <;> (refine T_go rfl ?_; refine G_op (O_loadH rfl rfl rfl (by assumption) rfl rfl) ?_) <;> refine T_ch 1 rfl ?_ <;> apply T_nil) | apply W_skip | apply W_block | apply W_ret | apply W_exit | refine W_true rfl (by assumption) ?_ | refine W_false rfl (by assumption) ?_ | refine W_cond rfl (fun _ => ?_) (fun _ => ?_)))
  exact ⟨.inl rfl, hfin⟩
def chkFl (p : Pr') : AV := if faultI p = 0 then accV 3 (flP (levs p) p) else .nils
theorem Fcheck_run (p : Pr') (hN : smsN p.body ≤ 600) (k : Nat) (hk : smsK p.body + p.vars.length + 100 ≤ k) (hb : prB p) (hr : isP p = true → rdSs p.vars.length p.body) (h : Heap) (lo : Nat) :
    call Try.prog cfg (k + 1) lo (.func 19) [.agg (prC p)] h = some (.tup [chkFl p, .int .i64 (faultI p)], h) := by
  have hC := levcheck_run p (k - 1) (by omega) hb h h.length
  rw [show k - 1 + 1 = k by omega, chk_eq p hN] at hC
  unfold chkFl
  rcases faultI_cases p with ⟨hf, hP, hS⟩ | hf | hf
  · rw [hf] at hC ⊢
    rw [if_pos rfl]
    obtain ⟨hh, hl1, hl2⟩ := isP_head hP
    have hL := levels_run p (k - 1) (by omega) (by omega) h h.length
    have hF := flows_run (levs p) p (k - 1) (by omega) hN hb (by rw [levs_len]; exact hr hP) h h.length
    rw [show k - 1 + 1 = k by omega] at hL hF
    rw [accV_ne (levs_ne hl1)] at hL
    generalize flP (levs p) p = R at hF ⊢
    generalize levs p = lv at hL hF
    obtain ⟨w, vs, body⟩ := p
    cases R <;>
    · apply W_call Try.func19 rfl (Nat.le_of_ble_eq_true rfl) rfl rfl
      (repeat' (first | apply W_seq | refine W_true rfl rfl ?_ | refine W_false rfl rfl ?_ | refine W_region (id := 0) rfl rfl ?_ | (refine W_ops (id := 1) rfl ?_ <;> refine T_ch 1 rfl ?_ <;> (refine T_go rfl ?_; refine G_op (O_call rfl rfl rfl rfl (by assumption)) ?_) <;> refine T_ch 1 rfl ?_ <;> apply T_nil) | (refine W_ops (id := 2) rfl ?_ <;> refine T_ch 1 rfl ?_ <;> (refine T_go rfl ?_; refine G_false rfl rfl ?_) <;> apply T_nil) | (refine W_dops (id := 4) (bs := [0, 0, 2, 7, 15, 31]) rfl (by decide +kernel) ?_ <;> (refine U_go rfl ?_; refine H_free (by decide +kernel) rfl rfl rfl rfl rfl ?_) <;> (refine U_go rfl ?_; refine H_free (by decide +kernel) rfl rfl rfl rfl rfl ?_) <;> (refine U_go rfl ?_; refine H_free (by decide +kernel) rfl (O_call rfl rfl rfl rfl (by assumption)) rfl rfl rfl ?_) <;> (refine U_go rfl ?_; refine H_op (by decide +kernel) (O_call rfl rfl rfl rfl (by assumption)) ?_) <;> (refine U_go rfl ?_; refine H_op (by decide +kernel) rfl ?_) <;> (refine U_go rfl ?_; refine H_op (by decide +kernel) rfl ?_) <;> apply U_nil) | apply W_skip | apply W_block | apply W_ret | apply W_exit | refine W_true rfl (by assumption) ?_ | refine W_false rfl (by assumption) ?_ | refine W_cond rfl (fun _ => ?_) (fun _ => ?_)))
      exact ⟨.inl rfl, rfl⟩
  · rw [hf] at hC ⊢
    rw [if_neg (by simp)]
    obtain ⟨w, vs, body⟩ := p
    apply W_call Try.func19 rfl (Nat.le_of_ble_eq_true rfl) rfl rfl
    (repeat' (first | apply W_seq | refine W_true rfl rfl ?_ | refine W_false rfl rfl ?_ | refine W_region (id := 0) rfl rfl ?_ | (refine W_ops (id := 1) rfl ?_ <;> refine T_ch 1 rfl ?_ <;> (refine T_go rfl ?_; refine G_op (O_call rfl rfl rfl rfl (by assumption)) ?_) <;> refine T_ch 1 rfl ?_ <;> apply T_nil) | (refine W_ops (id := 2) rfl ?_ <;> refine T_ch 1 rfl ?_ <;> (refine T_go rfl ?_; refine G_true rfl rfl ?_) <;> apply T_nil) | refine W_region (id := 3) rfl rfl ?_ | apply W_skip | apply W_block | apply W_ret | apply W_exit | refine W_true rfl (by assumption) ?_ | refine W_false rfl (by assumption) ?_ | refine W_cond rfl (fun _ => ?_) (fun _ => ?_)))
    exact ⟨.inl rfl, rfl⟩
  · rw [hf] at hC ⊢
    rw [if_neg (by simp)]
    obtain ⟨w, vs, body⟩ := p
    apply W_call Try.func19 rfl (Nat.le_of_ble_eq_true rfl) rfl rfl
    (repeat' (first | apply W_seq | refine W_true rfl rfl ?_ | refine W_false rfl rfl ?_ | refine W_region (id := 0) rfl rfl ?_ | (refine W_ops (id := 1) rfl ?_ <;> refine T_ch 1 rfl ?_ <;> (refine T_go rfl ?_; refine G_op (O_call rfl rfl rfl rfl (by assumption)) ?_) <;> refine T_ch 1 rfl ?_ <;> apply T_nil) | (refine W_ops (id := 2) rfl ?_ <;> refine T_ch 1 rfl ?_ <;> (refine T_go rfl ?_; refine G_true rfl rfl ?_) <;> apply T_nil) | refine W_region (id := 3) rfl rfl ?_ | apply W_skip | apply W_block | apply W_ret | apply W_exit | refine W_true rfl (by assumption) ?_ | refine W_false rfl (by assumption) ?_ | refine W_cond rfl (fun _ => ?_) (fun _ => ?_)))
    exact ⟨.inl rfl, rfl⟩

/-- Flows as numbers. -/
def flC (x : Int × Int × Int) : List AV := [.int .i64 x.1, .int .i64 x.2.1, .int .i64 x.2.2]
def lfS (h : Heap) (v : AV) (i : Int) (rows : List (List AV)) : St :=
  { env := [(0, .v v), (3, .v (accA h 3 rows)), (4, .v (.int .i64 i))], loc := [], heap := accH h 89 rows, inRound := false, lo := h.length }
theorem lawflows_run (fl : List (Int × Int × Int)) (k : Nat) (hk : fl.length < k) (hl : fl.length < 1000) (h : Heap) (lo : Nat) : call Try.prog cfg (k + 1) lo (.func 21) [accV 3 (fl.map flC)] h = some (accV 3 (fl.map flC), h) := by
  have hrw : ∀ l : List (Int × Int × Int), Row3 (l.map flC) := fun l r hr => by
    obtain ⟨x, _, rfl⟩ := List.mem_map.1 hr
    refine ⟨rfl, fun y hy => ?_⟩
    simp only [flC, List.mem_cons, List.not_mem_nil, or_false] at hy
    rcases hy with rfl | rfl | rfl <;> rfl
  cases fl with
  | nil =>
    apply W_call Try.func21 rfl (Nat.le_of_ble_eq_true rfl) rfl rfl
    (repeat' (first | apply W_seq | refine W_true rfl rfl ?_ | refine W_false rfl rfl ?_ | refine W_region (id := 0) rfl rfl ?_ | refine W_region (id := 1) rfl rfl ?_ | refine W_region (id := 2) rfl rfl ?_ | apply W_skip | apply W_block | apply W_ret | apply W_exit | refine W_true rfl (by assumption) ?_ | refine W_false rfl (by assumption) ?_ | refine W_cond rfl (fun _ => ?_) (fun _ => ?_)))
    apply W_iter (S := lfS h .nils) (l := ([] : List Nat)) (a0 := []) (fun _ a => a = []) (by simp) (by simp; omega) rfl rfl
    · intro i st rest a hi; simp at hi
    · intro a hJ
      subst hJ
      (repeat' (first | apply W_seq | refine W_true rfl rfl ?_ | refine W_false rfl rfl ?_ | (refine W_ops (id := 3) rfl ?_ <;> refine T_ch 3 rfl ?_ <;> (refine T_go rfl ?_; refine G_false rfl rfl ?_) <;> apply T_nil) | refine W_region (id := 6) rfl rfl ?_ | apply W_skip | apply W_block | apply W_ret | apply W_exit | refine W_true rfl (by assumption) ?_ | refine W_false rfl (by assumption) ?_ | refine W_cond rfl (fun _ => ?_) (fun _ => ?_)))
      exact ⟨.inl rfl, rfl⟩
  | cons x0 l0 =>
    have hfin := acc_frz (h := h) (e := 89) (sz := 3) ((x0 :: l0).map flC) (hrw _)
    generalize hfl : x0 :: l0 = fl at *
    have hacc : accV 3 (fl.map flC) = .vs 3 (fl.map flC) := by subst hfl; rfl
    have hlen : ((fl.map flC).length : Int) = fl.length := by simp
    rw [hacc] at hfin ⊢
    apply W_call Try.func21 rfl (Nat.le_of_ble_eq_true rfl) rfl rfl
    (repeat' (first | apply W_seq | refine W_true rfl rfl ?_ | refine W_false rfl rfl ?_ | refine W_region (id := 0) rfl rfl ?_ | refine W_region (id := 1) rfl rfl ?_ | refine W_region (id := 2) rfl rfl ?_ | apply W_skip | apply W_block | apply W_ret | apply W_exit | refine W_true rfl (by assumption) ?_ | refine W_false rfl (by assumption) ?_ | refine W_cond rfl (fun _ => ?_) (fun _ => ?_)))
    apply W_iterI (S := lfS h (.vs 3 (fl.map flC))) (l := fl) (a0 := []) (fun i rest a => a ++ rest.map flC = fl.map flC ∧ a.length = i ∧ Row3 a) (by omega) (by omega) rfl ⟨rfl, rfl, fun r hr => by cases hr⟩
    · intro i x rest a hi hd hil hJ
      obtain ⟨j1, j2, j3⟩ := hJ
      have hlt : decide ((i : Int) < ((fl.map flC).length : Int)) = true := decide_eq_true (by rw [hlen]; omega)
      have hrow : (fl.map flC)[i]? = some (flC x) := by rw [List.getElem?_map, hi]; rfl
      have hap := fl_append h a [flC x] (fun r hr => (j3 r hr).1) (by simp; omega)
      obtain ⟨x1, x2, x3⟩ := x
      (repeat' (first | apply W_seq | refine W_true rfl rfl ?_ | refine W_false rfl rfl ?_ | (refine W_ops (id := 3) rfl ?_ <;> refine T_ch 3 rfl ?_ <;> (refine T_go rfl ?_; refine G_true rfl (by with_reducible assumption) ?_) <;> apply T_nil) | refine W_region (id := 4) rfl rfl ?_ | (refine W_dops (id := 5) (bs := [0, 0, 0, 6, 14, 30, 0, 0, 192, 448, 960, 0, 0, 6144, 14336, 30720, 65534, 131070, 262143, 524287]) rfl (by decide +kernel) ?_ <;> (refine U_go rfl ?_; refine H_free (by decide +kernel) rfl rfl rfl rfl rfl ?_) <;> (refine U_go rfl ?_; refine H_free (by decide +kernel) rfl rfl rfl rfl rfl ?_) <;> (refine U_go rfl ?_; refine H_free (by decide +kernel) rfl rfl rfl rfl rfl ?_) <;> (refine U_go rfl ?_; refine H_free (by decide +kernel) rfl (O_index rfl rfl rfl rfl rfl (by assumption)) rfl rfl rfl ?_) <;> (refine U_go rfl ?_; refine H_free (by decide +kernel) rfl rfl rfl rfl rfl ?_) <;> (refine U_go rfl ?_; refine H_free (by decide +kernel) rfl rfl rfl rfl rfl ?_) <;> (refine U_go rfl ?_; refine H_free (by decide +kernel) rfl rfl rfl rfl rfl ?_) <;> (refine U_go rfl ?_; refine H_free (by decide +kernel) rfl rfl rfl rfl rfl ?_) <;> (refine U_go rfl ?_; refine H_free (by decide +kernel) rfl (O_index rfl rfl rfl rfl rfl (by assumption)) rfl rfl rfl ?_) <;> (refine U_go rfl ?_; refine H_free (by decide +kernel) rfl rfl rfl rfl rfl ?_) <;> (refine U_go rfl ?_; refine H_free (by decide +kernel) rfl rfl rfl rfl rfl ?_) <;> (refine U_go rfl ?_; refine H_free (by decide +kernel) rfl rfl rfl rfl rfl ?_) <;> (refine U_go rfl ?_; refine H_free (by decide +kernel) rfl rfl rfl rfl rfl ?_) <;> (refine U_go rfl ?_; refine H_free (by decide +kernel) rfl (O_index rfl rfl rfl rfl rfl (by assumption)) rfl rfl rfl ?_) <;> (refine U_go rfl ?_; refine H_free (by decide +kernel) rfl rfl rfl rfl rfl ?_) <;> (refine U_go rfl ?_; refine H_free (by decide +kernel) rfl rfl rfl rfl rfl ?_) <;> (refine U_go rfl ?_; refine H_free (by decide +kernel) rfl rfl rfl rfl rfl ?_) <;> (refine U_go rfl ?_; refine H_free (by decide +kernel) rfl rfl rfl rfl rfl ?_) <;> (refine U_go rfl ?_; refine H_op (by decide +kernel) (O_append rfl rfl rfl rfl rfl (by assumption)) ?_) <;> (refine U_go rfl ?_; refine H_op (by decide +kernel) rfl ?_) <;> apply U_nil) | apply W_skip | apply W_block | apply W_ret | apply W_exit | refine W_true rfl (by assumption) ?_ | refine W_false rfl (by assumption) ?_ | refine W_cond rfl (fun _ => ?_) (fun _ => ?_)))
      exact ⟨a ++ [flC (x1, x2, x3)], rfl, by rw [← j1]; simp, by simp [j2], fun r hr => by
        rcases List.mem_append.1 hr with hr | hr
        · exact j3 r hr
        · exact hrw [(x1, x2, x3)] r (by simpa using hr)⟩
    · intro a hJ
      have hlt : decide ((fl.length : Int) < ((fl.map flC).length : Int)) = false := decide_eq_false (by rw [hlen]; omega)
      have : a = fl.map flC := by simpa using hJ.1
      subst this
      (repeat' (first | apply W_seq | refine W_true rfl rfl ?_ | refine W_false rfl rfl ?_ | (refine W_ops (id := 3) rfl ?_ <;> refine T_ch 3 rfl ?_ <;> (refine T_go rfl ?_; refine G_false rfl (by with_reducible assumption) ?_) <;> apply T_nil) | refine W_region (id := 6) rfl rfl ?_ | apply W_skip | apply W_block | apply W_ret | apply W_exit | refine W_true rfl (by assumption) ?_ | refine W_false rfl (by assumption) ?_ | refine W_cond rfl (fun _ => ?_) (fun _ => ?_)))
      exact ⟨.inl rfl, hfin⟩
def smS (h : Heap) (v : AV) (i : Int) (_ : Unit) : St :=
  { env := [(0, .v v), (1, .v v), (5, .v (.int .i64 i))], loc := [], heap := h, inRound := false, lo := h.length }
theorem same_run (fl : List (Int × Int × Int)) (k : Nat) (hk : fl.length < k) (hl : fl.length < 1000) (h : Heap) (lo : Nat) : call Try.prog cfg (k + 1) lo (.func 20) [accV 3 (fl.map flC), accV 3 (fl.map flC)] h = some (.bool true, h) := by
  cases fl with
  | nil =>
    apply W_call Try.func20 rfl (Nat.le_of_ble_eq_true rfl) rfl rfl
    (repeat' (first | apply W_seq | refine W_true rfl rfl ?_ | refine W_false rfl rfl ?_ | refine W_region (id := 0) rfl rfl ?_ | (refine W_ops (id := 1) rfl ?_ <;> refine T_ch 4 rfl ?_ <;> (refine T_go rfl ?_; refine G_false rfl rfl ?_) <;> apply T_nil) | refine W_region (id := 3) rfl rfl ?_ | apply W_skip | apply W_block | apply W_ret | apply W_exit | refine W_true rfl (by assumption) ?_ | refine W_false rfl (by assumption) ?_ | refine W_cond rfl (fun _ => ?_) (fun _ => ?_)))
    apply W_iter (S := smS h .nils) (l := ([] : List Nat)) (a0 := ()) (fun _ _ => True) (by simp) (by simp; omega) rfl trivial
    · intro i st rest a hi; simp at hi
    · intro a hJ
      (repeat' (first | apply W_seq | refine W_true rfl rfl ?_ | refine W_false rfl rfl ?_ | (refine W_ops (id := 4) rfl ?_ <;> refine T_ch 3 rfl ?_ <;> (refine T_go rfl ?_; refine G_false rfl rfl ?_) <;> apply T_nil) | refine W_region (id := 8) rfl rfl ?_ | apply W_skip | apply W_block | apply W_ret | apply W_exit | refine W_true rfl (by assumption) ?_ | refine W_false rfl (by assumption) ?_ | refine W_cond rfl (fun _ => ?_) (fun _ => ?_)))
      exact ⟨.inl rfl, rfl⟩
  | cons x0 l0 =>
    generalize hfl : x0 :: l0 = fl at *
    have hacc : accV 3 (fl.map flC) = .vs 3 (fl.map flC) := by subst hfl; rfl
    have hlen : ((fl.map flC).length : Int) = fl.length := by simp
    have hne : (((fl.map flC).length : Int) != ((fl.map flC).length : Int)) = false := by simp
    rw [hacc]
    apply W_call Try.func20 rfl (Nat.le_of_ble_eq_true rfl) rfl rfl
    (repeat' (first | apply W_seq | refine W_true rfl rfl ?_ | refine W_false rfl rfl ?_ | refine W_region (id := 0) rfl rfl ?_ | (refine W_ops (id := 1) rfl ?_ <;> refine T_ch 4 rfl ?_ <;> (refine T_go rfl ?_; refine G_false rfl (by with_reducible assumption) ?_) <;> apply T_nil) | refine W_region (id := 3) rfl rfl ?_ | apply W_skip | apply W_block | apply W_ret | apply W_exit | refine W_true rfl (by assumption) ?_ | refine W_false rfl (by assumption) ?_ | refine W_cond rfl (fun _ => ?_) (fun _ => ?_)))
    apply W_iter (S := smS h (.vs 3 (fl.map flC))) (l := fl) (a0 := ()) (fun _ _ => True) (by omega) (by omega) rfl trivial
    · intro i x rest a hi hd hil hJ
      have hlt : decide ((i : Int) < ((fl.map flC).length : Int)) = true := decide_eq_true (by rw [hlen]; omega)
      have hrow : (fl.map flC)[i]? = some (flC x) := by rw [List.getElem?_map, hi]; rfl
      obtain ⟨x1, x2, x3⟩ := x
      have hbin : Go.Ev.binop cfg.tab cfg.eqs .neq 89 (.agg (flC (x1, x2, x3))) (.agg (flC (x1, x2, x3))) = some (.bool false) := by
        show (eqStruct cfg.tab cfg.eqs 89 (flC (x1, x2, x3)) (flC (x1, x2, x3))).map (fun r => AV.bool !r) = _
        have : eqStruct cfg.tab cfg.eqs 89 (flC (x1, x2, x3)) (flC (x1, x2, x3)) = eqAll cfg.tab [(0, 3), (1, 3), (2, 3)] (flC (x1, x2, x3)) (flC (x1, x2, x3)) := rfl
        rw [this]
        have hk3 : ∀ a : Int, keyEq (.int .i64) (.int .i64 a) (.int .i64 a) = some true := fun a => by simp [keyEq]
        have hl3 : Go.Ev.look cfg.tab 3 = some ⟨.int .i64, 1, 8, [.int .i64 0]⟩ := rfl
        simp only [flC, eqAll, hl3, hk3]
        rfl
      (repeat' (first | apply W_seq | refine W_true rfl rfl ?_ | refine W_false rfl rfl ?_ | (refine W_ops (id := 4) rfl ?_ <;> refine T_ch 3 rfl ?_ <;> (refine T_go rfl ?_; refine G_true rfl (by with_reducible assumption) ?_) <;> apply T_nil) | refine W_region (id := 5) rfl rfl ?_ | (refine W_dops (id := 6) (bs := [0, 0, 3, 7, 0, 0, 48, 112, 255]) rfl (by decide +kernel) ?_ <;> (refine U_go rfl ?_; refine H_free (by decide +kernel) rfl rfl rfl rfl rfl ?_) <;> (refine U_go rfl ?_; refine H_free (by decide +kernel) rfl rfl rfl rfl rfl ?_) <;> (refine U_go rfl ?_; refine H_free (by decide +kernel) rfl (O_index rfl rfl rfl rfl rfl (by assumption)) rfl rfl rfl ?_) <;> (refine U_go rfl ?_; refine H_free (by decide +kernel) rfl rfl rfl rfl rfl ?_) <;> (refine U_go rfl ?_; refine H_free (by decide +kernel) rfl rfl rfl rfl rfl ?_) <;> (refine U_go rfl ?_; refine H_free (by decide +kernel) rfl rfl rfl rfl rfl ?_) <;> (refine U_go rfl ?_; refine H_free (by decide +kernel) rfl (O_index rfl rfl rfl rfl rfl (by assumption)) rfl rfl rfl ?_) <;> (refine U_go rfl ?_; refine H_free (by decide +kernel) rfl rfl rfl rfl rfl ?_) <;> (refine U_go rfl ?_; refine H_false (by decide +kernel) (O_bin rfl rfl rfl (by assumption)) rfl ?_) <;> apply U_nil) | apply W_skip | apply W_block | apply W_ret | apply W_exit | refine W_true rfl (by assumption) ?_ | refine W_false rfl (by assumption) ?_ | refine W_cond rfl (fun _ => ?_) (fun _ => ?_)))
      exact ⟨(), rfl, trivial⟩
    · intro a hJ
      have hlt : decide ((fl.length : Int) < ((fl.map flC).length : Int)) = false := decide_eq_false (by rw [hlen]; omega)
      (repeat' (first | apply W_seq | refine W_true rfl rfl ?_ | refine W_false rfl rfl ?_ | (refine W_ops (id := 4) rfl ?_ <;> refine T_ch 3 rfl ?_ <;> (refine T_go rfl ?_; refine G_false rfl (by with_reducible assumption) ?_) <;> apply T_nil) | refine W_region (id := 8) rfl rfl ?_ | apply W_skip | apply W_block | apply W_ret | apply W_exit | refine W_true rfl (by assumption) ?_ | refine W_false rfl (by assumption) ?_ | refine W_cond rfl (fun _ => ?_) (fun _ => ?_)))
      exact ⟨.inl rfl, rfl⟩
end Go.Proofs.Ytelobnllkhnpaaa.L
/- Plain laws: the flows of the program and of the reference are the same; the law LevelFixed. -/
open Go Go.Proofs Go.Ev Go.Proofs.Ytelobnllkhnpaaa.E
namespace Go.Proofs.Ytelobnllkhnpaaa.L
set_option linter.unusedVariables false
set_option linter.unusedSimpArgs false
set_option maxHeartbeats 2000000
set_option maxRecDepth 100000

mutual
def sc1 : Sm' → Nat
  | .mk _ _ _ t e => 1 + scs t + scs e
def scs : List Sm' → Nat
  | [] => 0
  | s :: l => sc1 s + scs l
end
mutual
theorem sc1_le : ∀ s : Sm', sc1 s ≤ smN s
  | .mk _ _ a t e => by rw [sc1, smN]; have := scs_le t; have := scs_le e; omega
theorem scs_le : ∀ l : List Sm', scs l ≤ smsN l
  | [] => by rw [scs, smsN]; omega
  | s :: l => by rw [scs, smsN]; have := sc1_le s; have := scs_le l; omega
end
mutual
theorem cnt1_eq : ∀ (s : Sm') (n : Int), 0 ≤ n → n + smN s < 1000000 → cnt1 s n = n + sc1 s
  | .mk op m a t e, n, h0, h1 => by
    rw [smN] at h1
    have := scs_le t
    have := scs_le e
    rw [cnt1, sc1, cntL_eq t 0 (by omega) (by omega), cntL_eq e 0 (by omega) (by omega), wsm (n := n + 1) (by omega) (by omega), wsm (n := n + 1 + _) (by omega) (by omega), wsm (by omega) (by omega)]; omega
theorem cntL_eq : ∀ (l : List Sm') (n : Int), 0 ≤ n → n + smsN l < 1000000 → cntL l n = n + scs l
  | [], n, h0, h1 => by rw [cntL, scs]; omega
  | s :: l, n, h0, h1 => by
    rw [smsN] at h1
    have := sc1_le s
    rw [cntL, scs, cnt1_eq s n h0 (by omega), cntL_eq l _ (by omega) (by omega)]; omega
end
theorem flat_nil {t e : List Sm'} (h : flatB t e = true) : t = [] ∧ e = [] := by
  unfold flatB at h
  simp only [Bool.and_eq_true, beq_iff_eq] at h
  exact ⟨List.length_eq_zero_iff.1 (by omega), List.length_eq_zero_iff.1 (by omega)⟩
mutual
theorem fixP1_eq {w : Int} {vs : List Vr'} (lv : List Int) : ∀ (s : Sm') (ar : Int) (x : List (List AV)) (n : Int), rowB w vs s = true → 0 ≤ n → n + smN s < 1000000 → fixP1 tellL lv s ar x n = (x ++ fixR1 lv s ar n, cnt1 s n)
  | .mk op nn a t e, ar, x, n, hr, h0, h1 => by
    rw [rowB] at hr
    simp only [Bool.and_eq_true] at hr
    obtain ⟨⟨⟨hh, ht⟩, he⟩, _⟩ := hr
    have hc1 := cnt1_eq (.mk op nn a t e) n h0 h1
    rw [smN] at h1
    rw [fixP1, fixR1]
    unfold headB at hh
    dsimp only at hh
    have hflat : t = [] ∧ e = [] → cnt1 (.mk op nn a t e) n = IntKind.i64.wrap (n + 1) := fun ⟨q1, q2⟩ => by
      subst q1 q2
      rw [hc1, sc1, scs, wsm (by omega) (by omega)]; omega
    by_cases o0 : op = 0
    · rw [if_pos o0, Bool.and_eq_true] at hh
      have hf := flat_nil hh.1
      rw [hflat hf, if_pos o0, if_pos o0, hf.1, hf.2]; simp [fixRL, tellL]
    by_cases o4 : op = 4
    · rw [if_neg o0, if_neg (by omega), if_neg (by omega), if_neg (by omega), if_pos o4, Bool.and_eq_true] at hh
      have hf := flat_nil hh.1
      rw [hflat hf, if_neg o0, if_pos o4, if_neg o0, if_pos o4, hf.1, hf.2]; simp [fixRL, tellL]
    by_cases o3 : op = 3
    · rw [if_neg o0, if_neg (by omega), if_neg (by omega), if_pos o3] at hh
      simp only [Bool.and_eq_true] at hh
      have hf := flat_nil hh.1.1.1
      rw [hflat hf, if_neg o0, if_neg o4, if_pos o3, if_neg o0, if_neg o4, if_pos o3, hf.1, hf.2]; simp [fixRL, tellL]
    rw [if_neg o0, if_neg o4, if_neg o3, if_neg o0, if_neg o4, if_neg o3, List.nil_append]
    by_cases o1 : op = 1 ∨ op = 2
    · rw [if_pos o1, wsm (n := n + 1) (by omega) (by omega), fixPL_eq lv t _ x (n + 1) ht (by omega) (by omega)]
      have := scs_le t
      have := scs_le e
      have e1 : cntL t (n + 1) = n + 1 + scs t := cntL_eq t _ (by omega) (by omega)
      have e2 : cntL t 0 = scs t := by rw [cntL_eq t 0 (by omega) (by omega)]; omega
      dsimp only
      rw [e1, fixPL_eq lv e _ _ (n + 1 + scs t) he (by omega) (by omega), e2, wsm (n := n + 1 + _) (by omega) (by omega), hc1, sc1, cntL_eq e _ (by omega) (by omega), List.append_assoc]
      congr 1; omega
    · rw [if_neg o1]
      rw [if_neg o0, if_neg (by omega), if_neg (by omega), if_neg o3, if_neg o4] at hh
      split at hh
      · simp only [Bool.and_eq_true] at hh
        have hf := flat_nil hh.1.1
        rw [hflat hf, hf.1, hf.2]; simp [fixRL]
      · cases hh
theorem fixPL_eq {w : Int} {vs : List Vr'} (lv : List Int) : ∀ (l : List Sm') (ar : Int) (x : List (List AV)) (n : Int), rowsB w vs l = true → 0 ≤ n → n + smsN l < 1000000 → fixPL tellL lv l ar x n = (x ++ fixRL lv l ar n, cntL l n)
  | [], ar, x, n, hr, h0, h1 => by rw [fixPL, fixRL, cntL, List.append_nil]
  | s :: l, ar, x, n, hr, h0, h1 => by
    rw [rowsB, Bool.and_eq_true] at hr
    rw [smsN] at h1
    have := sc1_le s
    rw [fixPL, fixRL, cntL, fixP1_eq lv s ar x n hr.1 h0 (by omega)]
    dsimp only
    rw [cnt1_eq s n h0 (by omega), fixPL_eq lv l ar _ _ hr.2 (by omega) (by omega), List.append_assoc]
end
mutual
theorem row_rd {w : Int} {vs : List Vr'} : ∀ (s : Sm'), rowB w vs s = true → rdS1 vs.length s
  | .mk op nn a t e, hr => by
    rw [rowB] at hr
    simp only [Bool.and_eq_true] at hr
    obtain ⟨⟨⟨hh, ht⟩, he⟩, ha⟩ := hr
    rw [rdS1]
    refine ⟨?_, fun ho => ?_, rows_rd t ht, rows_rd e he⟩
    · have key : ∀ es : List Ex', es.all (isE w vs 1) = true → rdEs vs.length es := by
        intro es
        induction es with
        | nil => intro _; trivial
        | cons x es ih =>
          intro h
          rw [List.all_cons, Bool.and_eq_true] at h
          exact ⟨isE_rd h.1, ih h.2⟩
      exact key a ha
    · unfold headB at hh
      dsimp only at hh
      rcases ho with ho | ho
      · rw [if_pos ho, Bool.and_eq_true] at hh
        have := hh.2
        unfold variableB at this
        simp only [Bool.and_eq_true, decide_eq_true_eq] at this
        exact this.1
      · rw [if_neg (by omega), if_neg (by omega), if_neg (by omega), if_neg (by omega), if_pos ho, Bool.and_eq_true] at hh
        have := hh.2
        unfold variableB at this
        simp only [Bool.and_eq_true, decide_eq_true_eq] at this
        exact this.1
theorem rows_rd {w : Int} {vs : List Vr'} : ∀ (l : List Sm'), rowsB w vs l = true → rdSs vs.length l
  | [], _ => trivial
  | s :: l, hr => by
    rw [rowsB, Bool.and_eq_true] at hr
    exact ⟨row_rd s hr.1, rows_rd l hr.2⟩
end
theorem isP_rows {p : Pr'} (h : isP p = true) : rowsB p.width p.vars p.body = true := by
  unfold isP at h
  simp only [Bool.and_eq_true] at h
  exact h.2
theorem flP_eq (p : Pr') (lv : List Int) (hP : isP p = true) (hN : smsN p.body ≤ 600) : flP lv p = fixRL lv p.body 0 0 := by
  unfold flP
  rw [fixPL_eq lv p.body 0 [] 0 (isP_rows hP) (by omega) (by omega)]
  rfl
theorem flowL_num (a f t : Int) : ∃ fl : List (Int × Int × Int), flowL a f t = fl.map flC := by
  unfold flowL
  split
  · exact ⟨[], rfl⟩
  · exact ⟨[(a, f, t)], rfl⟩
mutual
theorem fixR1_num (lv : List Int) : ∀ (s : Sm') (ar n : Int), ∃ fl : List (Int × Int × Int), fixR1 lv s ar n = fl.map flC
  | .mk op nn a t e, ar, n => by
    rw [fixR1]
    obtain ⟨ft, h2⟩ := fixRL_num lv t (orI ar (ofEs lv 0 a)) (IntKind.i64.wrap (n + 1))
    obtain ⟨fe, h3⟩ := fixRL_num lv e (orI ar (ofEs lv 0 a)) (IntKind.i64.wrap (IntKind.i64.wrap (n + 1) + cntL t 0))
    have h1 : ∃ fl : List (Int × Int × Int), (if op = 0 then flowL n (orI ar (ofEs lv 0 a)) (lv.getD nn.toNat 0) else if op = 4 then flowL n (orI (orI ar (ofEs lv 0 a)) 16) (lv.getD nn.toNat 0) else if op = 3 then flowL n (orI ar (ofEs lv 0 a)) nn else []) = fl.map flC := by
      split
      · exact flowL_num _ _ _
      split
      · exact flowL_num _ _ _
      split
      · exact flowL_num _ _ _
      · exact ⟨[], rfl⟩
    obtain ⟨f1, h1⟩ := h1
    exact ⟨f1 ++ (ft ++ fe), by rw [h1, h2, h3]; simp⟩
theorem fixRL_num (lv : List Int) : ∀ (l : List Sm') (ar n : Int), ∃ fl : List (Int × Int × Int), fixRL lv l ar n = fl.map flC
  | [], ar, n => ⟨[], by rw [fixRL]; rfl⟩
  | s :: l, ar, n => by
    obtain ⟨f1, h1⟩ := fixR1_num lv s ar n
    obtain ⟨f2, h2⟩ := fixRL_num lv l ar (cnt1 s n)
    exact ⟨f1 ++ f2, by rw [fixRL, h1, h2]; simp⟩
end

theorem levelFixed_run (p : Pr') (k : Nat) (hk : smsK p.body + p.vars.length + 1200 ≤ k) (hb : prB p) (h : Heap) (lo : Nat) :
    call Try.prog cfg (k + 1) lo (.func 4) [.agg (prC p)] h = some (.bool true, h) := by
  have hA := awake_run k h.length h (by omega)
  have h1 := fitsS_run (k - 1) h h.length p.body (by omega) hb.2.1 hb.2.2 600
  rw [show k - 1 + 1 = k by omega] at h1
  cases hf : fitsS p.body 600 with
  | false =>
    rw [hf] at h1
    obtain ⟨w, vs, body⟩ := p
    apply W_call Try.func4 rfl (Nat.le_of_ble_eq_true rfl) rfl rfl
    (repeat' (first | apply W_seq | refine W_true rfl rfl ?_ | refine W_false rfl rfl ?_ | refine W_region (id := 0) rfl rfl ?_ | (refine W_ops (id := 1) rfl ?_ <;> refine T_ch 2 rfl ?_ <;> (refine T_go rfl ?_; refine G_false (O_call rfl rfl rfl rfl (by assumption)) rfl ?_) <;> refine T_ch 1 rfl ?_ <;> apply T_nil) | (refine W_ops (id := 2) rfl ?_ <;> (refine T_go rfl ?_; refine G_true (O_call rfl rfl rfl rfl (by assumption)) rfl ?_) <;> refine T_ch 1 rfl ?_ <;> apply T_nil) | apply W_skip | apply W_block | apply W_ret | apply W_exit | refine W_true rfl (by assumption) ?_ | refine W_false rfl (by assumption) ?_ | refine W_cond rfl (fun _ => ?_) (fun _ => ?_)))
    all_goals exact ⟨.inl rfl, rfl⟩
  | true =>
  rw [hf] at h1
  have hN : smsN p.body ≤ 600 := by
    rw [fitsS_eq _ _ (by omega) (by omega)] at hf
    have := of_decide_eq_true hf
    omega
  have hC := Fcheck_run p hN (k - 1) (by omega) hb (fun hP => rows_rd _ (isP_rows hP)) h h.length
  have hF := fault_run p (k - 1) (by omega) hb h h.length
  rw [show k - 1 + 1 = k by omega] at hC hF
  unfold chkFl at hC
  rcases faultI_cases p with ⟨hf, hP, hS⟩ | hf | hf
  · rw [hf] at hC hF
    rw [if_pos rfl] at hC
    obtain ⟨hh, hl1, hl2⟩ := isP_head hP
    have hL := levelsR_run p (k - 1) (by omega) (by omega) h h.length
    have hR := FixedR_run (levs p) p (k - 1) (by omega) hN hb (by rw [levs_len]; exact rows_rd _ (isP_rows hP)) h h.length
    rw [flP_eq p _ hP hN] at hC
    have hlen := fixRL_len (levs p) p.body 0 0
    obtain ⟨fl, hfl⟩ := fixRL_num (levs p) p.body 0 0
    rw [hfl] at hC hR hlen
    rw [List.length_map] at hlen
    have hW := lawflows_run fl (k - 1) (by omega) (by omega) h h.length
    have hS := same_run fl (k - 1) (by omega) (by omega) h h.length
    rw [show k - 1 + 1 = k by omega] at hL hR hW hS
    rw [accV_ne (levs_ne hl1)] at hL
    generalize levs p = lv at hL hR
    generalize accV 3 (fl.map flC) = V at hC hR hW hS
    obtain ⟨w, vs, body⟩ := p
    apply W_call Try.func4 rfl (Nat.le_of_ble_eq_true rfl) rfl rfl
    (repeat' (first | apply W_seq | refine W_true rfl rfl ?_ | refine W_false rfl rfl ?_ | refine W_region (id := 0) rfl rfl ?_ | (refine W_ops (id := 1) rfl ?_ <;> refine T_ch 2 rfl ?_ <;> (refine T_go rfl ?_; refine G_true (O_call rfl rfl rfl rfl (by assumption)) rfl ?_) <;> refine T_ch 1 rfl ?_ <;> apply T_nil) | (refine W_ops (id := 3) rfl ?_ <;> refine T_ch 1 rfl ?_ <;> (refine T_go rfl ?_; refine G_op (O_call rfl rfl rfl rfl (by assumption)) ?_) <;> refine T_ch 5 rfl ?_ <;> apply T_nil) | (refine W_ops (id := 4) rfl ?_ <;> refine T_ch 1 rfl ?_ <;> (refine T_go rfl ?_; refine G_op (O_call rfl rfl rfl rfl (by assumption)) ?_) <;> refine T_ch 1 rfl ?_ <;> apply T_nil) | (refine W_ops (id := 5) rfl ?_ <;> refine T_ch 1 rfl ?_ <;> (refine T_go rfl ?_; refine G_false rfl rfl ?_) <;> apply T_nil) | (refine W_dops (id := 7) (bs := [0, 1, 3, 7, 15, 7, 7, 95, 255, 511, 1023, 2047, 4095, 8191, 16383]) rfl (by decide +kernel) ?_ <;> (refine U_go rfl ?_; refine H_op (by decide +kernel) rfl ?_) <;> (refine U_go rfl ?_; refine H_true (by decide +kernel) rfl rfl ?_) <;> (refine U_go rfl ?_; refine H_op (by decide +kernel) rfl ?_) <;> (refine U_go rfl ?_; refine H_free (by decide +kernel) rfl rfl rfl rfl rfl ?_) <;> (refine U_go rfl ?_; refine H_free (by decide +kernel) rfl (O_call rfl rfl rfl rfl (by assumption)) rfl rfl rfl ?_) <;> (refine U_go rfl ?_; refine H_free (by decide +kernel) rfl rfl rfl rfl rfl ?_) <;> (refine U_go rfl ?_; refine H_free (by decide +kernel) rfl rfl rfl rfl rfl ?_) <;> (refine U_go rfl ?_; refine H_free (by decide +kernel) rfl (O_call rfl rfl rfl rfl (by assumption)) rfl rfl rfl ?_) <;> (refine U_go rfl ?_; refine H_op (by decide +kernel) (O_call rfl rfl rfl rfl (by assumption)) ?_) <;> (refine U_go rfl ?_; refine H_true (by decide +kernel) (O_call rfl rfl rfl rfl (by assumption)) rfl ?_) <;> (refine U_go rfl ?_; refine H_op (by decide +kernel) rfl ?_) <;> (refine U_go rfl ?_; refine H_op (by decide +kernel) rfl ?_) <;> (refine U_go rfl ?_; refine H_true (by decide +kernel) (O_call rfl rfl rfl rfl (by assumption)) rfl ?_) <;> (refine U_go rfl ?_; refine H_op (by decide +kernel) rfl ?_) <;> (refine U_go rfl ?_; refine H_op (by decide +kernel) rfl ?_) <;> apply U_nil) | apply W_skip | apply W_block | apply W_ret | apply W_exit | refine W_true rfl (by assumption) ?_ | refine W_false rfl (by assumption) ?_ | refine W_cond rfl (fun _ => ?_) (fun _ => ?_)))
    all_goals exact ⟨.inl rfl, rfl⟩
  · rw [hf] at hC hF
    rw [if_neg (by simp)] at hC
    obtain ⟨w, vs, body⟩ := p
    apply W_call Try.func4 rfl (Nat.le_of_ble_eq_true rfl) rfl rfl
    (repeat' (first | apply W_seq | refine W_true rfl rfl ?_ | refine W_false rfl rfl ?_ | refine W_region (id := 0) rfl rfl ?_ | (refine W_ops (id := 1) rfl ?_ <;> refine T_ch 2 rfl ?_ <;> (refine T_go rfl ?_; refine G_true (O_call rfl rfl rfl rfl (by assumption)) rfl ?_) <;> refine T_ch 1 rfl ?_ <;> apply T_nil) | (refine W_ops (id := 3) rfl ?_ <;> refine T_ch 1 rfl ?_ <;> (refine T_go rfl ?_; refine G_op (O_call rfl rfl rfl rfl (by assumption)) ?_) <;> refine T_ch 5 rfl ?_ <;> apply T_nil) | (refine W_ops (id := 4) rfl ?_ <;> refine T_ch 1 rfl ?_ <;> (refine T_go rfl ?_; refine G_op (O_call rfl rfl rfl rfl (by assumption)) ?_) <;> refine T_ch 1 rfl ?_ <;> apply T_nil) | (refine W_ops (id := 5) rfl ?_ <;> refine T_ch 1 rfl ?_ <;> (refine T_go rfl ?_; refine G_true rfl rfl ?_) <;> apply T_nil) | (refine W_ops (id := 6) rfl ?_ <;> refine T_ch 2 rfl ?_ <;> (refine T_go rfl ?_; refine G_true rfl rfl ?_) <;> refine T_ch 3 rfl ?_ <;> (refine T_go rfl ?_; refine G_true rfl rfl ?_) <;> refine T_ch 2 rfl ?_ <;> (refine T_go rfl ?_; refine G_true (O_call rfl rfl rfl rfl (by assumption)) rfl ?_) <;> refine T_ch 2 rfl ?_ <;> apply T_nil) | apply W_skip | apply W_block | apply W_ret | apply W_exit | refine W_true rfl (by assumption) ?_ | refine W_false rfl (by assumption) ?_ | refine W_cond rfl (fun _ => ?_) (fun _ => ?_)))
    all_goals exact ⟨.inl rfl, rfl⟩
  · rw [hf] at hC hF
    rw [if_neg (by simp)] at hC
    obtain ⟨w, vs, body⟩ := p
    apply W_call Try.func4 rfl (Nat.le_of_ble_eq_true rfl) rfl rfl
    (repeat' (first | apply W_seq | refine W_true rfl rfl ?_ | refine W_false rfl rfl ?_ | refine W_region (id := 0) rfl rfl ?_ | (refine W_ops (id := 1) rfl ?_ <;> refine T_ch 2 rfl ?_ <;> (refine T_go rfl ?_; refine G_true (O_call rfl rfl rfl rfl (by assumption)) rfl ?_) <;> refine T_ch 1 rfl ?_ <;> apply T_nil) | (refine W_ops (id := 3) rfl ?_ <;> refine T_ch 1 rfl ?_ <;> (refine T_go rfl ?_; refine G_op (O_call rfl rfl rfl rfl (by assumption)) ?_) <;> refine T_ch 5 rfl ?_ <;> apply T_nil) | (refine W_ops (id := 4) rfl ?_ <;> refine T_ch 1 rfl ?_ <;> (refine T_go rfl ?_; refine G_op (O_call rfl rfl rfl rfl (by assumption)) ?_) <;> refine T_ch 1 rfl ?_ <;> apply T_nil) | (refine W_ops (id := 5) rfl ?_ <;> refine T_ch 1 rfl ?_ <;> (refine T_go rfl ?_; refine G_true rfl rfl ?_) <;> apply T_nil) | (refine W_ops (id := 6) rfl ?_ <;> refine T_ch 2 rfl ?_ <;> (refine T_go rfl ?_; refine G_true rfl rfl ?_) <;> refine T_ch 3 rfl ?_ <;> (refine T_go rfl ?_; refine G_true rfl rfl ?_) <;> refine T_ch 2 rfl ?_ <;> (refine T_go rfl ?_; refine G_true (O_call rfl rfl rfl rfl (by assumption)) rfl ?_) <;> refine T_ch 2 rfl ?_ <;> apply T_nil) | apply W_skip | apply W_block | apply W_ret | apply W_exit | refine W_true rfl (by assumption) ?_ | refine W_false rfl (by assumption) ?_ | refine W_cond rfl (fun _ => ?_) (fun _ => ?_)))
    all_goals exact ⟨.inl rfl, rfl⟩
end Go.Proofs.Ytelobnllkhnpaaa.L
/- Types that move: what is plain about them. -/
open Go Go.Proofs Go.Ev Go.Proofs.Ytelobnllkhnpaaa.E
namespace Go.Proofs.Ytelobnllkhnpaaa.L
set_option linter.unusedVariables false
set_option linter.unusedSimpArgs false
set_option maxHeartbeats 2000000
set_option maxRecDepth 100000

def ic (l : List Int) : List AV := l.map fun n => .int .i64 n
theorem ic_flat (l : List Int) : (intsC l).flatten = ic l := by
  induction l with
  | nil => rfl
  | cons a l ih => simp only [intsC, List.map_cons, List.flatten_cons, ic] at ih ⊢; rw [ih]; rfl
theorem ic_len (l : List Int) : (ic l).length = l.length := by simp [ic]
theorem ic_get {l : List Int} {i : Nat} {n : Int} (h : l[i]? = some n) : (ic l)[i]? = some (.int .i64 n) := by simp [ic, h]
theorem ic_static (l : List Int) : (ic l).all static = true := by
  rw [List.all_eq_true]
  intro x hx
  obtain ⟨n, _, rfl⟩ := List.mem_map.1 hx
  rfl
theorem ic_set {l : List Int} {i : Nat} (v : Int) (h : i < l.length) : setCells (ic l) i [.int .i64 v] = ic (l.set i v) := by
  unfold setCells ic
  rw [List.set_eq_take_append_cons_drop, if_pos h]
  simp [List.map_take, List.map_drop]
theorem chunks_ic : ∀ l : List Int, chunks 1 l.length (ic l) = intsC l
  | [] => rfl
  | a :: l => by
    have := chunks_ic l
    simp only [ic, intsC, List.length_cons, chunks, List.map_cons] at this ⊢
    rw [← this]; rfl

/-! ### Levels from 0 to 31 -/
def lvB (x : Int) : Prop := 0 ≤ x ∧ x < 32
def lvsB (l : List Int) : Prop := ∀ x, x ∈ l → lvB x
theorem or_lift {Q : Int → Int → Prop} (h : ∀ a b : Fin 32, Q (a.val : Int) (b.val : Int)) {a b : Int} (ha : lvB a) (hb : lvB b) : Q a b := by
  have := h ⟨a.toNat, by have := ha.2; have := ha.1; omega⟩ ⟨b.toNat, by have := hb.2; have := hb.1; omega⟩
  rw [Int.toNat_of_nonneg ha.1, Int.toNat_of_nonneg hb.1] at this
  exact this
theorem orI_B {a b : Int} (ha : lvB a) (hb : lvB b) : lvB (orI a b) := or_lift (Q := fun a b => 0 ≤ orI a b ∧ orI a b < 32) (by decide +kernel) ha hb
theorem orI_comm (a b : Int) : orI a b = orI b a := by unfold orI; rw [BitVec.or_comm]
theorem orI_zero {b : Int} (hb : lvB b) : orI 0 b = b := or_lift (Q := fun a b => orI 0 b = b) (by decide +kernel) hb hb
theorem orI_zero' {b : Int} (hb : lvB b) : orI b 0 = b := by rw [orI_comm, orI_zero hb]
theorem orI_ge {a b : Int} (ha : lvB a) (hb : lvB b) : a ≤ orI a b := or_lift (Q := fun a b => a ≤ orI a b) (by decide +kernel) ha hb
theorem lvB0 : lvB 0 := by unfold lvB; omega
theorem lvB16 : lvB 16 := by unfold lvB; omega
theorem lvsB_getD {l : List Int} (h : lvsB l) (i : Nat) : lvB (l.getD i 0) := by
  rw [List.getD_eq_getElem?_getD]
  cases hi : l[i]? with
  | none => exact lvB0
  | some x => exact h x (List.mem_of_getElem? hi)
mutual
theorem ofE_B {l : List Int} (h : lvsB l) : ∀ e : Ex', lvB (ofE l e)
  | .mk op n _ es => by
    rw [ofE]
    refine ofEs_B h es ?_
    split
    · exact lvsB_getD h _
    · exact lvB0
theorem ofEs_B {l : List Int} (h : lvsB l) : ∀ (es : List Ex') {a : Int}, lvB a → lvB (ofEs l a es)
  | [], a, ha => by rw [ofEs]; exact ha
  | e :: es, a, ha => by rw [ofEs]; exact ofEs_B h es (orI_B ha (ofE_B h e))
end
theorem lvsB_set {l : List Int} {v : Int} (h : lvsB l) (hv : lvB v) (i : Nat) : lvsB (l.set i v) := fun x hx => by
  rcases List.mem_or_eq_of_mem_set hx with h' | h'
  · exact h x h'
  · rw [h']; exact hv

/-! ### The levels of both -/
def joinL (a b : List Int) : List Int := List.zipWith orI a b
theorem joinL_len {a b : List Int} (h : a.length = b.length) : (joinL a b).length = a.length := by simp [joinL, h]
theorem joinL_B : ∀ {a b : List Int}, lvsB a → lvsB b → lvsB (joinL a b)
  | [], _, _, _ => fun x hx => by simp [joinL] at hx
  | _ :: _, [], _, _ => fun x hx => by simp [joinL] at hx
  | x :: a, y :: b, ha, hb => fun z hz => by
    simp only [joinL, List.zipWith_cons_cons, List.mem_cons] at hz
    rcases hz with rfl | hz
    · exact orI_B (ha x (List.mem_cons_self ..)) (hb y (List.mem_cons_self ..))
    · exact joinL_B (fun w hw => ha w (List.mem_cons_of_mem _ hw)) (fun w hw => hb w (List.mem_cons_of_mem _ hw)) z hz
def roomL : List Int → Nat
  | [] => 0
  | x :: l => (32 - x).toNat + roomL l
theorem roomL_le : ∀ {l : List Int}, lvsB l → roomL l ≤ 32 * l.length
  | [], _ => by simp [roomL]
  | x :: l, h => by
    have := roomL_le (l := l) fun w hw => h w (List.mem_cons_of_mem _ hw)
    have := (h x (List.mem_cons_self ..)).1
    simp only [roomL, List.length_cons]; omega
theorem joinL_room : ∀ {a b : List Int}, lvsB a → lvsB b → a.length = b.length → roomL (joinL a b) ≤ roomL a ∧ (joinL a b = a ∨ roomL (joinL a b) < roomL a)
  | [], [], _, _, _ => ⟨by simp [joinL], .inl rfl⟩
  | x :: a, y :: b, ha, hb, hl => by
    obtain ⟨h1, h2⟩ := joinL_room (a := a) (b := b) (fun w hw => ha w (List.mem_cons_of_mem _ hw)) (fun w hw => hb w (List.mem_cons_of_mem _ hw)) (by simpa using hl)
    have hx := ha x (List.mem_cons_self ..)
    have hge := orI_ge hx (hb y (List.mem_cons_self ..))
    have hB := orI_B hx (hb y (List.mem_cons_self ..))
    unfold joinL at h1 h2 ⊢
    simp only [List.zipWith_cons_cons, roomL]
    have q1 := hx.2
    have q2 := hB.2
    refine ⟨by omega, ?_⟩
    by_cases he : orI x y = x
    · rcases h2 with h2 | h2
      · left; rw [he, h2]
      · right; omega
    · right; omega
  | [], _ :: _, _, _, h => by simp at h
  | _ :: _, [], _, _, h => by simp at h

/-! ### Again and again, until nothing changes -/
def fixN (f : List Int → List Int) : Nat → List Int → List Int
  | 0, x => x
  | n + 1, x => if f x = x then x else fixN f n (f x)
theorem fixN_keep {f : List Int → List Int} {Q : List Int → Prop} (hf : ∀ x, Q x → Q (f x)) : ∀ (n : Nat) (x : List Int), Q x → Q (fixN f n x)
  | 0, x, h => h
  | n + 1, x, h => by
    rw [fixN]
    split
    · exact h
    · exact fixN_keep hf n _ (hf x h)
theorem fixN_congr {f g : List Int → List Int} {Q : List Int → Prop} (hf : ∀ x, Q x → Q (f x)) (hfg : ∀ x, Q x → f x = g x) : ∀ (n : Nat) (x : List Int), Q x → fixN f n x = fixN g n x
  | 0, x, h => rfl
  | n + 1, x, h => by
    rw [fixN, fixN, ← hfg x h]
    split
    · rfl
    · exact fixN_congr hf hfg n _ (hf x h)

/-! ### Statements -/
mutual
def vm1 (m : Nat) : Sm' → Prop
  | .mk op n a t e => rdEs m a ∧ ((op = 0 ∨ op = 4) → 0 ≤ n ∧ n < m) ∧ ((op = 1 ∨ op = 2) → ∃ x, a = [x]) ∧ vmL m t ∧ vmL m e
def vmL (m : Nat) : List Sm' → Prop
  | [] => True
  | s :: l => vm1 m s ∧ vmL m l
end
theorem vmL_mem {m : Nat} : ∀ {l : List Sm'} {i : Nat} {e : Sm'}, vmL m l → l[i]? = some e → vm1 m e
  | [], i, e, _, h => by simp at h
  | a :: l, 0, e, hb, h => by simp at h; subst h; exact hb.1
  | a :: l, i + 1, e, hb, h => by simp at h; exact vmL_mem hb.2 h
mutual
theorem vm1_rd {m : Nat} : ∀ {s : Sm'}, vm1 m s → rdS1 m s
  | .mk op n a t e, h => by rw [vm1] at h; rw [rdS1]; exact ⟨h.1, h.2.1, vmL_rd h.2.2.2.1, vmL_rd h.2.2.2.2⟩
theorem vmL_rd {m : Nat} : ∀ {l : List Sm'}, vmL m l → rdSs m l
  | [], _ => trivial
  | s :: l, h => ⟨vm1_rd h.1, vmL_rd h.2⟩
end
section
variable (pt : List Int → Int → Sm' → List Int) (og : List Int → List Ex' → Int)
mutual
def mv1 : Sm' → List Int → Int → List Int
  | .mk op n a t e, lv, ar =>
    if op = 1 then joinL (mvL t lv (orI ar (og lv a))) (mvL e lv (orI ar (og lv a)))
    else if op = 2 then fixN (fun x => joinL x (mvL t x (orI ar (og x a)))) 600 lv
    else pt lv ar (.mk op n a t e)
def mvL : List Sm' → List Int → Int → List Int
  | [], lv, _ => lv
  | s :: l, lv, ar => mvL l (mv1 s lv ar) ar
end
/-- What keeps levels as many, and from 0 to 31. -/
structure Mv (m : Nat) : Prop where
  pt : ∀ lv ar s, lv.length = m → lvsB lv → lvB ar → vm1 m s → (pt lv ar s).length = m ∧ lvsB (pt lv ar s)
  og : ∀ lv a, lvsB lv → lvB (og lv a)
variable {pt og}
mutual
theorem mv1_ok {m : Nat} (H : Mv pt og m) : ∀ (s : Sm') (lv : List Int) (ar : Int), lv.length = m → lvsB lv → lvB ar → vm1 m s → (mv1 pt og s lv ar).length = m ∧ lvsB (mv1 pt og s lv ar)
  | .mk op n a t e, lv, ar, hl, hb, ha, hv => by
    have hv' := hv
    rw [vm1] at hv
    rw [mv1]
    split
    · obtain ⟨t1, t2⟩ := mvL_ok H t lv (orI ar (og lv a)) hl hb (orI_B ha (H.og lv a hb)) hv.2.2.2.1
      obtain ⟨e1, e2⟩ := mvL_ok H e lv (orI ar (og lv a)) hl hb (orI_B ha (H.og lv a hb)) hv.2.2.2.2
      exact ⟨by rw [joinL_len (by omega)]; exact t1, joinL_B t2 e2⟩
    · split
      · exact fixN_keep (Q := fun x => x.length = m ∧ lvsB x) (fun x hx => by
          obtain ⟨t1, t2⟩ := mvL_ok H t x (orI ar (og x a)) hx.1 hx.2 (orI_B ha (H.og x a hx.2)) hv.2.2.2.1
          exact ⟨by rw [joinL_len (by omega)]; exact hx.1, joinL_B hx.2 t2⟩) _ _ ⟨hl, hb⟩
      · exact H.pt lv ar _ hl hb ha hv'
theorem mvL_ok {m : Nat} (H : Mv pt og m) : ∀ (l : List Sm') (lv : List Int) (ar : Int), lv.length = m → lvsB lv → lvB ar → vmL m l → (mvL pt og l lv ar).length = m ∧ lvsB (mvL pt og l lv ar)
  | [], lv, ar, hl, hb, _, _ => by rw [mvL]; exact ⟨hl, hb⟩
  | s :: l, lv, ar, hl, hb, ha, hv => by
    obtain ⟨q1, q2⟩ := mv1_ok H s lv ar hl hb ha hv.1
    rw [mvL]
    exact mvL_ok H l _ ar q1 q2 ha hv.2
end
/-- One round of a while comes nearer. -/
theorem round_ok {m : Nat} (H : Mv pt og m) {t : List Sm'} (hv : vmL m t) {ar : Int} (ha : lvB ar) (a : List Ex') {x : List Int} (hl : x.length = m) (hb : lvsB x) :
    (joinL x (mvL pt og t x (orI ar (og x a)))).length = m ∧ lvsB (joinL x (mvL pt og t x (orI ar (og x a)))) ∧ (joinL x (mvL pt og t x (orI ar (og x a))) = x ∨ roomL (joinL x (mvL pt og t x (orI ar (og x a)))) < roomL x) := by
  obtain ⟨t1, t2⟩ := mvL_ok H t x (orI ar (og x a)) hl hb (orI_B ha (H.og x a hb)) hv
  exact ⟨by rw [joinL_len (by omega)]; exact hl, joinL_B hb t2, (joinL_room hb t2 (by omega)).2⟩
end

/-- The places, with the levels there. -/
abbrev Pl := Int × Sm' × List Int × Int
section
variable (pt : List Int → Int → Sm' → List Int) (og : List Int → List Ex' → Int)
mutual
def pl1 : Sm' → List Int → Int → Int → List Pl
  | .mk op nn a t e, lv, ar, n =>
    if op = 1 then (n, .mk op nn a t e, lv, ar) :: (plL t lv (orI ar (og lv a)) (IntKind.i64.wrap (n + 1)) ++ plL e lv (orI ar (og lv a)) (IntKind.i64.wrap (IntKind.i64.wrap (n + 1) + cntL t 0)))
    else if op = 2 then (n, .mk op nn a t e, mv1 pt og (.mk op nn a t e) lv ar, ar) :: plL t (mv1 pt og (.mk op nn a t e) lv ar) (orI ar (og (mv1 pt og (.mk op nn a t e) lv ar) a)) (IntKind.i64.wrap (n + 1))
    else [(n, .mk op nn a t e, lv, ar)]
def plL : List Sm' → List Int → Int → Int → List Pl
  | [], _, _, _ => []
  | s :: l, lv, ar, n => pl1 s lv ar n ++ plL l (mv1 pt og s lv ar) ar (cnt1 s n)
end
variable {σ : Type} (upd : σ → Int → Sm' → List Int → Int → σ)
mutual
def sp1 : Sm' → List Int → Int → σ → Int → σ × Int
  | .mk op nn a t e, lv, ar, x, n =>
    if op = 1 then
      spL e lv (orI ar (og lv a)) (spL t lv (orI ar (og lv a)) (upd x n (.mk op nn a t e) lv ar) (IntKind.i64.wrap (n + 1))).1 (spL t lv (orI ar (og lv a)) (upd x n (.mk op nn a t e) lv ar) (IntKind.i64.wrap (n + 1))).2
    else if op = 2 then
      spL t (mv1 pt og (.mk op nn a t e) lv ar) (orI ar (og (mv1 pt og (.mk op nn a t e) lv ar) a)) (upd x n (.mk op nn a t e) (mv1 pt og (.mk op nn a t e) lv ar) ar) (IntKind.i64.wrap (n + 1))
    else (upd x n (.mk op nn a t e) lv ar, IntKind.i64.wrap (n + 1))
def spL : List Sm' → List Int → Int → σ → Int → σ × Int
  | [], _, _, x, n => (x, n)
  | s :: l, lv, ar, x, n => spL l (mv1 pt og s lv ar) ar (sp1 s lv ar x n).1 (sp1 s lv ar x n).2
end
end
def updP {σ : Type} (upd : σ → Int → Sm' → List Int → Int → σ) (x : σ) (p : Pl) : σ := upd x p.1 p.2.1 p.2.2.1 p.2.2.2
mutual
theorem sp1_eq {w : Int} {vs : List Vr'} {pt : List Int → Int → Sm' → List Int} {og : List Int → List Ex' → Int} {σ : Type} (upd : σ → Int → Sm' → List Int → Int → σ) :
    ∀ (s : Sm') (lv : List Int) (ar : Int) (x : σ) (n : Int), rowB w vs s = true → 0 ≤ n → n + smN s < 1000000 → sp1 pt og upd s lv ar x n = ((pl1 pt og s lv ar n).foldl (updP upd) x, cnt1 s n)
  | .mk op nn a t e, lv, ar, x, n, hr, h0, h1 => by
    rw [rowB] at hr
    simp only [Bool.and_eq_true] at hr
    obtain ⟨⟨⟨hh, ht⟩, he⟩, _⟩ := hr
    have hc1 := cnt1_eq (.mk op nn a t e) n h0 h1
    rw [smN] at h1
    have hst := scs_le t
    have hse := scs_le e
    unfold headB at hh
    dsimp only at hh
    rw [sp1, pl1]
    have e2 : cntL t 0 = scs t := by rw [cntL_eq t 0 (by omega) (by omega)]; omega
    have e1 : cntL t (n + 1) = n + 1 + scs t := cntL_eq t _ (by omega) (by omega)
    by_cases o1 : op = 1
    · rw [if_pos o1, if_pos o1, wsm (n := n + 1) (by omega) (by omega), spL_eq upd t _ _ _ (n + 1) ht (by omega) (by omega)]
      dsimp only
      rw [e1, spL_eq upd e _ _ _ (n + 1 + scs t) he (by omega) (by omega), e2, wsm (n := n + 1 + _) (by omega) (by omega), hc1, sc1, cntL_eq e _ (by omega) (by omega), List.foldl_cons, List.foldl_append]
      congr 1; omega
    · rw [if_neg o1, if_neg o1]
      by_cases o2 : op = 2
      · rw [if_pos o2, if_pos o2, wsm (n := n + 1) (by omega) (by omega), spL_eq upd t _ _ _ (n + 1) ht (by omega) (by omega), e1, hc1, sc1]
        rw [if_neg (by omega), if_neg o1, if_pos o2] at hh
        simp only [Bool.and_eq_true, beq_iff_eq] at hh
        have : e = [] := List.length_eq_zero_iff.1 (by omega)
        subst this
        rw [List.foldl_cons, scs]
        congr 1; omega
      · rw [if_neg o2, if_neg o2]
        have hf : flatB t e = true := by
          rw [if_neg o1, if_neg o2] at hh
          split at hh
          · simp only [Bool.and_eq_true] at hh; exact hh.1
          split at hh
          · simp only [Bool.and_eq_true] at hh; exact hh.1.1.1
          split at hh
          · simp only [Bool.and_eq_true] at hh; exact hh.1
          split at hh
          · simp only [Bool.and_eq_true] at hh; exact hh.1.1
          · cases hh
        obtain ⟨q1, q2⟩ := flat_nil hf
        subst q1 q2
        rw [hc1, sc1, scs, wsm (by omega) (by omega)]
        simp only [List.foldl_cons, List.foldl_nil, updP]
        congr 1
theorem spL_eq {w : Int} {vs : List Vr'} {pt : List Int → Int → Sm' → List Int} {og : List Int → List Ex' → Int} {σ : Type} (upd : σ → Int → Sm' → List Int → Int → σ) :
    ∀ (l : List Sm') (lv : List Int) (ar : Int) (x : σ) (n : Int), rowsB w vs l = true → 0 ≤ n → n + smsN l < 1000000 → spL pt og upd l lv ar x n = ((plL pt og l lv ar n).foldl (updP upd) x, cntL l n)
  | [], lv, ar, x, n, hr, h0, h1 => by rw [spL, plL, cntL]; rfl
  | s :: l, lv, ar, x, n, hr, h0, h1 => by
    rw [rowsB, Bool.and_eq_true] at hr
    rw [smsN] at h1
    have := sc1_le s
    rw [spL, plL, cntL, sp1_eq upd s lv ar x n hr.1 h0 (by omega)]
    dsimp only
    rw [cnt1_eq s n h0 (by omega), spL_eq upd l _ ar _ _ hr.2 (by omega) (by omega), List.foldl_append]
end
/-! ### The two ways to say it -/
def ofH (lv : List Int) : List Ex' → Int
  | [] => 0
  | x :: _ => ofE lv x
def ofA (lv : List Int) (a : List Ex') : Int := ofEs lv 0 a
def fromP (lv : List Int) (ar op : Int) (a : List Ex') : Int := if op = 4 then orI (orI ar (ofEs lv 0 a)) 16 else orI ar (ofEs lv 0 a)
def putP (lv : List Int) (ar : Int) : Sm' → List Int
  | .mk op n a _ _ => if op = 0 ∨ op = 4 then (if a.length = 2 ∨ (op = 4 ∧ a.length = 1) then lv.set n.toNat (orI (lv.getD n.toNat 0) (fromP lv ar op a)) else lv.set n.toNat (fromP lv ar op a)) else lv
def keptI (vs : List Vr') (lv : List Int) (n : Int) : Int := if cellsAt vs n > 1 then lv.getD n.toNat 0 else 0
def putR (vs : List Vr') (lv : List Int) (ar : Int) : Sm' → List Int
  | .mk op n a _ _ => if op = 0 ∨ op = 4 then lv.set n.toNat (orI (fromP lv ar op a) (keptI vs lv n)) else lv
theorem fromP_B {lv : List Int} {ar : Int} (h : lvsB lv) (ha : lvB ar) (op : Int) (a : List Ex') : lvB (fromP lv ar op a) := by
  unfold fromP
  split
  · exact orI_B (orI_B ha (ofEs_B h a lvB0)) lvB16
  · exact orI_B ha (ofEs_B h a lvB0)
theorem keptI_B {lv : List Int} (h : lvsB lv) (vs : List Vr') (n : Int) : lvB (keptI vs lv n) := by
  unfold keptI
  split
  · exact lvsB_getD h _
  · exact lvB0
theorem mvP_ok (m : Nat) : Mv putP ofH m where
  pt lv ar s hl hb ha _ := by
    obtain ⟨op, n, a, t, e⟩ := s
    unfold putP
    dsimp only
    split
    · split
      · exact ⟨by simpa using hl, lvsB_set hb (orI_B (lvsB_getD hb _) (fromP_B hb ha op a)) _⟩
      · exact ⟨by simpa using hl, lvsB_set hb (fromP_B hb ha op a) _⟩
    · exact ⟨hl, hb⟩
  og lv a hb := by
    cases a with
    | nil => exact lvB0
    | cons x l => exact ofE_B hb x
theorem mvR_ok (vs : List Vr') (m : Nat) : Mv (putR vs) ofA m where
  pt lv ar s hl hb ha _ := by
    obtain ⟨op, n, a, t, e⟩ := s
    unfold putR
    dsimp only
    split
    · exact ⟨by simpa using hl, lvsB_set hb (orI_B (fromP_B hb ha op a) (keptI_B hb vs n)) _⟩
    · exact ⟨hl, hb⟩
  og lv a hb := ofEs_B hb a lvB0
theorem ofH_eq {lv : List Int} (hb : lvsB lv) {a : List Ex'} (h : ∃ x, a = [x]) : ofH lv a = ofA lv a := by
  obtain ⟨x, rfl⟩ := h
  unfold ofH ofA
  rw [ofEs, ofEs, orI_zero (ofE_B hb x)]
mutual
theorem row_vm {w : Int} {vs : List Vr'} : ∀ (s : Sm'), rowB w vs s = true → vm1 vs.length s
  | .mk op nn a t e, hr => by
    have hrd := row_rd _ hr
    rw [rdS1] at hrd
    rw [rowB] at hr
    simp only [Bool.and_eq_true] at hr
    obtain ⟨⟨⟨hh, ht⟩, he⟩, ha⟩ := hr
    rw [vm1]
    refine ⟨hrd.1, hrd.2.1, fun ho => ?_, rows_vm t ht, rows_vm e he⟩
    unfold headB at hh
    dsimp only at hh
    have hl : a.length = 1 := by
      rcases ho with ho | ho
      · rw [if_neg (by omega), if_pos ho] at hh
        simp only [Bool.and_eq_true, beq_iff_eq] at hh
        omega
      · rw [if_neg (by omega), if_neg (by omega), if_pos ho] at hh
        simp only [Bool.and_eq_true, beq_iff_eq] at hh
        omega
    cases a with
    | nil => simp at hl
    | cons x a => cases a with
      | nil => exact ⟨x, rfl⟩
      | cons y a => simp at hl
theorem rows_vm {w : Int} {vs : List Vr'} : ∀ (l : List Sm'), rowsB w vs l = true → vmL vs.length l
  | [], _ => trivial
  | s :: l, hr => by
    rw [rowsB, Bool.and_eq_true] at hr
    exact ⟨row_vm s hr.1, rows_vm l hr.2⟩
end
theorem put_eq {w : Int} {vs : List Vr'} {s : Sm'} (hr : rowB w vs s = true) {lv : List Int} {ar : Int} (hb : lvsB lv) (ha : lvB ar) : putP lv ar s = putR vs lv ar s := by
  obtain ⟨op, n, a, t, e⟩ := s
  rw [rowB] at hr
  simp only [Bool.and_eq_true] at hr
  obtain ⟨⟨⟨hh, _⟩, _⟩, _⟩ := hr
  unfold headB at hh
  dsimp only at hh
  unfold putP putR
  dsimp only
  have hB := fromP_B hb ha op a
  by_cases o0 : op = 0
  · rw [if_pos o0, Bool.and_eq_true] at hh
    have hv := hh.2
    unfold variableB at hv
    simp only [Bool.and_eq_true, beq_iff_eq] at hv
    have hv2 := hv.2
    have hp : op = 0 ∨ op = 4 := .inl o0
    simp only [if_pos hp]
    unfold keptI
    by_cases hc : cellsAt vs n > 1
    · rw [decide_eq_true hc] at hv2
      have : (a.length : Int) = 2 := by rw [hv2]; rfl
      rw [if_pos (.inl (by omega)), if_pos hc, orI_comm]
    · rw [decide_eq_false hc] at hv2
      have : (a.length : Int) = 1 := by rw [hv2]; rfl
      rw [if_neg (show ¬ (a.length = 2 ∨ (op = 4 ∧ a.length = 1)) by omega), if_neg hc, orI_zero' hB]
  by_cases o4 : op = 4
  · rw [if_neg o0, if_neg (by omega), if_neg (by omega), if_neg (by omega), if_pos o4, Bool.and_eq_true] at hh
    have hv := hh.2
    unfold variableB at hv
    simp only [Bool.and_eq_true, beq_iff_eq] at hv
    have hv2 := hv.2
    have hp : op = 0 ∨ op = 4 := .inr o4
    simp only [if_pos hp]
    unfold keptI
    by_cases hc : cellsAt vs n > 1
    · rw [decide_eq_true hc] at hv2
      have : (a.length : Int) = 1 := by rw [hv2]; rfl
      rw [if_pos (.inr ⟨o4, by omega⟩), if_pos hc, orI_comm]
    · rw [decide_eq_false hc] at hv2
      have : (a.length : Int) = 0 := by rw [hv2]; rfl
      rw [if_neg (show ¬ (a.length = 2 ∨ (op = 4 ∧ a.length = 1)) by omega), if_neg hc, orI_zero' hB]
  · rw [if_neg (by omega), if_neg (by omega)]
mutual
theorem mv1_eq {w : Int} {vs : List Vr'} : ∀ (s : Sm') (lv : List Int) (ar : Int), rowB w vs s = true → lv.length = vs.length → lvsB lv → lvB ar → mv1 putP ofH s lv ar = mv1 (putR vs) ofA s lv ar
  | .mk op n a t e, lv, ar, hr, hl, hb, ha => by
    have hr' := hr
    have hvm := row_vm _ hr
    rw [vm1] at hvm
    rw [rowB] at hr
    simp only [Bool.and_eq_true] at hr
    obtain ⟨⟨⟨_, ht⟩, he⟩, _⟩ := hr
    rw [mv1, mv1]
    by_cases o1 : op = 1
    · rw [if_pos o1, if_pos o1, ofH_eq hb (hvm.2.2.1 (.inl o1))]
      have hB : lvB (orI ar (ofA lv a)) := orI_B ha (ofEs_B hb a lvB0)
      rw [mvL_eq t lv _ ht hl hb hB, mvL_eq e lv _ he hl hb hB]
    · rw [if_neg o1, if_neg o1]
      by_cases o2 : op = 2
      · rw [if_pos o2, if_pos o2]
        refine fixN_congr (Q := fun x => x.length = vs.length ∧ lvsB x) (fun x hx => ?_) (fun x hx => ?_) _ _ ⟨hl, hb⟩
        · obtain ⟨q1, q2, _⟩ := round_ok (mvP_ok vs.length) hvm.2.2.2.1 ha a hx.1 hx.2
          exact ⟨q1, q2⟩
        · rw [ofH_eq hx.2 (hvm.2.2.1 (.inr o2)), mvL_eq t x _ ht hx.1 hx.2 (show lvB (orI ar (ofA x a)) from orI_B ha (ofEs_B hx.2 a lvB0))]
      · rw [if_neg o2, if_neg o2]
        exact put_eq hr' hb ha
theorem mvL_eq {w : Int} {vs : List Vr'} : ∀ (l : List Sm') (lv : List Int) (ar : Int), rowsB w vs l = true → lv.length = vs.length → lvsB lv → lvB ar → mvL putP ofH l lv ar = mvL (putR vs) ofA l lv ar
  | [], lv, ar, hr, hl, hb, ha => by rw [mvL, mvL]
  | s :: l, lv, ar, hr, hl, hb, ha => by
    rw [rowsB, Bool.and_eq_true] at hr
    rw [mvL, mvL, mv1_eq s lv ar hr.1 hl hb ha]
    obtain ⟨q1, q2⟩ := mv1_ok (mvR_ok vs vs.length) s lv ar hl hb ha (row_vm s hr.1)
    exact mvL_eq l _ ar hr.2 q1 q2 ha
end
mutual
theorem pl1_eq {w : Int} {vs : List Vr'} : ∀ (s : Sm') (lv : List Int) (ar n : Int), rowB w vs s = true → lv.length = vs.length → lvsB lv → lvB ar → pl1 putP ofH s lv ar n = pl1 (putR vs) ofA s lv ar n
  | .mk op nn a t e, lv, ar, n, hr, hl, hb, ha => by
    have hr' := hr
    have hvm := row_vm _ hr
    have hm := mv1_eq _ lv ar hr hl hb ha
    obtain ⟨q1, q2⟩ := mv1_ok (mvR_ok vs vs.length) _ lv ar hl hb ha hvm
    rw [vm1] at hvm
    rw [rowB] at hr
    simp only [Bool.and_eq_true] at hr
    obtain ⟨⟨⟨_, ht⟩, he⟩, _⟩ := hr
    rw [pl1, pl1]
    by_cases o1 : op = 1
    · have hB : lvB (orI ar (ofA lv a)) := orI_B ha (ofEs_B hb a lvB0)
      rw [if_pos o1, if_pos o1, ofH_eq hb (hvm.2.2.1 (.inl o1)), plL_eq t lv _ _ ht hl hb hB, plL_eq e lv _ _ he hl hb hB]
    · rw [if_neg o1, if_neg o1]
      by_cases o2 : op = 2
      · rw [if_pos o2, if_pos o2, hm, ofH_eq q2 (hvm.2.2.1 (.inr o2)), plL_eq t _ (orI ar (ofA (mv1 (putR vs) ofA (.mk op nn a t e) lv ar) a)) _ ht q1 q2 (orI_B ha (ofEs_B q2 a lvB0))]
      · rw [if_neg o2, if_neg o2]
theorem plL_eq {w : Int} {vs : List Vr'} : ∀ (l : List Sm') (lv : List Int) (ar n : Int), rowsB w vs l = true → lv.length = vs.length → lvsB lv → lvB ar → plL putP ofH l lv ar n = plL (putR vs) ofA l lv ar n
  | [], lv, ar, n, hr, hl, hb, ha => by rw [plL, plL]
  | s :: l, lv, ar, n, hr, hl, hb, ha => by
    rw [rowsB, Bool.and_eq_true] at hr
    obtain ⟨q1, q2⟩ := mv1_ok (mvR_ok vs vs.length) s lv ar hl hb ha (row_vm s hr.1)
    rw [plL, plL, pl1_eq s lv ar n hr.1 hl hb ha, mv1_eq s lv ar hr.1 hl hb ha, plL_eq l _ ar _ hr.2 q1 q2 ha]
end
end Go.Proofs.Ytelobnllkhnpaaa.L
/- Types that move, in the reference: Copy, with, kept, join, Same, behind, rows. -/
open Go Go.Proofs Go.Ev Go.Proofs.Ytelobnllkhnpaaa.E
namespace Go.Proofs.Ytelobnllkhnpaaa.L
set_option linter.unusedVariables false
set_option linter.unusedSimpArgs false
set_option maxHeartbeats 2000000
set_option maxRecDepth 100000

theorem frz_ic {H : Heap} {lo id T : Nat} {l : List Int} (hg : H[id]? = some (.cells T (ic l))) (hlo : lo ≤ id) : frz1 H lo (.sl id 1 0 l.length) = some (.vs 1 (intsC l)) := by
  unfold frz1
  dsimp only
  rw [hg]
  dsimp only
  rw [if_pos ⟨hlo, by rw [ic_len]; omega, ic_static l⟩, List.drop_zero, chunks_ic]
theorem hand_ic {h H : Heap} {id T : Nat} {l : List Int} (hg : H[id]? = some (.cells T (ic l))) (hlo : h.length ≤ id) : hand true h (.sl id 1 0 l.length) H = some (.vs 1 (intsC l), h) := by
  have h1 : frz H h.length (.sl id 1 0 l.length) = some (.vs 1 (intsC l)) := frz_ic hg hlo
  unfold hand
  rw [if_pos rfl, h1]
theorem frz_rows {H : Heap} {lo id T sz : Nat} (rows : List (List AV)) (hr : ∀ r, r ∈ rows → r.length = sz ∧ ∀ x, x ∈ r → static x = true) (hg : H[id]? = some (.cells T rows.flatten)) (hlo : lo ≤ id) : frz1 H lo (.sl id sz 0 rows.length) = some (.vs sz rows) := by
  have hlen : ∀ q, q ∈ rows → q.length = sz := fun q hq => (hr q hq).1
  have hst : rows.flatten.all static = true := by
    rw [List.all_eq_true]
    intro x hx
    obtain ⟨q, h1, h2⟩ := List.mem_flatten.1 hx
    exact (hr q h1).2 x h2
  unfold frz1
  dsimp only
  rw [hg]
  dsimp only
  rw [if_pos ⟨hlo, by rw [flat_len _ hlen]; omega, hst⟩, List.drop_zero, chunks_flat _ hlen]
theorem acc_frzA {h : Heap} {e sz : Nat} (rows : List (List AV)) (hr : ∀ r, r ∈ rows → r.length = sz ∧ ∀ x, x ∈ r → static x = true) : frz1 (accH h e rows) h.length (accA h sz rows) = some (accV sz rows) := by
  cases rows with
  | nil => rfl
  | cons r l => exact frz_rows (T := e) (r :: l) hr (by simp [accH]) (Nat.le_refl _)
theorem hand_two {h H : Heap} {a b a' b' : AV} (h1 : frz1 H h.length a = some a') (h2 : frz1 H h.length b = some b') (n1 : ∀ xs, a ≠ .agg xs) (n2 : ∀ xs, b ≠ .agg xs) : hand true h (.tup [a, b]) H = some (.tup [a', b'], h) := by
  have q1 : frz2 H h.length a = some a' := by
    unfold frz2
    split
    · exact absurd rfl (n1 _)
    · exact h1
  have q2 : frz2 H h.length b = some b' := by
    unfold frz2
    split
    · exact absurd rfl (n2 _)
    · exact h2
  unfold hand
  rw [if_pos rfl]
  simp only [frz, frzM, q1, q2]
theorem append_slV {tab : Tab} {lo : Nat} {h : Heap} {t e id len : Nat} {ti : TI} {sz0 by_ : Nat} {zr xs : List AV} (ht : Go.Ev.look tab t = some ⟨.slice e, sz0, by_, zr⟩) (he : Go.Ev.look tab e = some ti) (hg : h[id]? = some (.cells e xs)) (hlo : lo ≤ id) (hlen : len * ti.sz = xs.length) (hsz : 0 < ti.sz)
    (more : List (List AV)) (r1 : (len + more.length) * ti.bytes ≤ room) (r2 : len + more.length ≤ room) :
    append tab lo h t (.sl id ti.sz 0 len) (accV ti.sz more) = some (.sl id ti.sz 0 (len + more.length), h.set id (.cells e (xs ++ more.flatten))) := by
  unfold append
  rw [ht]
  dsimp only
  rw [he]
  dsimp only
  have hrow : rowOf h ti.sz (accV ti.sz more) = some more.flatten := by cases more <;> simp [rowOf, accV]
  have hl : lenOf (accV ti.sz more) = some more.length := by cases more <;> simp [lenOf, accV]
  rw [hrow, hl]
  dsimp only
  rw [hg]
  dsimp only
  rw [if_pos ⟨hlo, by trivial, by trivial, by trivial, hlen, hsz, r1, r2⟩]

def accI1 (h : Heap) (l : List Int) : AV := accA h 1 (intsC l)
theorem intsC_accA {h : Heap} {l : List Int} (hne : l ≠ []) : accA h 1 (intsC l) = .sl h.length 1 0 l.length := by
  cases l with
  | nil => exact absurd rfl hne
  | cons a l => simp [intsC, accA]
theorem intsC_accH {h : Heap} {T : Nat} {l : List Int} (hne : l ≠ []) : accH h T (intsC l) = h ++ [.cells T (ic l)] := by
  have := ic_flat l
  cases l with
  | nil => exact absurd rfl hne
  | cons a l => rw [← this]; rfl
theorem int_appendL (h : Heap) (lo : Nat) (hlo : lo ≤ h.length) (l : List Int) (v : Int) (hl : l.length < 1000000) : append cfg.tab lo (accH h 3 (intsC l)) 38 (accA h 1 (intsC l)) (.vs 1 [[.int .i64 v]]) = some (accA h 1 (intsC (l ++ [v])), accH h 3 (intsC (l ++ [v]))) := by
  have := acc_append (tab := cfg.tab) (lo := lo) (h := h) (t := 38) (e := 3) rfl rfl (by decide) hlo (intsC l) [[.int .i64 v]] (fun r hr => (intsC_row l r hr).1) (by rw [intsC_len]; simp only [List.length_cons, List.length_nil, room]; show (l.length + (0 + 1)) * 8 ≤ _; omega) (by rw [intsC_len]; simp [room]; omega)
  rw [this]
  simp [intsC]

def cpS (h : Heap) (lo : Nat) (l : List Int) (i : Int) (a : List Int) : St :=
  { env := [(0, .v (.vs 1 (intsC l))), (3, .v (accA h 1 (intsC a))), (4, .v (.int .i64 i))], loc := [], heap := accH h 3 (intsC a), inRound := false, lo := lo }
theorem intsC_get' {l : List Int} {i : Nat} {n : Int} (h : l[i]? = some n) : (intsC l)[i]? = some [.int .i64 n] := by simp [intsC, h]
theorem lt_intsL {l : List Int} {i : Nat} (h : i < l.length) : decide ((i : Int) < ((intsC l).length : Int)) = true := decide_eq_true (by rw [intsC_len]; omega)
theorem ge_intsL {l : List Int} : decide ((l.length : Int) < ((intsC l).length : Int)) = false := decide_eq_false (by rw [intsC_len]; omega)
theorem wcopy_run (l : List Int) (hl : l.length < 100000) (k : Nat) (hk : l.length + 2 < k) (h : Heap) (lo : Nat) (hlo : lo ≤ h.length) :
    call Try.prog cfg (k + 1) lo (.func 38) [.vs 1 (intsC l)] h = some (accA h 1 (intsC l), accH h 3 (intsC l)) := by
  apply W_call Try.func38 rfl (Nat.le_of_ble_eq_true rfl) rfl rfl
  (repeat' (first | apply W_seq | refine W_true rfl rfl ?_ | refine W_false rfl rfl ?_ | refine W_region (id := 0) rfl rfl ?_ | refine W_region (id := 1) rfl rfl ?_ | refine W_region (id := 2) rfl rfl ?_ | apply W_skip | apply W_block | apply W_ret | apply W_exit | refine W_true rfl (by assumption) ?_ | refine W_false rfl (by assumption) ?_ | refine W_cond rfl (fun _ => ?_) (fun _ => ?_)))
  apply W_iterI (S := cpS h lo l) (l := l) (a0 := []) (fun i rest a => a ++ rest = l ∧ a.length = i) (by omega) (by omega) rfl ⟨rfl, rfl⟩
  · intro i v rest a hi hd hil hJ
    have hrow := intsC_get' hi
    have hlt := lt_intsL hil
    have hap := int_appendL h lo hlo a v (by omega)
    (repeat' (first | apply W_seq | refine W_true rfl rfl ?_ | refine W_false rfl rfl ?_ | (refine W_ops (id := 3) rfl ?_ <;> refine T_ch 3 rfl ?_ <;> (refine T_go rfl ?_; refine G_true rfl (by with_reducible assumption) ?_) <;> apply T_nil) | refine W_region (id := 4) rfl rfl ?_ | (refine W_ops (id := 5) rfl ?_ <;> refine T_ch 3 rfl ?_ <;> (refine T_go rfl ?_; refine G_op (O_index rfl rfl rfl rfl rfl (by assumption)) ?_) <;> (refine T_go rfl ?_; refine G_op rfl ?_) <;> refine T_ch 1 rfl ?_ <;> (refine T_go rfl ?_; refine G_op (O_append rfl rfl rfl rfl rfl (by assumption)) ?_) <;> refine T_ch 1 rfl ?_ <;> apply T_nil) | apply W_skip | apply W_block | apply W_ret | apply W_exit | refine W_true rfl (by assumption) ?_ | refine W_false rfl (by assumption) ?_ | refine W_cond rfl (fun _ => ?_) (fun _ => ?_)))
    exact ⟨a ++ [v], rfl, by rw [← hJ.1]; simp, by simp [hJ.2]⟩
  · intro a hJ
    have hlt := ge_intsL (l := l)
    have : a = l := by simpa using hJ.1
    subst this
    (repeat' (first | apply W_seq | refine W_true rfl rfl ?_ | refine W_false rfl rfl ?_ | (refine W_ops (id := 3) rfl ?_ <;> refine T_ch 3 rfl ?_ <;> (refine T_go rfl ?_; refine G_false rfl (by with_reducible assumption) ?_) <;> apply T_nil) | refine W_region (id := 6) rfl rfl ?_ | apply W_skip | apply W_block | apply W_ret | apply W_exit | refine W_true rfl (by assumption) ?_ | refine W_false rfl (by assumption) ?_ | refine W_cond rfl (fun _ => ?_) (fun _ => ?_)))
    exact ⟨.inl rfl, rfl⟩
theorem with_run (l : List Int) (v n : Int) (hv : 0 ≤ v ∧ v < l.length) (hl : l.length < 100000) (k : Nat) (hk : l.length + 4 < k) (h : Heap) (lo : Nat) :
    call Try.prog cfg (k + 1) lo (.func 100) [.vs 1 (intsC l), .int .i64 v, .int .i64 n] h = some (.vs 1 (intsC (l.set v.toNat n)), h) := by
  have hne : l ≠ [] := fun e => by subst e; simp at hv; omega
  have hc := wcopy_run l hl (k - 1) (by omega) h h.length (Nat.le_refl _)
  rw [show k - 1 + 1 = k by omega, intsC_accA hne, intsC_accH hne] at hc
  have hH : (h ++ [HObj.cells 3 (ic l)])[h.length]? = some (.cells 3 (ic l)) := by simp
  have hj : 0 ≤ v ∧ v.toNat < l.length := ⟨hv.1, by omega⟩
  have h2 : 0 + l.length * 1 = (ic l).length := by rw [ic_len]; omega
  have h3 : h.length ≤ h.length ∧ (ic l).length = (ic l).length ∧ ([AV.int .i64 n] : List AV).length = 1 ∧ (0 + v.toNat * 1) + 1 ≤ (ic l).length := ⟨Nat.le_refl _, rfl, rfl, by rw [ic_len]; omega⟩
  have hfin := hand_ic (h := h) (H := (h ++ [HObj.cells 3 (ic l)]).set h.length (.cells 3 (ic (l.set v.toNat n)))) (id := h.length) (T := 3) (l := l.set v.toNat n) (by simp) (Nat.le_refl _)
  rw [List.length_set, ← ic_set n hj.2] at hfin
  have e1 : v.toNat = 0 + v.toNat * 1 := by omega
  rw [show setCells (ic l) v.toNat [.int .i64 n] = setCells (ic l) (0 + v.toNat * 1) [.int .i64 n] by rw [← e1]] at hfin
  apply W_call Try.func100 rfl (Nat.le_of_ble_eq_true rfl) rfl rfl
  (repeat' (first | apply W_seq | refine W_true rfl rfl ?_ | refine W_false rfl rfl ?_ | refine W_region (id := 0) rfl rfl ?_ | (refine W_ops (id := 1) rfl ?_ <;> refine T_ch 1 rfl ?_ <;> (refine T_go rfl ?_; refine G_op (O_call rfl rfl rfl rfl (by assumption)) ?_) <;> refine T_ch 1 rfl ?_ <;> apply T_nil) | (refine W_ops (id := 2) rfl ?_ <;> refine T_ch 3 rfl ?_ <;> (refine T_go rfl ?_; refine G_op (O_indexHI rfl rfl rfl rfl rfl (by assumption) (by assumption) (by assumption)) ?_) <;> (refine T_go rfl ?_; refine G_op (O_storeH rfl rfl rfl rfl (by assumption) (by assumption)) ?_) <;> apply T_nil) | refine W_region (id := 3) rfl rfl ?_ | apply W_skip | apply W_block | apply W_ret | apply W_exit | refine W_true rfl (by assumption) ?_ | refine W_false rfl (by assumption) ?_ | refine W_cond rfl (fun _ => ?_) (fun _ => ?_)))
  exact ⟨.inl rfl, hfin⟩
theorem kept_run (vs : List Vr') (lv : List Int) (v : Int) (h1 : 0 ≤ v ∧ v < vs.length) (h2 : lv.length = vs.length) (k : Nat) (h : Heap) (lo : Nat) :
    call Try.prog cfg (k + 1) lo (.func 142) [.vs 3 (vsC vs), .vs 1 (intsC lv), .int .i64 v] h = some (.int .i64 (keptI vs lv v), h) := by
  obtain ⟨x, hx, hrow⟩ := vsC_at h1.1 h1.2
  have hr2 := intsC_at (l := lv) (n := v) ⟨h1.1, by omega⟩
  have hc : cellsAt vs v = x.cells := by unfold cellsAt; rw [hx]
  unfold keptI
  rw [hc]
  obtain ⟨nm, level, cells⟩ := x
  apply W_call Try.func142 rfl (Nat.le_of_ble_eq_true rfl) rfl rfl
  (repeat' (first | apply W_seq | refine W_true rfl rfl ?_ | refine W_false rfl rfl ?_ | refine W_region (id := 0) rfl rfl ?_ | (refine W_ops (id := 1) rfl ?_ <;> refine T_ch 2 rfl ?_ <;> (refine T_go rfl ?_; refine G_op (O_indexI rfl rfl rfl rfl rfl (by assumption)) ?_) <;> refine T_ch 1 rfl ?_ <;> (refine T_go rfl ?_; refine G_op rfl ?_) <;> (refine T_go rfl ?_; refine G_split rfl (fun _ => ?_) (fun _ => ?_)) <;> apply T_nil) | (refine W_ops (id := 2) rfl ?_ <;> refine T_ch 2 rfl ?_ <;> (refine T_go rfl ?_; refine G_op (O_indexI rfl rfl rfl rfl rfl (by assumption)) ?_) <;> (refine T_go rfl ?_; refine G_op rfl ?_) <;> refine T_ch 1 rfl ?_ <;> apply T_nil) | refine W_region (id := 3) rfl rfl ?_ | apply W_skip | apply W_block | apply W_ret | apply W_exit | refine W_true rfl (by assumption) ?_ | refine W_false rfl (by assumption) ?_ | refine W_cond rfl (fun _ => ?_) (fun _ => ?_)))
  · rename_i hd
    simp only [decide_eq_true_eq] at hd
    exact ⟨.inl rfl, by rw [if_pos hd]; rfl⟩
  · rename_i hd
    simp only [decide_eq_false_iff_not] at hd
    exact ⟨.inl rfl, by rw [if_neg hd]; rfl⟩

def jnS (h : Heap) (x y : List Int) (i : Int) (a : List Int) : St :=
  { env := [(0, .v (.vs 1 (intsC x))), (1, .v (.vs 1 (intsC y))), (5, .v (accA h 1 (intsC a))), (6, .v (.int .i64 i))], loc := [], heap := accH h 3 (intsC a), inRound := false, lo := h.length }
theorem join_run (x y : List Int) (hxy : x.length = y.length) (hne : x ≠ []) (hl : x.length < 100000) (k : Nat) (hk : x.length + 2 < k) (h : Heap) (lo : Nat) :
    call Try.prog cfg (k + 1) lo (.func 143) [.vs 1 (intsC x), .vs 1 (intsC y)] h = some (.vs 1 (intsC (joinL x y)), h) := by
  have hjl := joinL_len hxy
  have hfin := acc_frz (h := h) (e := 3) (sz := 1) (intsC (joinL x y)) (intsC_row _)
  have hne' : joinL x y ≠ [] := fun e => by
    rw [e] at hjl
    cases x with
    | nil => exact hne rfl
    | cons a l => simp at hjl
  have hacc : accV 1 (intsC (joinL x y)) = .vs 1 (intsC (joinL x y)) := by
    generalize joinL x y = z at hne'
    cases z with
    | nil => exact absurd rfl hne'
    | cons a l => rfl
  rw [hacc] at hfin
  apply W_call Try.func143 rfl (Nat.le_of_ble_eq_true rfl) rfl rfl
  (repeat' (first | apply W_seq | refine W_true rfl rfl ?_ | refine W_false rfl rfl ?_ | refine W_region (id := 0) rfl rfl ?_ | refine W_region (id := 1) rfl rfl ?_ | refine W_region (id := 2) rfl rfl ?_ | apply W_skip | apply W_block | apply W_ret | apply W_exit | refine W_true rfl (by assumption) ?_ | refine W_false rfl (by assumption) ?_ | refine W_cond rfl (fun _ => ?_) (fun _ => ?_)))
  apply W_iterI (S := jnS h x y) (l := x) (a0 := []) (fun i rest a => a ++ joinL rest (y.drop i) = joinL x y ∧ a.length = i) (by omega) (by omega) rfl ⟨rfl, rfl⟩
  · intro i v rest a hi hd hil hJ
    have hrow := intsC_get' hi
    have hiy : i < y.length := by omega
    have hy : y[i]? = some y[i] := List.getElem?_eq_getElem hiy
    have hrow2 := intsC_get' hy
    have hlt := lt_intsL hil
    have hO := or_run (k - 1) (accH h 3 (intsC a)).length v y[i] (accH h 3 (intsC a))
    rw [show k - 1 + 1 = k by omega] at hO
    have hap := int_appendL h h.length (Nat.le_refl _) a (orI v y[i]) (by omega)
    (repeat' (first | apply W_seq | refine W_true rfl rfl ?_ | refine W_false rfl rfl ?_ | (refine W_ops (id := 3) rfl ?_ <;> refine T_ch 3 rfl ?_ <;> (refine T_go rfl ?_; refine G_true rfl (by with_reducible assumption) ?_) <;> apply T_nil) | refine W_region (id := 4) rfl rfl ?_ | (refine W_dops (id := 5) (bs := [0, 0, 0, 6, 14, 0, 0, 96, 224, 510, 1022, 2047, 4095]) rfl (by decide +kernel) ?_ <;> (refine U_go rfl ?_; refine H_free (by decide +kernel) rfl rfl rfl rfl rfl ?_) <;> (refine U_go rfl ?_; refine H_free (by decide +kernel) rfl rfl rfl rfl rfl ?_) <;> (refine U_go rfl ?_; refine H_free (by decide +kernel) rfl rfl rfl rfl rfl ?_) <;> (refine U_go rfl ?_; refine H_free (by decide +kernel) rfl (O_index rfl rfl rfl rfl rfl (by assumption)) rfl rfl rfl ?_) <;> (refine U_go rfl ?_; refine H_free (by decide +kernel) rfl rfl rfl rfl rfl ?_) <;> (refine U_go rfl ?_; refine H_free (by decide +kernel) rfl rfl rfl rfl rfl ?_) <;> (refine U_go rfl ?_; refine H_free (by decide +kernel) rfl rfl rfl rfl rfl ?_) <;> (refine U_go rfl ?_; refine H_free (by decide +kernel) rfl (O_index rfl rfl rfl rfl rfl (by assumption)) rfl rfl rfl ?_) <;> (refine U_go rfl ?_; refine H_free (by decide +kernel) rfl rfl rfl rfl rfl ?_) <;> (refine U_go rfl ?_; refine H_free (by decide +kernel) rfl (O_call rfl rfl rfl rfl (by assumption)) rfl rfl rfl ?_) <;> (refine U_go rfl ?_; refine H_free (by decide +kernel) rfl rfl rfl rfl rfl ?_) <;> (refine U_go rfl ?_; refine H_op (by decide +kernel) (O_append rfl rfl rfl rfl rfl (by assumption)) ?_) <;> (refine U_go rfl ?_; refine H_op (by decide +kernel) rfl ?_) <;> apply U_nil) | apply W_skip | apply W_block | apply W_ret | apply W_exit | refine W_true rfl (by assumption) ?_ | refine W_false rfl (by assumption) ?_ | refine W_cond rfl (fun _ => ?_) (fun _ => ?_)))
    exact ⟨a ++ [orI v y[i]], rfl, by
      rw [← hJ.1, List.drop_eq_getElem_cons hiy]
      unfold joinL
      rw [List.zipWith_cons_cons, List.append_assoc]; rfl, by simp [hJ.2]⟩
  · intro a hJ
    have hlt := ge_intsL (l := x)
    have : a = joinL x y := by simpa [joinL] using hJ.1
    subst this
    (repeat' (first | apply W_seq | refine W_true rfl rfl ?_ | refine W_false rfl rfl ?_ | (refine W_ops (id := 3) rfl ?_ <;> refine T_ch 3 rfl ?_ <;> (refine T_go rfl ?_; refine G_false rfl (by with_reducible assumption) ?_) <;> apply T_nil) | refine W_region (id := 6) rfl rfl ?_ | apply W_skip | apply W_block | apply W_ret | apply W_exit | refine W_true rfl (by assumption) ?_ | refine W_false rfl (by assumption) ?_ | refine W_cond rfl (fun _ => ?_) (fun _ => ?_)))
    exact ⟨.inl rfl, hfin⟩
def wsS (h : Heap) (x y : AV) (i : Int) (_ : Unit) : St :=
  { env := [(0, .v x), (1, .v y), (5, .v (.int .i64 i))], loc := [], heap := h, inRound := false, lo := h.length }
theorem wsame_run (x y : List Int) (hl : x.length < 100000) (k : Nat) (hk : x.length + 2 < k) (h : Heap) (lo : Nat) :
    call Try.prog cfg (k + 1) lo (.func 25) [.vs 1 (intsC x), .vs 1 (intsC y)] h = some (.bool (decide (x = y)), h) := by
  cases hc : (((intsC x).length : Int) != ((intsC y).length : Int)) with
  | true =>
    have : x ≠ y := fun e => by subst e; simp at hc
    rw [decide_eq_false this]
    apply W_call Try.func25 rfl (Nat.le_of_ble_eq_true rfl) rfl rfl
    (repeat' (first | apply W_seq | refine W_true rfl rfl ?_ | refine W_false rfl rfl ?_ | refine W_region (id := 0) rfl rfl ?_ | (refine W_ops (id := 1) rfl ?_ <;> refine T_ch 4 rfl ?_ <;> (refine T_go rfl ?_; refine G_true rfl (by with_reducible assumption) ?_) <;> apply T_nil) | refine W_region (id := 2) rfl rfl ?_ | apply W_skip | apply W_block | apply W_ret | apply W_exit | refine W_true rfl (by assumption) ?_ | refine W_false rfl (by assumption) ?_ | refine W_cond rfl (fun _ => ?_) (fun _ => ?_)))
    exact ⟨.inl rfl, rfl⟩
  | false =>
    have hxy : x.length = y.length := by
      simp only [intsC_len, bne_eq_false_iff_eq] at hc
      omega
    apply W_call Try.func25 rfl (Nat.le_of_ble_eq_true rfl) rfl rfl
    (repeat' (first | apply W_seq | refine W_true rfl rfl ?_ | refine W_false rfl rfl ?_ | refine W_region (id := 0) rfl rfl ?_ | (refine W_ops (id := 1) rfl ?_ <;> refine T_ch 4 rfl ?_ <;> (refine T_go rfl ?_; refine G_false rfl (by with_reducible assumption) ?_) <;> apply T_nil) | refine W_region (id := 3) rfl rfl ?_ | apply W_skip | apply W_block | apply W_ret | apply W_exit | refine W_true rfl (by assumption) ?_ | refine W_false rfl (by assumption) ?_ | refine W_cond rfl (fun _ => ?_) (fun _ => ?_)))
    apply W_iterI (S := wsS h (.vs 1 (intsC x)) (.vs 1 (intsC y))) (l := x) (a0 := ()) (fun i rest _ => (rest = y.drop i) = (x = y)) (by omega) (by omega) rfl (by simp)
    · intro i v rest a hi hd hil hJ
      have hrow := intsC_get' hi
      have hiy : i < y.length := by omega
      have hy : y[i]? = some y[i] := List.getElem?_eq_getElem hiy
      have hrow2 := intsC_get' hy
      have hlt := lt_intsL hil
      rw [List.drop_eq_getElem_cons hiy, List.cons.injEq] at hJ
      (repeat' (first | apply W_seq | refine W_true rfl rfl ?_ | refine W_false rfl rfl ?_ | (refine W_ops (id := 4) rfl ?_ <;> refine T_ch 3 rfl ?_ <;> (refine T_go rfl ?_; refine G_true rfl (by with_reducible assumption) ?_) <;> apply T_nil) | refine W_region (id := 5) rfl rfl ?_ | (refine W_dops (id := 6) (bs := [0, 0, 3, 7, 0, 0, 48, 112, 255]) rfl (by decide +kernel) ?_ <;> (refine U_go rfl ?_; refine H_free (by decide +kernel) rfl rfl rfl rfl rfl ?_) <;> (refine U_go rfl ?_; refine H_free (by decide +kernel) rfl rfl rfl rfl rfl ?_) <;> (refine U_go rfl ?_; refine H_free (by decide +kernel) rfl (O_index rfl rfl rfl rfl rfl (by assumption)) rfl rfl rfl ?_) <;> (refine U_go rfl ?_; refine H_free (by decide +kernel) rfl rfl rfl rfl rfl ?_) <;> (refine U_go rfl ?_; refine H_free (by decide +kernel) rfl rfl rfl rfl rfl ?_) <;> (refine U_go rfl ?_; refine H_free (by decide +kernel) rfl rfl rfl rfl rfl ?_) <;> (refine U_go rfl ?_; refine H_free (by decide +kernel) rfl (O_index rfl rfl rfl rfl rfl (by assumption)) rfl rfl rfl ?_) <;> (refine U_go rfl ?_; refine H_free (by decide +kernel) rfl rfl rfl rfl rfl ?_) <;> (refine U_go rfl ?_; refine H_split (by decide +kernel) rfl (fun _ => ?_) (fun _ => ?_)) <;> apply U_nil) | refine W_region (id := 7) rfl rfl ?_ | apply W_skip | apply W_block | apply W_ret | apply W_exit | refine W_true rfl (by assumption) ?_ | refine W_false rfl (by assumption) ?_ | refine W_cond rfl (fun _ => ?_) (fun _ => ?_)))
      · rename_i hne
        simp only [bne_iff_ne, ne_eq] at hne
        refine ⟨.inl rfl, Eq.trans (b := some (AV.bool false, _)) rfl ?_⟩
        rw [decide_eq_false (by rw [← hJ]; exact fun e => hne e.1)]
      · rename_i hne
        simp only [bne_eq_false_iff_eq] at hne
        exact ⟨(), rfl, by rw [← hJ]; simp [hne]⟩
    · intro a hJ
      have hlt := ge_intsL (l := x)
      (repeat' (first | apply W_seq | refine W_true rfl rfl ?_ | refine W_false rfl rfl ?_ | (refine W_ops (id := 4) rfl ?_ <;> refine T_ch 3 rfl ?_ <;> (refine T_go rfl ?_; refine G_false rfl (by with_reducible assumption) ?_) <;> apply T_nil) | refine W_region (id := 8) rfl rfl ?_ | apply W_skip | apply W_block | apply W_ret | apply W_exit | refine W_true rfl (by assumption) ?_ | refine W_false rfl (by assumption) ?_ | refine W_cond rfl (fun _ => ?_) (fun _ => ?_)))
      refine ⟨.inl rfl, Eq.trans (b := some (AV.bool true, _)) rfl ?_⟩
      rw [decide_eq_true (by rw [← hJ, hxy]; simp)]
end Go.Proofs.Ytelobnllkhnpaaa.L
