/- The law LevelClaims. -/
import Derived.Test.YtelobnllkhnpaaaK5
import Derived.ChangeShapes
open Go Go.Proofs Go.Ev Go.Proofs.Ytelobnllkhnpaaa.E
namespace Go.Proofs.Ytelobnllkhnpaaa.L
set_option linter.unusedVariables false
set_option linter.unusedSimpArgs false
set_option maxHeartbeats 2000000
set_option maxRecDepth 100000

theorem headRF_vars (all : List Vr') : ∀ (l : List Vr') (i s : Int), headRF all l i s = true → ∀ v, v ∈ l → 1 ≤ v.cells ∧ v.cells ≤ 8
  | [], _, _, _, v, hv => by cases hv
  | u :: r, i, s, h, v, hv => by
    rw [headRF] at h
    simp only [Bool.and_eq_true] at h
    rcases List.mem_cons.mp hv with e | hv
    · rw [e]
      have := h.1.1.2
      simp only [varB, Bool.and_eq_true, Bool.not_eq_true', decide_eq_false_iff_not] at this
      omega
    · exact headRF_vars all r _ _ h.2 v hv
theorem isP_vars {p : Pr'} (h : isP p = true) : ∀ v, v ∈ p.vars → 1 ≤ v.cells ∧ v.cells ≤ 8 := by
  unfold isP at h
  simp only [Bool.and_eq_true] at h
  have h2 := h.1.1.1
  unfold headRB at h2
  simp only [Bool.and_eq_true] at h2
  exact headRF_vars _ _ _ _ h2.2
theorem tot_le : ∀ (l : List Vr'), (∀ v, v ∈ l → 1 ≤ v.cells ∧ v.cells ≤ 8) → tot l ≤ 8 * l.length
  | [], _ => by simp [tot]
  | v :: l, h => by
    have h1 := tot_le l (fun u hu => h u (List.mem_cons_of_mem _ hu))
    have h2 := h v List.mem_cons_self
    rw [tot, List.length_cons]
    omega
theorem range_may (p : Pr') (l : List Int) : rangeB p l 31 = mayB p.vars l := by
  unfold rangeB mayB
  rw [Bool.and_comm]
  rfl
theorem isE_fits {w : Int} {vs : List Vr'} {c : Int} {e : Ex'} (h : isE w vs c e = true) : fitsE e 600 = true := by
  rw [isE_eq] at h
  simp only [Bool.and_eq_true, decide_eq_true_eq] at h
  rw [fitsE_eq _ _ (by omega) (by omega)]
  exact decide_eq_true (by omega)
theorem claimO_f {p : Pr'} {low : Int} {l1 l2 : List Int} (h : chkI p ≠ 0) : claimO p low l1 l2 = (zC, chkI p) := by
  unfold claimO
  rw [if_pos (by simpa using h)]
theorem claimO_bad {p : Pr'} {low : Int} {l1 l2 : List Int} (h : chkI p = 0) (hb : (lowB low || !mayB p.vars l1 || !mayB p.vars l2) = true) : claimO p low l1 l2 = (zC, 1) := by
  unfold claimO
  rw [h, if_neg (by simp), if_pos hb]
theorem claimO_ok {p : Pr'} {low : Int} {l1 l2 : List Int} (h : chkI p = 0) (hb : (lowB low || !mayB p.vars l1 || !mayB p.vars l2) = false) : claimO p low l1 l2 = clmI p.width p.vars low l1 l2 := by
  unfold claimO
  rw [h, if_neg (by simp), if_neg (by rw [hb]; simp)]
/-- A claim as the law looks at it: its halves taken apart. -/
theorem clmI_two (w : Int) (vs : List Vr') (low : Int) (l1 l2 : List Int) (hh : headPB w vs = true) :
    ((isE w vs 2 (halfE vs low l1) && isE w vs 2 (halfE vs low l2)) = true ∧ clmI w vs low l1 l2 = (clC 2 (halfE vs low l1) (halfE vs low l2) low 1, 0)) ∨
    ((isE w vs 2 (halfE vs low l1) && isE w vs 2 (halfE vs low l2)) = false ∧ clmI w vs low l1 l2 = (zC, 2)) := by
  rw [clmI_eq _ _ _ _ _ hh]
  cases isE w vs 2 (halfE vs low l1) && isE w vs 2 (halfE vs low l2)
  · exact .inr ⟨rfl, rfl⟩
  · exact .inl ⟨rfl, rfl⟩
set_option maxHeartbeats 2000000 in
theorem levelClaims_run (p : Pr') (low : Int) (l1 l2 : List Int) (k : Nat) (hk : smsK p.body + p.vars.length + l1.length + l2.length + 5000 ≤ k) (hb : prB p) (hl1 : l1.length < 9223372036854775808) (hl2 : l2.length < 9223372036854775808) (h : Heap) (lo : Nat) :
    call Try.prog cfg (k + 1) lo (.func 8) [.agg (prC p), .int .i64 low, .vs 1 (intsC l1), .vs 1 (intsC l2)] h = some (.bool true, h) := by
  have hA := awake_run k h.length h (by omega)
  have h1 := fitsS_run (k - 1) h h.length p.body (by omega) hb.2.1 hb.2.2 600
  rw [show k - 1 + 1 = k by omega] at h1
  cases hf : fitsS p.body 600 with
  | false =>
    rw [hf] at h1
    obtain ⟨w, vs, body⟩ := p
    apply W_call Try.func8 rfl (Nat.le_of_ble_eq_true rfl) rfl rfl
    (repeat' (first | apply W_seq | refine W_true rfl rfl ?_ | refine W_false rfl rfl ?_ | refine W_region (id := 0) rfl rfl ?_ | (refine W_ops (id := 1) rfl ?_ <;> refine T_ch 2 rfl ?_ <;> (refine T_go rfl ?_; refine G_false (O_call rfl rfl rfl rfl (by assumption)) rfl ?_) <;> refine T_ch 1 rfl ?_ <;> apply T_nil) | (refine W_ops (id := 2) rfl ?_ <;> (refine T_go rfl ?_; refine G_true (O_call rfl rfl rfl rfl (by assumption)) rfl ?_) <;> refine T_ch 1 rfl ?_ <;> apply T_nil) | apply W_skip | apply W_block | apply W_ret | apply W_exit | refine W_true rfl (by assumption) ?_ | refine W_false rfl (by assumption) ?_ | refine W_cond rfl (fun _ => ?_) (fun _ => ?_)))
    all_goals exact ⟨.inl rfl, rfl⟩
  | true =>
  rw [hf] at h1
  have hK := fits_K hf
  have hN : smsN p.body ≤ 600 := by
    rw [fitsS_eq _ _ (by omega) (by omega)] at hf
    have := of_decide_eq_true hf
    omega
  have hcq := chk_eq p hN
  have hsz : faultI p = 0 → (∀ v, v ∈ p.vars → 1 ≤ v.cells ∧ v.cells ≤ 8) ∧ p.vars.length ≤ 18 ∧ headPB p.width p.vars = true := by
    intro hz
    rcases faultI_cases p with ⟨_, hP, _⟩ | h' | h'
    · obtain ⟨q0, q1, q2⟩ := isP_head hP
      exact ⟨isP_vars hP, q2, q0⟩
    · omega
    · omega
  have hH : ∀ l, faultI p = 0 → exK (halfE p.vars low l) ≤ 1800 ∧ exB (halfE p.vars low l) := by
    intro l hz
    obtain ⟨a1, a2, a3⟩ := hsz hz
    have ht := tot_le p.vars a1
    obtain ⟨b1, b2⟩ := halfE_ok p.vars low l
    exact ⟨by omega, b2⟩
  have hlen : ∀ l, mayB p.vars l = true → l.length = p.vars.length := by
    intro l hm
    unfold mayB at hm
    simp only [Bool.and_eq_true, decide_eq_true_eq] at hm
    exact hm.1
  have hC := levelClaim_run p low l1 l2 (k - 1) (by omega) hb (by omega) (by omega) hl1 hl2 h h.length (fun hz m1 m2 => by
    rw [hcq] at hz
    obtain ⟨a1, a2, a3⟩ := hsz hz
    obtain ⟨c1, c2⟩ := hH l1 hz
    obtain ⟨d1, d2⟩ := hH l2 hz
    have := claimP_run p.width p.vars p.body low l1 l2 (k - 2) (by omega) (by omega) (fun v hv => by have := a1 v hv; omega) (hlen _ m1) (hlen _ m2) (by omega) (by omega) c2 d2 h h.length
    rwa [show k - 2 + 1 = k - 1 by omega] at this)
  have hF := fault_run p (k - 1) (by omega) hb h h.length
  have hNo := none07_run (k - 1) h h.length (by omega)
  rw [show k - 1 + 1 = k by omega] at hC hF hNo
  rcases faultI_cases p with ⟨hf, hP, hS⟩ | hf | hf
  · rw [hf] at hF
    rw [hf] at hcq
    have hR1 := range_run (k - 1) h h.length p 31 l1 (by omega) hl1
    have hR2 := range_run (k - 1) h h.length p 31 l2 (by omega) hl2
    rw [show k - 1 + 1 = k by omega, range_may] at hR1 hR2
    cases hw1 : decide (low < 0)
    case true =>
      rw [claimO_bad hcq (by simp [lowB, hw1])] at hC
      obtain ⟨w, vs, body⟩ := p
      apply W_call Try.func8 rfl (Nat.le_of_ble_eq_true rfl) rfl rfl
      (repeat' (first | apply W_seq | refine W_true rfl rfl ?_ | refine W_false rfl rfl ?_ | refine W_region (id := 0) rfl rfl ?_ | (refine W_ops (id := 1) rfl ?_ <;> refine T_ch 2 rfl ?_ <;> (refine T_go rfl ?_; refine G_true (O_call rfl rfl rfl rfl (by assumption)) rfl ?_) <;> refine T_ch 1 rfl ?_ <;> apply T_nil) | (refine W_ops (id := 3) rfl ?_ <;> refine T_ch 4 rfl ?_ <;> (refine T_go rfl ?_; refine G_op (O_call rfl rfl rfl rfl (by assumption)) ?_) <;> refine T_ch 6 rfl ?_ <;> apply T_nil) | (refine W_ops (id := 4) rfl ?_ <;> refine T_ch 1 rfl ?_ <;> (refine T_go rfl ?_; refine G_op (O_call rfl rfl rfl rfl (by assumption)) ?_) <;> refine T_ch 1 rfl ?_ <;> apply T_nil) | (refine W_ops (id := 5) rfl ?_ <;> refine T_ch 1 rfl ?_ <;> (refine T_go rfl ?_; refine G_true rfl rfl ?_) <;> refine T_ch 2 rfl ?_ <;> (refine T_go rfl ?_; refine G_true rfl (by with_reducible assumption) ?_) <;> refine T_ch 2 rfl ?_ <;> refine T_skip rfl ?_ <;> refine T_ch 4 rfl ?_ <;> refine T_skip rfl ?_ <;> refine T_ch 5 rfl ?_ <;> refine T_skip rfl ?_ <;> refine T_ch 3 rfl ?_ <;> apply T_nil) | refine W_region (id := 6) rfl rfl ?_ | (refine W_ops (id := 7) rfl ?_ <;> refine T_ch 1 rfl ?_ <;> (refine T_go rfl ?_; refine G_true rfl rfl ?_) <;> apply T_nil) | (refine W_ops (id := 8) rfl ?_ <;> refine T_ch 2 rfl ?_ <;> (refine T_go rfl ?_; refine G_true rfl rfl ?_) <;> refine T_ch 2 rfl ?_ <;> (refine T_go rfl ?_; refine G_true (O_call rfl rfl rfl rfl (by assumption)) rfl ?_) <;> refine T_ch 2 rfl ?_ <;> (refine T_go rfl ?_; refine G_true (O_call rfl rfl rfl rfl (by assumption)) rfl ?_) <;> refine T_ch 2 rfl ?_ <;> apply T_nil) | apply W_skip | apply W_block | apply W_ret | apply W_exit | refine W_true rfl (by assumption) ?_ | refine W_false rfl (by assumption) ?_ | refine W_cond rfl (fun _ => ?_) (fun _ => ?_)))
      all_goals exact ⟨.inl rfl, rfl⟩
    cases hw2 : decide (low > 15)
    case true =>
      rw [claimO_bad hcq (by simp [lowB, hw2])] at hC
      obtain ⟨w, vs, body⟩ := p
      apply W_call Try.func8 rfl (Nat.le_of_ble_eq_true rfl) rfl rfl
      (repeat' (first | apply W_seq | refine W_true rfl rfl ?_ | refine W_false rfl rfl ?_ | refine W_region (id := 0) rfl rfl ?_ | (refine W_ops (id := 1) rfl ?_ <;> refine T_ch 2 rfl ?_ <;> (refine T_go rfl ?_; refine G_true (O_call rfl rfl rfl rfl (by assumption)) rfl ?_) <;> refine T_ch 1 rfl ?_ <;> apply T_nil) | (refine W_ops (id := 3) rfl ?_ <;> refine T_ch 4 rfl ?_ <;> (refine T_go rfl ?_; refine G_op (O_call rfl rfl rfl rfl (by assumption)) ?_) <;> refine T_ch 6 rfl ?_ <;> apply T_nil) | (refine W_ops (id := 4) rfl ?_ <;> refine T_ch 1 rfl ?_ <;> (refine T_go rfl ?_; refine G_op (O_call rfl rfl rfl rfl (by assumption)) ?_) <;> refine T_ch 1 rfl ?_ <;> apply T_nil) | (refine W_ops (id := 5) rfl ?_ <;> refine T_ch 1 rfl ?_ <;> (refine T_go rfl ?_; refine G_true rfl rfl ?_) <;> refine T_ch 2 rfl ?_ <;> (refine T_go rfl ?_; refine G_false rfl (by with_reducible assumption) ?_) <;> refine T_ch 2 rfl ?_ <;> (refine T_go rfl ?_; refine G_true rfl (by with_reducible assumption) ?_) <;> refine T_ch 4 rfl ?_ <;> refine T_skip rfl ?_ <;> refine T_ch 5 rfl ?_ <;> refine T_skip rfl ?_ <;> refine T_ch 3 rfl ?_ <;> apply T_nil) | refine W_region (id := 6) rfl rfl ?_ | (refine W_ops (id := 7) rfl ?_ <;> refine T_ch 1 rfl ?_ <;> (refine T_go rfl ?_; refine G_true rfl rfl ?_) <;> apply T_nil) | (refine W_ops (id := 8) rfl ?_ <;> refine T_ch 2 rfl ?_ <;> (refine T_go rfl ?_; refine G_true rfl rfl ?_) <;> refine T_ch 2 rfl ?_ <;> (refine T_go rfl ?_; refine G_true (O_call rfl rfl rfl rfl (by assumption)) rfl ?_) <;> refine T_ch 2 rfl ?_ <;> (refine T_go rfl ?_; refine G_true (O_call rfl rfl rfl rfl (by assumption)) rfl ?_) <;> refine T_ch 2 rfl ?_ <;> apply T_nil) | apply W_skip | apply W_block | apply W_ret | apply W_exit | refine W_true rfl (by assumption) ?_ | refine W_false rfl (by assumption) ?_ | refine W_cond rfl (fun _ => ?_) (fun _ => ?_)))
      all_goals exact ⟨.inl rfl, rfl⟩
    cases hm1 : mayB p.vars l1
    case false =>
      rw [claimO_bad hcq (by simp [hm1])] at hC
      rw [hm1] at hR1
      obtain ⟨w, vs, body⟩ := p
      apply W_call Try.func8 rfl (Nat.le_of_ble_eq_true rfl) rfl rfl
      (repeat' (first | apply W_seq | refine W_true rfl rfl ?_ | refine W_false rfl rfl ?_ | refine W_region (id := 0) rfl rfl ?_ | (refine W_ops (id := 1) rfl ?_ <;> refine T_ch 2 rfl ?_ <;> (refine T_go rfl ?_; refine G_true (O_call rfl rfl rfl rfl (by assumption)) rfl ?_) <;> refine T_ch 1 rfl ?_ <;> apply T_nil) | (refine W_ops (id := 3) rfl ?_ <;> refine T_ch 4 rfl ?_ <;> (refine T_go rfl ?_; refine G_op (O_call rfl rfl rfl rfl (by assumption)) ?_) <;> refine T_ch 6 rfl ?_ <;> apply T_nil) | (refine W_ops (id := 4) rfl ?_ <;> refine T_ch 1 rfl ?_ <;> (refine T_go rfl ?_; refine G_op (O_call rfl rfl rfl rfl (by assumption)) ?_) <;> refine T_ch 1 rfl ?_ <;> apply T_nil) | (refine W_ops (id := 5) rfl ?_ <;> refine T_ch 1 rfl ?_ <;> (refine T_go rfl ?_; refine G_true rfl rfl ?_) <;> refine T_ch 2 rfl ?_ <;> (refine T_go rfl ?_; refine G_false rfl (by with_reducible assumption) ?_) <;> refine T_ch 2 rfl ?_ <;> (refine T_go rfl ?_; refine G_false rfl (by with_reducible assumption) ?_) <;> refine T_ch 4 rfl ?_ <;> (refine T_go rfl ?_; refine G_false (O_call rfl rfl rfl rfl (by assumption)) rfl ?_) <;> refine T_ch 5 rfl ?_ <;> refine T_skip rfl ?_ <;> refine T_ch 3 rfl ?_ <;> apply T_nil) | refine W_region (id := 6) rfl rfl ?_ | (refine W_ops (id := 7) rfl ?_ <;> refine T_ch 1 rfl ?_ <;> (refine T_go rfl ?_; refine G_true rfl rfl ?_) <;> apply T_nil) | (refine W_ops (id := 8) rfl ?_ <;> refine T_ch 2 rfl ?_ <;> (refine T_go rfl ?_; refine G_true rfl rfl ?_) <;> refine T_ch 2 rfl ?_ <;> (refine T_go rfl ?_; refine G_true (O_call rfl rfl rfl rfl (by assumption)) rfl ?_) <;> refine T_ch 2 rfl ?_ <;> (refine T_go rfl ?_; refine G_true (O_call rfl rfl rfl rfl (by assumption)) rfl ?_) <;> refine T_ch 2 rfl ?_ <;> apply T_nil) | apply W_skip | apply W_block | apply W_ret | apply W_exit | refine W_true rfl (by assumption) ?_ | refine W_false rfl (by assumption) ?_ | refine W_cond rfl (fun _ => ?_) (fun _ => ?_)))
      all_goals exact ⟨.inl rfl, rfl⟩
    rw [hm1] at hR1
    cases hm2 : mayB p.vars l2
    case false =>
      rw [claimO_bad hcq (by simp [hm2])] at hC
      rw [hm2] at hR2
      obtain ⟨w, vs, body⟩ := p
      apply W_call Try.func8 rfl (Nat.le_of_ble_eq_true rfl) rfl rfl
      (repeat' (first | apply W_seq | refine W_true rfl rfl ?_ | refine W_false rfl rfl ?_ | refine W_region (id := 0) rfl rfl ?_ | (refine W_ops (id := 1) rfl ?_ <;> refine T_ch 2 rfl ?_ <;> (refine T_go rfl ?_; refine G_true (O_call rfl rfl rfl rfl (by assumption)) rfl ?_) <;> refine T_ch 1 rfl ?_ <;> apply T_nil) | (refine W_ops (id := 3) rfl ?_ <;> refine T_ch 4 rfl ?_ <;> (refine T_go rfl ?_; refine G_op (O_call rfl rfl rfl rfl (by assumption)) ?_) <;> refine T_ch 6 rfl ?_ <;> apply T_nil) | (refine W_ops (id := 4) rfl ?_ <;> refine T_ch 1 rfl ?_ <;> (refine T_go rfl ?_; refine G_op (O_call rfl rfl rfl rfl (by assumption)) ?_) <;> refine T_ch 1 rfl ?_ <;> apply T_nil) | (refine W_ops (id := 5) rfl ?_ <;> refine T_ch 1 rfl ?_ <;> (refine T_go rfl ?_; refine G_true rfl rfl ?_) <;> refine T_ch 2 rfl ?_ <;> (refine T_go rfl ?_; refine G_false rfl (by with_reducible assumption) ?_) <;> refine T_ch 2 rfl ?_ <;> (refine T_go rfl ?_; refine G_false rfl (by with_reducible assumption) ?_) <;> refine T_ch 4 rfl ?_ <;> (refine T_go rfl ?_; refine G_true (O_call rfl rfl rfl rfl (by assumption)) rfl ?_) <;> refine T_ch 5 rfl ?_ <;> (refine T_go rfl ?_; refine G_false (O_call rfl rfl rfl rfl (by assumption)) rfl ?_) <;> refine T_ch 3 rfl ?_ <;> apply T_nil) | refine W_region (id := 6) rfl rfl ?_ | (refine W_ops (id := 7) rfl ?_ <;> refine T_ch 1 rfl ?_ <;> (refine T_go rfl ?_; refine G_true rfl rfl ?_) <;> apply T_nil) | (refine W_ops (id := 8) rfl ?_ <;> refine T_ch 2 rfl ?_ <;> (refine T_go rfl ?_; refine G_true rfl rfl ?_) <;> refine T_ch 2 rfl ?_ <;> (refine T_go rfl ?_; refine G_true (O_call rfl rfl rfl rfl (by assumption)) rfl ?_) <;> refine T_ch 2 rfl ?_ <;> (refine T_go rfl ?_; refine G_true (O_call rfl rfl rfl rfl (by assumption)) rfl ?_) <;> refine T_ch 2 rfl ?_ <;> apply T_nil) | apply W_skip | apply W_block | apply W_ret | apply W_exit | refine W_true rfl (by assumption) ?_ | refine W_false rfl (by assumption) ?_ | refine W_cond rfl (fun _ => ?_) (fun _ => ?_)))
      all_goals exact ⟨.inl rfl, rfl⟩
    rw [hm2] at hR2
    have hlo : 0 ≤ low ∧ low ≤ 15 := by
      have := of_decide_eq_false hw1
      have := of_decide_eq_false hw2
      omega
    rw [claimO_ok hcq (by simp [lowB, hw1, hw2, hm1, hm2])] at hC
    obtain ⟨a1, a2, a3⟩ := hsz hf
    obtain ⟨c1, c2⟩ := hH l1 hf
    obtain ⟨d1, d2⟩ := hH l2 hf
    have hcr := claimR_run p.width p.vars p.body low l1 l2 (k - 1) (by omega) (by omega) (fun v hv => by have := a1 v hv; omega) (hlen _ hm1) (hlen _ hm2) h h.length
    have hsr := singleR_run p (k - 3) (by omega) hb h (h.length)
    rw [hS, show k - 3 + 1 = k - 2 by omega] at hsr
    rw [show k - 1 + 1 = k by omega] at hcr
    rcases clmI_two p.width p.vars low l1 l2 a3 with ⟨hi, he⟩ | ⟨hi, he⟩
    · rw [he] at hC
      rw [Bool.and_eq_true] at hi
      have hcl := claimsY_run p.width p.vars p.body _ _ low hlo.1 hlo.2 (k - 1) (by omega) (by omega) c2 d2 h h.length hsr hi.1 hi.2 (isE_fits hi.1) (isE_fits hi.2)
      rw [show k - 1 + 1 = k by omega] at hcl
      obtain ⟨w, vs, body⟩ := p
      dsimp only at *
      generalize halfE vs low l1 = e1 at *
      generalize halfE vs low l2 = e2 at *
      obtain ⟨p1, n1, q1, s1⟩ := e1
      obtain ⟨p2, n2, q2, s2⟩ := e2
      apply W_call Try.func8 rfl (Nat.le_of_ble_eq_true rfl) rfl rfl
      (repeat' (first | apply W_seq | refine W_true rfl rfl ?_ | refine W_false rfl rfl ?_ | refine W_region (id := 0) rfl rfl ?_ | (refine W_ops (id := 1) rfl ?_ <;> refine T_ch 2 rfl ?_ <;> (refine T_go rfl ?_; refine G_true (O_call rfl rfl rfl rfl (by assumption)) rfl ?_) <;> refine T_ch 1 rfl ?_ <;> apply T_nil) | (refine W_ops (id := 3) rfl ?_ <;> refine T_ch 4 rfl ?_ <;> (refine T_go rfl ?_; refine G_op (O_call rfl rfl rfl rfl (by assumption)) ?_) <;> refine T_ch 6 rfl ?_ <;> apply T_nil) | (refine W_ops (id := 4) rfl ?_ <;> refine T_ch 1 rfl ?_ <;> (refine T_go rfl ?_; refine G_op (O_call rfl rfl rfl rfl (by assumption)) ?_) <;> refine T_ch 1 rfl ?_ <;> apply T_nil) | (refine W_ops (id := 5) rfl ?_ <;> refine T_ch 1 rfl ?_ <;> (refine T_go rfl ?_; refine G_true rfl rfl ?_) <;> refine T_ch 2 rfl ?_ <;> (refine T_go rfl ?_; refine G_false rfl (by with_reducible assumption) ?_) <;> refine T_ch 2 rfl ?_ <;> (refine T_go rfl ?_; refine G_false rfl (by with_reducible assumption) ?_) <;> refine T_ch 4 rfl ?_ <;> (refine T_go rfl ?_; refine G_true (O_call rfl rfl rfl rfl (by assumption)) rfl ?_) <;> refine T_ch 5 rfl ?_ <;> (refine T_go rfl ?_; refine G_true (O_call rfl rfl rfl rfl (by assumption)) rfl ?_) <;> refine T_ch 3 rfl ?_ <;> apply T_nil) | (refine W_ops (id := 7) rfl ?_ <;> refine T_ch 1 rfl ?_ <;> (refine T_go rfl ?_; refine G_false rfl rfl ?_) <;> apply T_nil) | (refine W_dops (id := 9) (bs := [0, 0, 0, 0, 0, 0, 0, 120, 255, 511, 1023, 2047, 4095]) rfl (by decide +kernel) ?_ <;> (refine U_go rfl ?_; refine H_free (by decide +kernel) rfl rfl rfl rfl rfl ?_) <;> (refine U_go rfl ?_; refine H_free (by decide +kernel) rfl rfl rfl rfl rfl ?_) <;> (refine U_go rfl ?_; refine H_free (by decide +kernel) rfl rfl rfl rfl rfl ?_) <;> (refine U_go rfl ?_; refine H_free (by decide +kernel) rfl rfl rfl rfl rfl ?_) <;> (refine U_go rfl ?_; refine H_free (by decide +kernel) rfl rfl rfl rfl rfl ?_) <;> (refine U_go rfl ?_; refine H_free (by decide +kernel) rfl rfl rfl rfl rfl ?_) <;> (refine U_go rfl ?_; refine H_free (by decide +kernel) rfl rfl rfl rfl rfl ?_) <;> (refine U_go rfl ?_; refine H_free (by decide +kernel) rfl (O_call rfl rfl rfl rfl (by assumption)) rfl rfl rfl ?_) <;> (refine U_go rfl ?_; refine H_true (by decide +kernel) (O_call rfl rfl rfl rfl (by assumption)) rfl ?_) <;> (refine U_go rfl ?_; refine H_op (by decide +kernel) rfl ?_) <;> (refine U_go rfl ?_; refine H_true (by decide +kernel) (O_call rfl rfl rfl rfl (by assumption)) rfl ?_) <;> (refine U_go rfl ?_; refine H_op (by decide +kernel) rfl ?_) <;> (refine U_go rfl ?_; refine H_op (by decide +kernel) rfl ?_) <;> apply U_nil) | apply W_skip | apply W_block | apply W_ret | apply W_exit | refine W_true rfl (by assumption) ?_ | refine W_false rfl (by assumption) ?_ | refine W_cond rfl (fun _ => ?_) (fun _ => ?_)))
      all_goals exact ⟨.inl rfl, rfl⟩
    · rw [he] at hC
      have hcl := claimsN_run p.width p.vars p.body _ _ low hlo.1 hlo.2 (k - 1) (by omega) (by omega) c2 d2 h h.length hsr hi
      rw [show k - 1 + 1 = k by omega] at hcl
      obtain ⟨w, vs, body⟩ := p
      dsimp only at *
      generalize halfE vs low l1 = e1 at *
      generalize halfE vs low l2 = e2 at *
      obtain ⟨p1, n1, q1, s1⟩ := e1
      obtain ⟨p2, n2, q2, s2⟩ := e2
      apply W_call Try.func8 rfl (Nat.le_of_ble_eq_true rfl) rfl rfl
      (repeat' (first | apply W_seq | refine W_true rfl rfl ?_ | refine W_false rfl rfl ?_ | refine W_region (id := 0) rfl rfl ?_ | (refine W_ops (id := 1) rfl ?_ <;> refine T_ch 2 rfl ?_ <;> (refine T_go rfl ?_; refine G_true (O_call rfl rfl rfl rfl (by assumption)) rfl ?_) <;> refine T_ch 1 rfl ?_ <;> apply T_nil) | (refine W_ops (id := 3) rfl ?_ <;> refine T_ch 4 rfl ?_ <;> (refine T_go rfl ?_; refine G_op (O_call rfl rfl rfl rfl (by assumption)) ?_) <;> refine T_ch 6 rfl ?_ <;> apply T_nil) | (refine W_ops (id := 4) rfl ?_ <;> refine T_ch 1 rfl ?_ <;> (refine T_go rfl ?_; refine G_op (O_call rfl rfl rfl rfl (by assumption)) ?_) <;> refine T_ch 1 rfl ?_ <;> apply T_nil) | (refine W_ops (id := 5) rfl ?_ <;> refine T_ch 1 rfl ?_ <;> (refine T_go rfl ?_; refine G_true rfl rfl ?_) <;> refine T_ch 2 rfl ?_ <;> (refine T_go rfl ?_; refine G_false rfl (by with_reducible assumption) ?_) <;> refine T_ch 2 rfl ?_ <;> (refine T_go rfl ?_; refine G_false rfl (by with_reducible assumption) ?_) <;> refine T_ch 4 rfl ?_ <;> (refine T_go rfl ?_; refine G_true (O_call rfl rfl rfl rfl (by assumption)) rfl ?_) <;> refine T_ch 5 rfl ?_ <;> (refine T_go rfl ?_; refine G_true (O_call rfl rfl rfl rfl (by assumption)) rfl ?_) <;> refine T_ch 3 rfl ?_ <;> apply T_nil) | (refine W_ops (id := 7) rfl ?_ <;> refine T_ch 1 rfl ?_ <;> (refine T_go rfl ?_; refine G_false rfl rfl ?_) <;> apply T_nil) | (refine W_dops (id := 9) (bs := [0, 0, 0, 0, 0, 0, 0, 120, 255, 511, 1023, 2047, 4095]) rfl (by decide +kernel) ?_ <;> (refine U_go rfl ?_; refine H_free (by decide +kernel) rfl rfl rfl rfl rfl ?_) <;> (refine U_go rfl ?_; refine H_free (by decide +kernel) rfl rfl rfl rfl rfl ?_) <;> (refine U_go rfl ?_; refine H_free (by decide +kernel) rfl rfl rfl rfl rfl ?_) <;> (refine U_go rfl ?_; refine H_free (by decide +kernel) rfl rfl rfl rfl rfl ?_) <;> (refine U_go rfl ?_; refine H_free (by decide +kernel) rfl rfl rfl rfl rfl ?_) <;> (refine U_go rfl ?_; refine H_free (by decide +kernel) rfl rfl rfl rfl rfl ?_) <;> (refine U_go rfl ?_; refine H_free (by decide +kernel) rfl rfl rfl rfl rfl ?_) <;> (refine U_go rfl ?_; refine H_free (by decide +kernel) rfl (O_call rfl rfl rfl rfl (by assumption)) rfl rfl rfl ?_) <;> (refine U_go rfl ?_; refine H_true (by decide +kernel) (O_call rfl rfl rfl rfl (by assumption)) rfl ?_) <;> (refine U_go rfl ?_; refine H_op (by decide +kernel) rfl ?_) <;> (refine U_go rfl ?_; refine H_true (by decide +kernel) (O_call rfl rfl rfl rfl (by assumption)) rfl ?_) <;> (refine U_go rfl ?_; refine H_op (by decide +kernel) rfl ?_) <;> (refine U_go rfl ?_; refine H_op (by decide +kernel) rfl ?_) <;> apply U_nil) | apply W_skip | apply W_block | apply W_ret | apply W_exit | refine W_true rfl (by assumption) ?_ | refine W_false rfl (by assumption) ?_ | refine W_cond rfl (fun _ => ?_) (fun _ => ?_)))
      all_goals exact ⟨.inl rfl, rfl⟩
  · rw [claimO_f (by omega), hcq] at hC
    rw [hf] at hC hF
    obtain ⟨w, vs, body⟩ := p
    apply W_call Try.func8 rfl (Nat.le_of_ble_eq_true rfl) rfl rfl
    (repeat' (first | apply W_seq | refine W_true rfl rfl ?_ | refine W_false rfl rfl ?_ | refine W_region (id := 0) rfl rfl ?_ | (refine W_ops (id := 1) rfl ?_ <;> refine T_ch 2 rfl ?_ <;> (refine T_go rfl ?_; refine G_true (O_call rfl rfl rfl rfl (by assumption)) rfl ?_) <;> refine T_ch 1 rfl ?_ <;> apply T_nil) | (refine W_ops (id := 3) rfl ?_ <;> refine T_ch 4 rfl ?_ <;> (refine T_go rfl ?_; refine G_op (O_call rfl rfl rfl rfl (by assumption)) ?_) <;> refine T_ch 6 rfl ?_ <;> apply T_nil) | (refine W_ops (id := 4) rfl ?_ <;> refine T_ch 1 rfl ?_ <;> (refine T_go rfl ?_; refine G_op (O_call rfl rfl rfl rfl (by assumption)) ?_) <;> refine T_ch 1 rfl ?_ <;> apply T_nil) | (refine W_ops (id := 5) rfl ?_ <;> refine T_ch 1 rfl ?_ <;> (refine T_go rfl ?_; refine G_false rfl rfl ?_) <;> refine T_ch 2 rfl ?_ <;> refine T_skip rfl ?_ <;> refine T_ch 2 rfl ?_ <;> refine T_skip rfl ?_ <;> refine T_ch 4 rfl ?_ <;> refine T_skip rfl ?_ <;> refine T_ch 5 rfl ?_ <;> refine T_skip rfl ?_ <;> refine T_ch 3 rfl ?_ <;> apply T_nil) | (refine W_ops (id := 7) rfl ?_ <;> refine T_ch 1 rfl ?_ <;> (refine T_go rfl ?_; refine G_true rfl rfl ?_) <;> apply T_nil) | (refine W_ops (id := 8) rfl ?_ <;> refine T_ch 2 rfl ?_ <;> (refine T_go rfl ?_; refine G_true rfl rfl ?_) <;> refine T_ch 2 rfl ?_ <;> (refine T_go rfl ?_; refine G_true (O_call rfl rfl rfl rfl (by assumption)) rfl ?_) <;> refine T_ch 2 rfl ?_ <;> (refine T_go rfl ?_; refine G_true (O_call rfl rfl rfl rfl (by assumption)) rfl ?_) <;> refine T_ch 2 rfl ?_ <;> apply T_nil) | apply W_skip | apply W_block | apply W_ret | apply W_exit | refine W_true rfl (by assumption) ?_ | refine W_false rfl (by assumption) ?_ | refine W_cond rfl (fun _ => ?_) (fun _ => ?_)))
    all_goals exact ⟨.inl rfl, rfl⟩
  · rw [claimO_f (by omega), hcq] at hC
    rw [hf] at hC hF
    obtain ⟨w, vs, body⟩ := p
    apply W_call Try.func8 rfl (Nat.le_of_ble_eq_true rfl) rfl rfl
    (repeat' (first | apply W_seq | refine W_true rfl rfl ?_ | refine W_false rfl rfl ?_ | refine W_region (id := 0) rfl rfl ?_ | (refine W_ops (id := 1) rfl ?_ <;> refine T_ch 2 rfl ?_ <;> (refine T_go rfl ?_; refine G_true (O_call rfl rfl rfl rfl (by assumption)) rfl ?_) <;> refine T_ch 1 rfl ?_ <;> apply T_nil) | (refine W_ops (id := 3) rfl ?_ <;> refine T_ch 4 rfl ?_ <;> (refine T_go rfl ?_; refine G_op (O_call rfl rfl rfl rfl (by assumption)) ?_) <;> refine T_ch 6 rfl ?_ <;> apply T_nil) | (refine W_ops (id := 4) rfl ?_ <;> refine T_ch 1 rfl ?_ <;> (refine T_go rfl ?_; refine G_op (O_call rfl rfl rfl rfl (by assumption)) ?_) <;> refine T_ch 1 rfl ?_ <;> apply T_nil) | (refine W_ops (id := 5) rfl ?_ <;> refine T_ch 1 rfl ?_ <;> (refine T_go rfl ?_; refine G_false rfl rfl ?_) <;> refine T_ch 2 rfl ?_ <;> refine T_skip rfl ?_ <;> refine T_ch 2 rfl ?_ <;> refine T_skip rfl ?_ <;> refine T_ch 4 rfl ?_ <;> refine T_skip rfl ?_ <;> refine T_ch 5 rfl ?_ <;> refine T_skip rfl ?_ <;> refine T_ch 3 rfl ?_ <;> apply T_nil) | (refine W_ops (id := 7) rfl ?_ <;> refine T_ch 1 rfl ?_ <;> (refine T_go rfl ?_; refine G_true rfl rfl ?_) <;> apply T_nil) | (refine W_ops (id := 8) rfl ?_ <;> refine T_ch 2 rfl ?_ <;> (refine T_go rfl ?_; refine G_true rfl rfl ?_) <;> refine T_ch 2 rfl ?_ <;> (refine T_go rfl ?_; refine G_true (O_call rfl rfl rfl rfl (by assumption)) rfl ?_) <;> refine T_ch 2 rfl ?_ <;> (refine T_go rfl ?_; refine G_true (O_call rfl rfl rfl rfl (by assumption)) rfl ?_) <;> refine T_ch 2 rfl ?_ <;> apply T_nil) | apply W_skip | apply W_block | apply W_ret | apply W_exit | refine W_true rfl (by assumption) ?_ | refine W_false rfl (by assumption) ?_ | refine W_cond rfl (fun _ => ?_) (fun _ => ?_)))
    all_goals exact ⟨.inl rfl, rfl⟩
end Go.Proofs.Ytelobnllkhnpaaa.L
/- The arguments, as the evaluator's values. -/
open Go Go.Proofs Go.Ev Go.Proofs.Ytelobnllkhnpaaa.E
namespace Go.Proofs.Ytelobnllkhnpaaa.L
set_option linter.unusedVariables false
set_option linter.unusedSimpArgs false
set_option maxHeartbeats 2000000
set_option maxRecDepth 100000

section
variable {H : Type} {enc : TypeId × Value → H} {P : Program} {w : World} {spare : Nat → Bool} {held : Bool}

theorem trod_int {t : TypeId} {k : IntKind} (ht : P.underlying t = some (.int k)) {fuel : Nat} {cs : List Value} {x : DataW H × List MemPlace} (h : DataW.trod enc P w 0 spare held fuel t cs = some x) : ∃ n : Int, cs = [.int k n] := by
  cases fuel with
  | zero => cases h
  | succ fuel =>
    unfold DataW.trod at h
    rw [ht] at h
    split at h <;> first | (cases h; done) | (rename_i e; injection e with e; cases e; done) | skip
    all_goals try (rename_i e; injection e with e; injection e with e; subst e)
    · split at h
      · rename_i hc; obtain ⟨hc, _⟩ := hc; subst hc; exact ⟨_, rfl⟩
      · cases h

theorem trod_str {t : TypeId} (ht : P.underlying t = some .string) {fuel : Nat} {cs : List Value} {x : DataW H × List MemPlace} (h : DataW.trod enc P w 0 spare held fuel t cs = some x) : ∃ s : ByteArray, cs = [.string s] ∧ s.size ≤ maxLen := by
  cases fuel with
  | zero => cases h
  | succ fuel =>
    unfold DataW.trod at h
    rw [ht] at h
    split at h <;> first | (cases h; done) | (rename_i e; injection e with e; cases e; done) | skip
    · split at h
      · rename_i hc; exact ⟨_, rfl, hc⟩
      · cases h

theorem mapM_some {α β : Type} {F : α → Option β} : ∀ {l : List α} {ys : List β}, l.mapM F = some ys → ∀ x, x ∈ l → ∃ y, F x = some y
  | [], _, _, x, hx => by cases hx
  | a :: l, ys, h, x, hx => by
    rw [List.mapM_cons] at h
    cases ha : F a with
    | none => rw [ha] at h; cases h
    | some b =>
      rw [ha] at h
      cases hl : l.mapM F with
      | none => rw [hl] at h; cases h
      | some bs =>
        rcases List.mem_cons.1 hx with rfl | hx
        · exact ⟨b, ha⟩
        · exact mapM_some hl x hx

theorem trod_slice {t e : TypeId} (ht : P.underlying t = some (.slice e)) {fuel : Nat} {cs : List Value} {x : DataW H × List MemPlace} (h : DataW.trod enc P w 0 spare held (fuel + 1) t cs = some x) :
    cs = [.slice none 0 0] ∨ ∃ a len cap, cs = [.slice (some a) len cap] ∧ len ≤ cap ∧ cap ≤ maxLen ∧ ∀ i, i < len → ∃ row y, w.cells? 0 (a.add (i * P.cellsOf e)) (P.cellsOf e) = some row ∧ DataW.trod enc P w 0 spare held fuel e row = some y := by
  unfold DataW.trod at h
  rw [ht] at h
  split at h <;> first | (cases h; done) | (rename_i e; injection e with e; cases e; done) | skip
  · exact .inl rfl
  · rename_i e' a len cap he
    injection he with he; injection he with he; subst he
    dsimp only at h
    split at h
    · rename_i hc
      refine .inr ⟨a, len, cap, rfl, hc.2.1, hc.2.2, fun i hi => ?_⟩
      obtain ⟨elems, h1, h2⟩ := Option.bind_eq_some_iff.1 h
      obtain ⟨y, hy⟩ := mapM_some h1 i (List.mem_range.2 hi)
      obtain ⟨row, h3, h4⟩ := Option.bind_eq_some_iff.1 hy
      exact ⟨row, y, h3, h4⟩
    · cases h

theorem mapM_get {α β : Type} {F : α → Option β} : ∀ {l : List α} {ys : List β}, l.mapM F = some ys → ys.length = l.length ∧ ∀ (i : Nat) (x : α), l[i]? = some x → F x = ys[i]?
  | [], ys, h => by simp at h; subst h; simp
  | a :: l, ys, h => by
    rw [List.mapM_cons] at h
    cases ha : F a with
    | none => rw [ha] at h; cases h
    | some b =>
      rw [ha] at h
      cases hl : l.mapM F with
      | none => rw [hl] at h; cases h
      | some bs =>
        rw [hl] at h
        injection h with h
        subst h
        obtain ⟨h1, h2⟩ := mapM_get hl
        refine ⟨by simp [h1], fun i x hx => ?_⟩
        cases i with
        | zero => simp at hx; subst hx; exact ha
        | succ i => simp at hx; simpa using h2 i x hx

theorem cells_get {base : Nat} {a : Addr} {n : Nat} {row : List Value} (h : w.cells? base a n = some row) : row.length = n ∧ ∀ j, j < n → w.cell? (a.add j) = row[j]? := by
  unfold World.cells? at h
  split at h
  · obtain ⟨h1, h2⟩ := mapM_get h
    refine ⟨by simpa using h1, fun j hj => h2 j j (by simp [hj])⟩
  · cases h

theorem static_one {a : AV} (h : static a = true) : oneCell a = true := by cases a <;> first | rfl | (cases h; done)

/-- A slice whose elements are rows, each related to its cells. -/
theorem rel_vs {S : Nat → Prop} (hS : ∀ b, b < w.heap.size → S b) {t e : TypeId} {sz : Nat} (hsz : P.cellsOf e = sz) (ht : P.underlying t = some (.slice e)) {fuel : Nat} {v : Value} {x : DataW H × List MemPlace} (h : DataW.trod enc P w 0 spare held (fuel + 1) t [v] = some x)
    {α : Type} (C : α → List AV) (B : α → Prop) (hrow : ∀ row y, DataW.trod enc P w 0 spare held fuel e row = some y → ∃ c : α, RelVs (Ctx.start w S) (C c) row ∧ (∀ a, a ∈ C c → static a = true) ∧ B c) (h0 : 0 < sz) :
    ∃ l : List α, RelV (Ctx.start w S) (.vs sz (l.map C)) v ∧ l.length ≤ maxLen ∧ ∀ c, c ∈ l → B c := by
  rcases trod_slice ht h with hv | ⟨a, len, cap, hv, h1, h2, h3⟩
  · injection hv with hv; subst hv
    exact ⟨[], .vs (.vs (fun _ _ => undef) rfl (Nat.le_refl _) (by simp) (by simp) (by simp) (by simp)), by simp, by simp⟩
  · injection hv with hv; subst hv
    rw [hsz] at h3
    have hall : ∀ i, i < len → ∃ (row : List Value) (c : α), w.cells? 0 (a.add (i * sz)) sz = some row ∧ RelVs (Ctx.start w S) (C c) row ∧ (∀ a, a ∈ C c → static a = true) ∧ B c := fun i hi => by
      obtain ⟨row, y, q1, q2⟩ := h3 i hi
      obtain ⟨c, q3⟩ := hrow row y q2
      exact ⟨row, c, q1, q3⟩
    have hex : ∃ (l : List α), l.length = len ∧ ∀ i c, l[i]? = some c → ∃ row : List Value, w.cells? 0 (a.add (i * sz)) sz = some row ∧ RelVs (Ctx.start w S) (C c) row ∧ (∀ a, a ∈ C c → static a = true) ∧ B c := by
      clear h h1 h2 h3
      induction len with
      | zero => exact ⟨[], rfl, fun i c hi => by simp at hi⟩
      | succ n ih =>
        obtain ⟨l, q1, q2⟩ := ih (fun i hi => hall i (by omega))
        obtain ⟨row, c, q3⟩ := hall n (by omega)
        refine ⟨l ++ [c], by simp [q1], fun i c' hi => ?_⟩
        rcases Nat.lt_or_ge i l.length with hlt | hge
        · rw [List.getElem?_append_left hlt] at hi; exact q2 i c' hi
        · rw [List.getElem?_append_right hge] at hi
          have : i - l.length = 0 := by
            rcases Nat.eq_zero_or_pos (i - l.length) with e | e
            · exact e
            · rw [List.getElem?_eq_none (by simp; omega)] at hi; cases hi
          rw [this] at hi
          simp at hi; subst hi
          have : i = n := by omega
          subst this
          exact ⟨row, q3⟩
    obtain ⟨l, hl, hl2⟩ := hex
    have hcell : ∀ i c j, l[i]? = some c → j < sz → ∃ u, w.cell? (a.add (i * sz + j)) = some u ∧ ∀ y, (C c)[j]? = some y → RelV (Ctx.start w S) y u := fun i c j hi hj => by
      obtain ⟨row, q1, q2, _⟩ := hl2 i c hi
      obtain ⟨q4, q5⟩ := cells_get q1
      have := q5 j hj
      rw [add_add] at this
      refine ⟨row[j], by rw [this]; exact List.getElem?_eq_getElem (by omega), fun y hy => ?_⟩
      obtain ⟨u, q6, q7⟩ := q2.get j y hy
      rw [List.getElem?_eq_getElem (by omega)] at q6
      injection q6 with q6; rw [q6]; exact q7
    refine ⟨l, .vs (.vs (fun i j => (w.cell? (a.add (i * sz + j))).getD undef) (by simp [hl]) h1 (fun r hr => ?_) (fun _ => ⟨a, rfl⟩) (fun ad had i j hi hj => ?_) (fun i j r y hr hy => ?_)), by omega, fun c hc => ?_⟩
    · obtain ⟨c, hc, rfl⟩ := List.mem_map.1 hr
      obtain ⟨i, hi⟩ := List.mem_iff_getElem?.1 hc
      obtain ⟨row, q1, q2, q3, _⟩ := hl2 i c hi
      have := q2.len
      exact ⟨by rw [← this]; exact (cells_get q1).1, fun x hx => static_one (q3 x hx)⟩
    · injection had with had; subst had
      obtain ⟨c, hc⟩ : ∃ c, l[i]? = some c := ⟨l[i], List.getElem?_eq_getElem (by omega)⟩
      obtain ⟨u, q1, _⟩ := hcell i c j hc hj
      refine ⟨by show w.cell? _ = _; rw [q1]; rfl, hS _ ?_⟩
      have : w.cell? (a.add (i * sz + j)) = some u := q1
      unfold World.cell? at this
      rw [add_block] at this
      split at this
      · rename_i hb; exact heap_lt hb
      · cases this
    · rw [List.getElem?_map] at hr
      obtain ⟨c, hc, rfl⟩ := Option.map_eq_some_iff.1 hr
      obtain ⟨row, q1, q2, _⟩ := hl2 i c hc
      have hj : j < sz := by
        have := q2.len
        have h4 := (cells_get q1).1
        rcases Nat.lt_or_ge j (C c).length with h' | h'
        · omega
        · rw [List.getElem?_eq_none h'] at hy; cases hy
      obtain ⟨_, _, _, qs, _⟩ := hl2 i c hc
      obtain ⟨u, q3, q4⟩ := hcell i c j hc hj
      rw [q3]
      exact (q4 y hy).toT (qs y (List.mem_of_getElem? hy))
    · obtain ⟨i, hi⟩ := List.mem_iff_getElem?.1 hc
      obtain ⟨row, _, _, _, q⟩ := hl2 i c hi
      exact q

theorem trod_struct {t : TypeId} {fs : Array Field} (ht : P.underlying t = some (.struct fs)) {fuel : Nat} {cs : List Value} {x : DataW H × List MemPlace} (h : DataW.trod enc P w 0 spare held (fuel + 1) t cs = some x) :
    cs.length = P.cellsOf t ∧ ∀ f, f ∈ fs.toList → ∃ y, DataW.trod enc P w 0 spare held fuel f.type ((cs.drop f.offset).take (P.cellsOf f.type)) = some y := by
  unfold DataW.trod at h
  rw [ht] at h
  split at h <;> first | (cases h; done) | (rename_i e; injection e with e; cases e; done) | skip
  · rename_i he
    injection he with he; injection he with he; subst he
    split at h
    · rename_i hl
      refine ⟨hl, fun f hf => ?_⟩
      simp only [Option.map_eq_some_iff] at h
      obtain ⟨xs, h1, _⟩ := h
      exact mapM_some h1 f hf
    · cases h
  · exfalso
    have hh : ∀ (fs_1 : Array Field), some (TypeDesc.struct fs) = some (TypeDesc.struct fs_1) → False := by assumption
    exact hh fs rfl
end

theorem c3 : Try.prog.cellsOf 3 = 1 := by kernel_rfl
theorem c26 : Try.prog.cellsOf 26 = 1 := by kernel_rfl
theorem c28 : Try.prog.cellsOf 28 = 4 := by kernel_rfl
theorem exsC_map : ∀ l : List Ex', exsC l = l.map exC
  | [] => rfl
  | e :: l => by rw [exsC, exsC_map l]; rfl
theorem exsB_of : ∀ {l : List Ex'}, (∀ e, e ∈ l → exB e) → exsB l
  | [], _ => trivial
  | e :: l, h => ⟨h e (List.mem_cons_self ..), exsB_of fun e he => h e (List.mem_cons_of_mem _ he)⟩
theorem exC_one (e : Ex') : ∀ a, a ∈ exC e → static a = true := by
  obtain ⟨op, n, c, l⟩ := e
  intro a ha
  rw [exC] at ha
  simp only [List.mem_cons, List.not_mem_nil, or_false] at ha
  rcases ha with rfl | rfl | rfl | rfl <;> rfl
theorem maxLen_small : maxLen < 9223372036854775808 := by decide

section
variable {H : Type} {enc : TypeId × Value → H} {w : World} {spare : Nat → Bool} {held : Bool} {S : Nat → Prop}

theorem trod_exprs_of (hS : ∀ b, b < w.heap.size → S b) {fuel : Nat} (ih : ∀ row y, DataW.trod enc Try.prog w 0 spare held fuel 28 row = some y → ∃ e : Ex', RelVs (Ctx.start w S) (exC e) row ∧ exB e) {v : Value} {x : DataW H × List MemPlace}
    (h : DataW.trod enc Try.prog w 0 spare held (fuel + 1) 26 [v] = some x) : ∃ l : List Ex', RelV (Ctx.start w S) (.vs 4 (exsC l)) v ∧ l.length < 9223372036854775808 ∧ exsB l := by
  obtain ⟨l, h1, h2, h3⟩ := rel_vs hS c28 Try.underlying26 h exC exB (fun row y hy => let ⟨e, a, b⟩ := ih row y hy; ⟨e, a, exC_one e, b⟩) (by decide)
  exact ⟨l, by rw [exsC_map]; exact h1, Nat.lt_of_le_of_lt h2 maxLen_small, exsB_of h3⟩

theorem trod_expr (hS : ∀ b, b < w.heap.size → S b) : ∀ (fuel : Nat) (cs : List Value) (x : DataW H × List MemPlace), DataW.trod enc Try.prog w 0 spare held fuel 28 cs = some x → ∃ e : Ex', RelVs (Ctx.start w S) (exC e) cs ∧ exB e := by
  intro fuel
  induction fuel using Nat.strongRecOn with
  | _ fuel ih =>
    intro cs x h
    cases fuel with
    | zero => cases h
    | succ fuel =>
      obtain ⟨hl, hf⟩ := trod_struct Try.underlying28 h
      rw [c28] at hl
      match cs, hl with
      | [a0, a1, a2, a3], _ =>
        obtain ⟨y0, g0⟩ := hf _ (List.mem_cons_self ..)
        obtain ⟨y1, g1⟩ := hf _ (List.mem_cons_of_mem _ (List.mem_cons_self ..))
        obtain ⟨y2, g2⟩ := hf _ (List.mem_cons_of_mem _ (List.mem_cons_of_mem _ (List.mem_cons_self ..)))
        obtain ⟨y3, g3⟩ := hf _ (List.mem_cons_of_mem _ (List.mem_cons_of_mem _ (List.mem_cons_of_mem _ (List.mem_cons_self ..))))
        rw [c3] at g0 g1 g2
        rw [c26] at g3
        obtain ⟨n0, e0⟩ := trod_int Try.underlying3 g0
        obtain ⟨n1, e1⟩ := trod_int Try.underlying3 g1
        obtain ⟨n2, e2⟩ := trod_int Try.underlying3 g2
        simp at e0 e1 e2 g3
        subst e0 e1 e2
        cases fuel with
        | zero => cases g3
        | succ fuel =>
          obtain ⟨l, r1, r2, r3⟩ := trod_exprs_of hS (ih fuel (by omega)) g3
          exact ⟨.mk n0 n1 n2 l, .cons (.int _ _) (.cons (.int _ _) (.cons (.int _ _) (.cons r1 .nil))), r2, r3⟩

theorem trod_exprs (hS : ∀ b, b < w.heap.size → S b) (fuel : Nat) {v : Value} {x : DataW H × List MemPlace} (h : DataW.trod enc Try.prog w 0 spare held fuel 26 [v] = some x) : ∃ l : List Ex', RelV (Ctx.start w S) (.vs 4 (exsC l)) v ∧ l.length < 9223372036854775808 ∧ exsB l := by
  cases fuel with
  | zero => cases h
  | succ fuel => exact trod_exprs_of hS (trod_expr hS fuel) h

theorem c86 : Try.prog.cellsOf 86 = 5 := by kernel_rfl
theorem c23 : Try.prog.cellsOf 23 = 1 := by kernel_rfl
theorem smsC_map : ∀ l : List Sm', smsC l = l.map smC
  | [] => rfl
  | e :: l => by rw [smsC, smsC_map l]; rfl
theorem smsB_of : ∀ {l : List Sm'}, (∀ e, e ∈ l → smB e) → smsB l
  | [], _ => trivial
  | e :: l, h => ⟨h e (List.mem_cons_self ..), smsB_of fun e he => h e (List.mem_cons_of_mem _ he)⟩
theorem smC_one (e : Sm') : ∀ a, a ∈ smC e → static a = true := by
  obtain ⟨op, n, l, t, e⟩ := e
  intro a ha
  rw [smC] at ha
  simp only [List.mem_cons, List.not_mem_nil, or_false] at ha
  rcases ha with rfl | rfl | rfl | rfl | rfl <;> rfl

theorem trod_stmts_of (hS : ∀ b, b < w.heap.size → S b) {fuel : Nat} (ih : ∀ row y, DataW.trod enc Try.prog w 0 spare held fuel 86 row = some y → ∃ e : Sm', RelVs (Ctx.start w S) (smC e) row ∧ smB e) {v : Value} {x : DataW H × List MemPlace}
    (h : DataW.trod enc Try.prog w 0 spare held (fuel + 1) 23 [v] = some x) : ∃ l : List Sm', RelV (Ctx.start w S) (.vs 5 (smsC l)) v ∧ l.length < 9223372036854775808 ∧ smsB l := by
  obtain ⟨l, h1, h2, h3⟩ := rel_vs hS c86 Try.underlying23 h smC smB (fun row y hy => let ⟨e, a, b⟩ := ih row y hy; ⟨e, a, smC_one e, b⟩) (by decide)
  exact ⟨l, by rw [smsC_map]; exact h1, Nat.lt_of_le_of_lt h2 maxLen_small, smsB_of h3⟩

theorem trod_stmt (hS : ∀ b, b < w.heap.size → S b) : ∀ (fuel : Nat) (cs : List Value) (x : DataW H × List MemPlace), DataW.trod enc Try.prog w 0 spare held fuel 86 cs = some x → ∃ e : Sm', RelVs (Ctx.start w S) (smC e) cs ∧ smB e := by
  intro fuel
  induction fuel using Nat.strongRecOn with
  | _ fuel ih =>
    intro cs x h
    cases fuel with
    | zero => cases h
    | succ fuel =>
      obtain ⟨hl, hf⟩ := trod_struct Try.underlying86 h
      rw [c86] at hl
      match cs, hl with
      | [a0, a1, a2, a3, a4], _ =>
        obtain ⟨y0, g0⟩ := hf _ (List.mem_cons_self ..)
        obtain ⟨y1, g1⟩ := hf _ (List.mem_cons_of_mem _ (List.mem_cons_self ..))
        obtain ⟨y2, g2⟩ := hf _ (List.mem_cons_of_mem _ (List.mem_cons_of_mem _ (List.mem_cons_self ..)))
        obtain ⟨y3, g3⟩ := hf _ (List.mem_cons_of_mem _ (List.mem_cons_of_mem _ (List.mem_cons_of_mem _ (List.mem_cons_self ..))))
        obtain ⟨y4, g4⟩ := hf _ (List.mem_cons_of_mem _ (List.mem_cons_of_mem _ (List.mem_cons_of_mem _ (List.mem_cons_of_mem _ (List.mem_cons_self ..)))))
        rw [c3] at g0 g1
        rw [c26] at g2
        rw [c23] at g3 g4
        obtain ⟨n0, e0⟩ := trod_int Try.underlying3 g0
        obtain ⟨n1, e1⟩ := trod_int Try.underlying3 g1
        simp at e0 e1 g2 g3 g4
        subst e0 e1
        obtain ⟨l, r1, r2, r3⟩ := trod_exprs hS fuel g2
        cases fuel with
        | zero => cases g3
        | succ fuel =>
          obtain ⟨t, t1, t2, t3⟩ := trod_stmts_of hS (ih fuel (by omega)) g3
          obtain ⟨e, u1, u2, u3⟩ := trod_stmts_of hS (ih fuel (by omega)) g4
          exact ⟨.mk n0 n1 l t e, .cons (.int _ _) (.cons (.int _ _) (.cons r1 (.cons t1 (.cons u1 .nil)))), ⟨r2, r3⟩, ⟨t2, t3⟩, u2, u3⟩

theorem c76 : Try.prog.cellsOf 76 = 3 := by kernel_rfl
theorem c22 : Try.prog.cellsOf 22 = 1 := by kernel_rfl
theorem c9 : Try.prog.cellsOf 9 = 1 := by kernel_rfl
theorem c25 : Try.prog.cellsOf 25 = 3 := by kernel_rfl

theorem trod_var (fuel : Nat) (cs : List Value) (x : DataW H × List MemPlace) (h : DataW.trod enc Try.prog w 0 spare held fuel 76 cs = some x) : ∃ e : Vr', RelVs (Ctx.start w S) (vrC e) cs ∧ (∀ a, a ∈ vrC e → static a = true) ∧ vrB e := by
  cases fuel with
  | zero => cases h
  | succ fuel =>
    obtain ⟨hl, hf⟩ := trod_struct Try.underlying76 h
    rw [c76] at hl
    match cs, hl with
    | [a0, a1, a2], _ =>
      obtain ⟨y0, g0⟩ := hf _ (List.mem_cons_self ..)
      obtain ⟨y1, g1⟩ := hf _ (List.mem_cons_of_mem _ (List.mem_cons_self ..))
      obtain ⟨y2, g2⟩ := hf _ (List.mem_cons_of_mem _ (List.mem_cons_of_mem _ (List.mem_cons_self ..)))
      rw [c9] at g0
      rw [c3] at g1 g2
      obtain ⟨n0, e0, hn⟩ := trod_str Try.underlying9 g0
      obtain ⟨n1, e1⟩ := trod_int Try.underlying3 g1
      obtain ⟨n2, e2⟩ := trod_int Try.underlying3 g2
      simp at e0 e1 e2
      subst e0 e1 e2
      refine ⟨⟨n0, n1, n2⟩, .cons (.str _) (.cons (.int _ _) (.cons (.int _ _) .nil)), fun a ha => ?_, Nat.lt_of_le_of_lt hn maxLen_small⟩
      simp only [vrC, List.mem_cons, List.not_mem_nil, or_false] at ha
      rcases ha with rfl | rfl | rfl <;> rfl

theorem trod_prog (hS : ∀ b, b < w.heap.size → S b) (fuel : Nat) (cs : List Value) (x : DataW H × List MemPlace) (h : DataW.trod enc Try.prog w 0 spare held fuel 25 cs = some x) : ∃ p : Pr', RelVs (Ctx.start w S) (prC p) cs ∧ prB p := by
  cases fuel with
  | zero => cases h
  | succ fuel =>
    obtain ⟨hl, hf⟩ := trod_struct Try.underlying25 h
    rw [c25] at hl
    match cs, hl with
    | [a0, a1, a2], _ =>
      obtain ⟨y0, g0⟩ := hf _ (List.mem_cons_self ..)
      obtain ⟨y1, g1⟩ := hf _ (List.mem_cons_of_mem _ (List.mem_cons_self ..))
      obtain ⟨y2, g2⟩ := hf _ (List.mem_cons_of_mem _ (List.mem_cons_of_mem _ (List.mem_cons_self ..)))
      rw [c3] at g0
      rw [c22] at g1
      rw [c23] at g2
      obtain ⟨n0, e0⟩ := trod_int Try.underlying3 g0
      simp at e0 g1 g2
      subst e0
      cases fuel with
      | zero => cases g1
      | succ fuel =>
        obtain ⟨vs, v1, v2, v3⟩ := rel_vs hS c76 Try.underlying22 g1 vrC vrB (fun row y hy => trod_var (S := S) fuel row y hy) (by decide)
        obtain ⟨l, r1, r2, r3⟩ := trod_stmts_of hS (trod_stmt hS fuel) g2
        exact ⟨⟨n0, vs, l⟩, .cons (.int _ _) (.cons v1 (.cons r1 .nil)), ⟨Nat.lt_of_le_of_lt v2 maxLen_small, v3⟩, r2, r3⟩
end
end Go.Proofs.Ytelobnllkhnpaaa.L
/- An argument of ints. -/
open Go Go.Proofs Go.Ev Go.Proofs.Ytelobnllkhnpaaa.E
namespace Go.Proofs.Ytelobnllkhnpaaa.L
set_option linter.unusedVariables false
set_option linter.unusedSimpArgs false
set_option maxHeartbeats 2000000
set_option maxRecDepth 100000

section
variable {H : Type} {enc : TypeId × Value → H} {w : World} {spare : Nat → Bool} {held : Bool} {S : Nat → Prop}
theorem cells_int : Try.prog.cellsOf 3 = 1 := by kernel_rfl
theorem trod_ints (hS : ∀ b, b < w.heap.size → S b) (fuel : Nat) {v : Value} {x : DataW H × List MemPlace} (h : DataW.trod enc Try.prog w 0 spare held fuel 38 [v] = some x) : ∃ l : List Int, RelV (Ctx.start w S) (.vs 1 (intsC l)) v ∧ l.length < 9223372036854775808 := by
  cases fuel with
  | zero => cases h
  | succ fuel =>
    obtain ⟨l, h1, h2, _⟩ := rel_vs hS cells_int Try.underlying38 h (fun n : Int => [AV.int .i64 n]) (fun _ => True) (fun row y hy => by
      obtain ⟨n, e⟩ := trod_int Try.underlying3 hy
      subst e
      exact ⟨n, .cons (.int _ _) .nil, fun a ha => by simp at ha; subst ha; rfl, trivial⟩) (by decide)
    exact ⟨l, h1, Nat.lt_of_le_of_lt h2 maxLen_small⟩
end
end Go.Proofs.Ytelobnllkhnpaaa.L
