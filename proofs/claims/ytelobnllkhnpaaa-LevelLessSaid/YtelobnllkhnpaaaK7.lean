/- Types that move: Moved in the program; the law LevelMoves. -/
import Derived.Test.YtelobnllkhnpaaaK6
open Go Go.Proofs Go.Ev Go.Proofs.Ytelobnllkhnpaaa.E
namespace Go.Proofs.Ytelobnllkhnpaaa.L
set_option linter.unusedVariables false
set_option linter.unusedSimpArgs false
set_option maxHeartbeats 2000000
set_option maxRecDepth 100000

theorem headRF_mem {all : List Vr'} : ∀ (vs : List Vr') (i sum : Int), headRF all vs i sum = true → ∀ v, v ∈ vs → nameB v.name = true ∧ varB v = true
  | [], _, _, _, v, hv => by cases hv
  | x :: vs, i, sum, h, v, hv => by
    rw [headRF] at h
    simp only [Bool.and_eq_true] at h
    obtain ⟨⟨⟨h1, h2⟩, _⟩, h4⟩ := h
    rcases List.mem_cons.1 hv with rfl | hv
    · exact ⟨h1, h2⟩
    · exact headRF_mem vs _ _ h4 v hv
theorem isP_var {p : Pr'} (h : isP p = true) {v : Vr'} (hv : v ∈ p.vars) : nameB v.name = true ∧ varB v = true := by
  unfold isP at h
  simp only [Bool.and_eq_true] at h
  have h1 := h.1.1.1
  unfold headRB at h1
  simp only [Bool.and_eq_true] at h1
  exact headRF_mem p.vars 0 0 h1.2 v hv
theorem isP_level {p : Pr'} (h : isP p = true) (hs : singleR p = true) {v : Vr'} (hv : v ∈ p.vars) : 0 ≤ v.level ∧ v.level ≤ 15 := by
  have h1 := (isP_var h hv).2
  unfold varB at h1
  simp only [Bool.and_eq_true, Bool.not_eq_true', decide_eq_false_iff_not] at h1
  unfold singleR at hs
  simp only [Bool.and_eq_true] at hs
  have h2 := List.all_eq_true.1 hs.1 v hv
  simp only [Bool.not_eq_true', decide_eq_false_iff_not] at h2
  omega
theorem levs_B {p : Pr'} (h : isP p = true) (hs : singleR p = true) : lvsB (levs p) := fun x hx => by
  obtain ⟨v, hv, rfl⟩ := List.mem_map.1 hx
  have := isP_level h hs hv
  unfold lvB; omega
theorem hand_three {h H : Heap} {a b a' b' : AV} {n : Int} (h1 : frz1 H h.length a = some a') (h2 : frz1 H h.length b = some b') (n1 : ∀ xs, a ≠ .agg xs) (n2 : ∀ xs, b ≠ .agg xs) : hand true h (.tup [a, b, .int .i64 n]) H = some (.tup [a', b', .int .i64 n], h) := by
  have q1 : frz2 H h.length a = some a' := by
    unfold frz2
    split
    · exact absurd rfl (n1 _)
    · exact h1
  have q2 : frz2 H h.length b = some b' := by
    unfold frz2
    split
    · exact absurd rfl (n2 _)
    · exact h2
  have q3 : frz2 H h.length (.int .i64 n) = some (.int .i64 n) := rfl
  unfold hand
  rw [if_pos rfl]
  simp only [frz, frzM, q1, q2, q3]

def lastP (p : Pr') : List Int := mvL putP ofH p.body (levs p) 0
def flsP (p : Pr') : List (List AV) := (plL putP ofH p.body (levs p) 0 0).flatMap flPl
theorem foldl_flat {α β : Type} (f : α → List β) : ∀ (l : List α) (x : List β), l.foldl (fun x p => x ++ f p) x = x ++ l.flatMap f
  | [], x => by simp
  | a :: l, x => by rw [List.foldl_cons, foldl_flat f l, List.flatMap_cons, List.append_assoc]
theorem spM_eq {p : Pr'} (hP : isP p = true) (hN : smsN p.body ≤ 600) : (spL putP ofH updM p.body (levs p) 0 [] 0).1 = flsP p := by
  rw [spL_eq updM p.body (levs p) 0 _ 0 (isP_rows hP) (by omega) (by omega)]
  have : updP updM = fun x q => x ++ flPl q := rfl
  dsimp only
  rw [this, foldl_flat, List.nil_append]
  rfl
set_option maxHeartbeats 1000000 in
theorem movedP_run (p : Pr') (hP : isP p = true) (hS : singleR p = true) (hN : smsN p.body ≤ 600) (k : Nat) (hk : smsK p.body + p.vars.length + 1340 ≤ k) (hb : prB p) (h : Heap) (lo : Nat) :
    call Try.prog cfg (k + 1) lo (.func 23) [.agg (prC p)] h = some (.tup [.vs 1 (intsC (lastP p)), accV 3 (flsP p), .int .i64 0], h) := by
  obtain ⟨_, hv1, hv2⟩ := isP_head hP
  have hvm := rows_vm _ (isP_rows hP)
  have hB := levs_B hP hS
  have hC := levcheck_run p (k - 1) (by omega) hb h h.length
  have hf : faultI p = 0 := by unfold faultI; rw [hP, hS]; rfl
  rw [show k - 1 + 1 = k by omega, chk_eq p hN, hf] at hC
  have hsc := scs_le p.body
  have hSB : (seeM h.length).B (scs p.body + 0) ([] : List (List AV)) (h ++ [HObj.cells 41 [.nils]]) (fun i => i = h.length) := by
    refine ⟨(fun r hr => by cases hr), (by simp; omega), .inl ⟨rfl, by simp, fun i => Iff.rfl⟩⟩
  obtain ⟨out, c1, id, O', o1, o2, o3, o4, o5, o6⟩ := all_run p (seeM h.length) h.length 10 (seeM_ok h.length p.vars.length h.length (Nat.le_refl _)) (k - 1) (by omega) hb hv1 hv2 hvm hB ([] : List (List AV)) (h ++ [HObj.cells 41 [.nils]]) (by simp) (fun i => i = h.length) 0 hSB
  have c1' : call Try.prog cfg k h.length (.func 57) [.agg (prC p), .fn (.func 58) [.hp h.length 1 0]] (h ++ [.cells 41 [.nils]]) = some out := by
    rw [show k - 1 + 1 = k by omega] at c1
    exact c1
  clear c1
  obtain ⟨ov, H'⟩ := out
  dsimp only at o1 o2 o3 o4 o6
  subst o1
  have o3' : (seeM h.length).B 0 (spL putP ofH updM p.body (levs p) 0 [] 0).1 H' O' := o3
  clear o3
  rw [spM_eq hP hN] at o3'
  have hlast : (lastP p).length = p.vars.length := (mvL_ok (mvP_ok p.vars.length) p.body (levs p) 0 (levs_len p) hB lvB0 hvm).1
  have o2' : H'[id]? = some (.cells 3 (ic (lastP p))) := o2
  have z1 := frz_ic o2' (show h.length ≤ id by simp at o6; omega)
  rw [hlast] at z1
  have z2 : ∃ ov, H'[h.length]? = some (.cells 41 [ov]) ∧ frz1 H' h.length ov = some (accV 3 (flsP p)) ∧ ∀ xs, ov ≠ .agg xs := by
    obtain ⟨r1, r2, r3⟩ := o3'
    generalize flsP p = X at r1 r2 r3
    rcases r3 with ⟨rfl, q2, _⟩ | ⟨jd, q0, q1, q2, q3, _⟩
    · exact ⟨.nils, q2, rfl, fun _ => by simp⟩
    · refine ⟨_, q2, ?_, fun _ => by simp⟩
      rw [frz_rows X (fun r hr => r1 r hr) q3 (by omega)]
      cases X with
      | nil => exact absurd rfl q1
      | cons _ _ => rfl
  obtain ⟨fv, z2, z3, z4⟩ := z2
  have hfin := hand_three (n := 0) z1 z3 (fun _ => by simp) z4
  generalize lastP p = M at hfin
  generalize flsP p = X at hfin
  obtain ⟨w, vs, body⟩ := p
  dsimp only at hfin c1'
  apply W_call Try.func23 rfl (Nat.le_of_ble_eq_true rfl) rfl rfl
  (repeat' (first | apply W_seq | refine W_true rfl rfl ?_ | refine W_false rfl rfl ?_ | refine W_region (id := 0) rfl rfl ?_ | (refine W_ops (id := 1) rfl ?_ <;> refine T_ch 1 rfl ?_ <;> (refine T_go rfl ?_; refine G_op (O_call rfl rfl rfl rfl (by assumption)) ?_) <;> refine T_ch 1 rfl ?_ <;> apply T_nil) | (refine W_ops (id := 2) rfl ?_ <;> refine T_ch 1 rfl ?_ <;> (refine T_go rfl ?_; refine G_false rfl rfl ?_) <;> apply T_nil) | refine W_region (id := 4) rfl rfl ?_ | (refine W_ops (id := 5) rfl ?_ <;> refine T_ch 2 rfl ?_ <;> (refine T_go rfl ?_; refine G_op (O_call rfl rfl rfl rfl (by assumption)) ?_) <;> refine T_ch 1 rfl ?_ <;> apply T_nil) | (refine W_dops (id := 6) (bs := [0, 0, 1, 7, 15]) rfl (by decide +kernel) ?_ <;> (refine U_go rfl ?_; refine H_free (by decide +kernel) rfl rfl rfl rfl rfl ?_) <;> (refine U_go rfl ?_; refine H_free (by decide +kernel) rfl (O_loadH rfl rfl rfl (by assumption) rfl rfl) rfl rfl rfl ?_) <;> (refine U_go rfl ?_; refine H_free (by decide +kernel) rfl rfl rfl rfl rfl ?_) <;> (refine U_go rfl ?_; refine H_op (by decide +kernel) rfl ?_) <;> (refine U_go rfl ?_; refine H_op (by decide +kernel) rfl ?_) <;> apply U_nil) | apply W_skip | apply W_block | apply W_ret | apply W_exit | refine W_true rfl (by assumption) ?_ | refine W_false rfl (by assumption) ?_ | refine W_cond rfl (fun _ => ?_) (fun _ => ?_)))
  exact ⟨.inl rfl, hfin⟩
theorem movedP_bad (p : Pr') (hN : smsN p.body ≤ 600) (hf : faultI p ≠ 0) (k : Nat) (hk : smsK p.body + p.vars.length + 100 ≤ k) (hb : prB p) (h : Heap) (lo : Nat) :
    call Try.prog cfg (k + 1) lo (.func 23) [.agg (prC p)] h = some (.tup [.nils, .nils, .int .i64 (faultI p)], h) := by
  have hC := levcheck_run p (k - 1) (by omega) hb h h.length
  rw [show k - 1 + 1 = k by omega, chk_eq p hN] at hC
  rcases faultI_cases p with ⟨h0, _, _⟩ | h1 | h1
  · exact absurd h0 hf
  · rw [h1] at hC ⊢
    obtain ⟨w, vs, body⟩ := p
    apply W_call Try.func23 rfl (Nat.le_of_ble_eq_true rfl) rfl rfl
    (repeat' (first | apply W_seq | refine W_true rfl rfl ?_ | refine W_false rfl rfl ?_ | refine W_region (id := 0) rfl rfl ?_ | (refine W_ops (id := 1) rfl ?_ <;> refine T_ch 1 rfl ?_ <;> (refine T_go rfl ?_; refine G_op (O_call rfl rfl rfl rfl (by assumption)) ?_) <;> refine T_ch 1 rfl ?_ <;> apply T_nil) | (refine W_ops (id := 2) rfl ?_ <;> refine T_ch 1 rfl ?_ <;> (refine T_go rfl ?_; refine G_true rfl rfl ?_) <;> apply T_nil) | refine W_region (id := 3) rfl rfl ?_ | apply W_skip | apply W_block | apply W_ret | apply W_exit | refine W_true rfl (by assumption) ?_ | refine W_false rfl (by assumption) ?_ | refine W_cond rfl (fun _ => ?_) (fun _ => ?_)))
    exact ⟨.inl rfl, rfl⟩
  · rw [h1] at hC ⊢
    obtain ⟨w, vs, body⟩ := p
    apply W_call Try.func23 rfl (Nat.le_of_ble_eq_true rfl) rfl rfl
    (repeat' (first | apply W_seq | refine W_true rfl rfl ?_ | refine W_false rfl rfl ?_ | refine W_region (id := 0) rfl rfl ?_ | (refine W_ops (id := 1) rfl ?_ <;> refine T_ch 1 rfl ?_ <;> (refine T_go rfl ?_; refine G_op (O_call rfl rfl rfl rfl (by assumption)) ?_) <;> refine T_ch 1 rfl ?_ <;> apply T_nil) | (refine W_ops (id := 2) rfl ?_ <;> refine T_ch 1 rfl ?_ <;> (refine T_go rfl ?_; refine G_true rfl rfl ?_) <;> apply T_nil) | refine W_region (id := 3) rfl rfl ?_ | apply W_skip | apply W_block | apply W_ret | apply W_exit | refine W_true rfl (by assumption) ?_ | refine W_false rfl (by assumption) ?_ | refine W_cond rfl (fun _ => ?_) (fun _ => ?_)))
    exact ⟨.inl rfl, rfl⟩
theorem flPls_num : ∀ l : List Pl, ∃ fl : List (Int × Int × Int), l.flatMap flPl = fl.map flC
  | [] => ⟨[], rfl⟩
  | p :: l => by
    obtain ⟨f2, h2⟩ := flPls_num l
    obtain ⟨f1, h1⟩ : ∃ f1 : List (Int × Int × Int), flPl p = f1.map flC := by
      obtain ⟨n, ⟨op, nn, a, t, e⟩, lv, ar⟩ := p
      unfold flPl
      dsimp only
      split
      · exact flowL_num _ _ _
      · exact ⟨[], rfl⟩
    exact ⟨f1 ++ f2, by rw [List.flatMap_cons, h1, h2, List.map_append]⟩

theorem levelMoves_run (p : Pr') (k : Nat) (hk : smsK p.body + p.vars.length + 1400 ≤ k) (hb : prB p) (h : Heap) (lo : Nat) :
    call Try.prog cfg (k + 1) lo (.func 5) [.agg (prC p)] h = some (.bool true, h) := by
  have hA := awake_run k h.length h (by omega)
  have h1 := fitsS_run (k - 1) h h.length p.body (by omega) hb.2.1 hb.2.2 600
  rw [show k - 1 + 1 = k by omega] at h1
  cases hf : fitsS p.body 600 with
  | false =>
    rw [hf] at h1
    obtain ⟨w, vs, body⟩ := p
    apply W_call Try.func5 rfl (Nat.le_of_ble_eq_true rfl) rfl rfl
    (repeat' (first | apply W_seq | refine W_true rfl rfl ?_ | refine W_false rfl rfl ?_ | refine W_region (id := 0) rfl rfl ?_ | (refine W_ops (id := 1) rfl ?_ <;> refine T_ch 2 rfl ?_ <;> (refine T_go rfl ?_; refine G_false (O_call rfl rfl rfl rfl (by assumption)) rfl ?_) <;> refine T_ch 1 rfl ?_ <;> apply T_nil) | (refine W_ops (id := 2) rfl ?_ <;> (refine T_go rfl ?_; refine G_true (O_call rfl rfl rfl rfl (by assumption)) rfl ?_) <;> refine T_ch 1 rfl ?_ <;> apply T_nil) | apply W_skip | apply W_block | apply W_ret | apply W_exit | refine W_true rfl (by assumption) ?_ | refine W_false rfl (by assumption) ?_ | refine W_cond rfl (fun _ => ?_) (fun _ => ?_)))
    all_goals exact ⟨.inl rfl, rfl⟩
  | true =>
  rw [hf] at h1
  have hN : smsN p.body ≤ 600 := by
    rw [fitsS_eq _ _ (by omega) (by omega)] at hf
    have := of_decide_eq_true hf
    omega
  have hF := fault_run p (k - 1) (by omega) hb h h.length
  rw [show k - 1 + 1 = k by omega] at hF
  rcases faultI_cases p with ⟨hf, hP, hS⟩ | hf | hf
  · rw [hf] at hF
    have hC := movedP_run p hP hS hN (k - 1) (by omega) hb h h.length
    obtain ⟨_, hv1, hv2⟩ := isP_head hP
    have hrows := isP_rows hP
    have hvm := rows_vm _ hrows
    have hB := levs_B hP hS
    have hR := movedR_run p (k - 1) (by omega) hN hb hv1 hv2 hvm hB h h.length
    have e1 : lastP p = lastR p := mvL_eq p.body (levs p) 0 hrows (levs_len p) hB lvB0
    have e2 : flsP p = (plsR p).flatMap flPl := by
      unfold flsP plsR
      rw [plL_eq p.body (levs p) 0 0 hrows (levs_len p) hB lvB0]
    rw [e1, e2] at hC
    have hlast : (lastR p).length = p.vars.length := (mvL_ok (mvR_ok p.vars p.vars.length) p.body (levs p) 0 (levs_len p) hB lvB0 hvm).1
    have hlen := plL_len (putR p.vars) ofA p.body (levs p) 0 0
    have hlen2 := flPls_len (plsR p)
    obtain ⟨fl, hfl⟩ := flPls_num (plsR p)
    rw [hfl] at hC hR hlen2
    rw [List.length_map] at hlen2
    have hlen3 : fl.length ≤ 600 := Nat.le_trans hlen2 (Nat.le_trans hlen hN)
    have hW := lawflows_run fl (k - 1) (by omega) (by omega) h h.length
    have hSm := same_run fl (k - 1) (by omega) (by omega) h h.length
    have hWs := wsame_run (lastR p) (lastR p) (by omega) (k - 1) (by omega) h h.length
    rw [show k - 1 + 1 = k by omega] at hC hR hW hSm hWs
    rw [decide_eq_true rfl] at hWs
    generalize accV 3 (fl.map flC) = V at hC hR hW hSm
    generalize intsC (lastR p) = M at hC hR hWs
    obtain ⟨w, vs, body⟩ := p
    apply W_call Try.func5 rfl (Nat.le_of_ble_eq_true rfl) rfl rfl
    (repeat' (first | apply W_seq | refine W_true rfl rfl ?_ | refine W_false rfl rfl ?_ | refine W_region (id := 0) rfl rfl ?_ | (refine W_ops (id := 1) rfl ?_ <;> refine T_ch 2 rfl ?_ <;> (refine T_go rfl ?_; refine G_true (O_call rfl rfl rfl rfl (by assumption)) rfl ?_) <;> refine T_ch 1 rfl ?_ <;> apply T_nil) | (refine W_ops (id := 3) rfl ?_ <;> refine T_ch 1 rfl ?_ <;> (refine T_go rfl ?_; refine G_op (O_call rfl rfl rfl rfl (by assumption)) ?_) <;> refine T_ch 7 rfl ?_ <;> apply T_nil) | (refine W_ops (id := 4) rfl ?_ <;> refine T_ch 1 rfl ?_ <;> (refine T_go rfl ?_; refine G_op (O_call rfl rfl rfl rfl (by assumption)) ?_) <;> refine T_ch 1 rfl ?_ <;> apply T_nil) | (refine W_ops (id := 5) rfl ?_ <;> refine T_ch 1 rfl ?_ <;> (refine T_go rfl ?_; refine G_false rfl rfl ?_) <;> apply T_nil) | (refine W_ops (id := 7) rfl ?_ <;> refine T_ch 1 rfl ?_ <;> (refine T_go rfl ?_; refine G_op (O_call rfl rfl rfl rfl (by assumption)) ?_) <;> refine T_ch 5 rfl ?_ <;> apply T_nil) | (refine W_ops (id := 8) rfl ?_ <;> refine T_ch 1 rfl ?_ <;> (refine T_go rfl ?_; refine G_true rfl rfl ?_) <;> refine T_ch 3 rfl ?_ <;> (refine T_go rfl ?_; refine G_true (O_call rfl rfl rfl rfl (by assumption)) rfl ?_) <;> refine T_ch 3 rfl ?_ <;> (refine T_go rfl ?_; refine G_op (O_call rfl rfl rfl rfl (by assumption)) ?_) <;> refine T_ch 1 rfl ?_ <;> (refine T_go rfl ?_; refine G_true (O_call rfl rfl rfl rfl (by assumption)) rfl ?_) <;> refine T_ch 2 rfl ?_ <;> (refine T_go rfl ?_; refine G_true (O_call rfl rfl rfl rfl (by assumption)) rfl ?_) <;> refine T_ch 2 rfl ?_ <;> apply T_nil) | apply W_skip | apply W_block | apply W_ret | apply W_exit | refine W_true rfl (by assumption) ?_ | refine W_false rfl (by assumption) ?_ | refine W_cond rfl (fun _ => ?_) (fun _ => ?_)))
    all_goals exact ⟨.inl rfl, rfl⟩
  · have hC := movedP_bad p hN (by omega) (k - 1) (by omega) hb h h.length
    rw [show k - 1 + 1 = k by omega] at hC
    rw [hf] at hC hF
    obtain ⟨w, vs, body⟩ := p
    apply W_call Try.func5 rfl (Nat.le_of_ble_eq_true rfl) rfl rfl
    (repeat' (first | apply W_seq | refine W_true rfl rfl ?_ | refine W_false rfl rfl ?_ | refine W_region (id := 0) rfl rfl ?_ | (refine W_ops (id := 1) rfl ?_ <;> refine T_ch 2 rfl ?_ <;> (refine T_go rfl ?_; refine G_true (O_call rfl rfl rfl rfl (by assumption)) rfl ?_) <;> refine T_ch 1 rfl ?_ <;> apply T_nil) | (refine W_ops (id := 3) rfl ?_ <;> refine T_ch 1 rfl ?_ <;> (refine T_go rfl ?_; refine G_op (O_call rfl rfl rfl rfl (by assumption)) ?_) <;> refine T_ch 7 rfl ?_ <;> apply T_nil) | (refine W_ops (id := 4) rfl ?_ <;> refine T_ch 1 rfl ?_ <;> (refine T_go rfl ?_; refine G_op (O_call rfl rfl rfl rfl (by assumption)) ?_) <;> refine T_ch 1 rfl ?_ <;> apply T_nil) | (refine W_ops (id := 5) rfl ?_ <;> refine T_ch 1 rfl ?_ <;> (refine T_go rfl ?_; refine G_true rfl rfl ?_) <;> apply T_nil) | (refine W_ops (id := 6) rfl ?_ <;> refine T_ch 2 rfl ?_ <;> (refine T_go rfl ?_; refine G_true rfl rfl ?_) <;> refine T_ch 3 rfl ?_ <;> (refine T_go rfl ?_; refine G_true rfl rfl ?_) <;> refine T_ch 4 rfl ?_ <;> (refine T_go rfl ?_; refine G_true rfl rfl ?_) <;> refine T_ch 2 rfl ?_ <;> (refine T_go rfl ?_; refine G_true (O_call rfl rfl rfl rfl (by assumption)) rfl ?_) <;> refine T_ch 2 rfl ?_ <;> apply T_nil) | apply W_skip | apply W_block | apply W_ret | apply W_exit | refine W_true rfl (by assumption) ?_ | refine W_false rfl (by assumption) ?_ | refine W_cond rfl (fun _ => ?_) (fun _ => ?_)))
    all_goals exact ⟨.inl rfl, rfl⟩
  · have hC := movedP_bad p hN (by omega) (k - 1) (by omega) hb h h.length
    rw [show k - 1 + 1 = k by omega] at hC
    rw [hf] at hC hF
    obtain ⟨w, vs, body⟩ := p
    apply W_call Try.func5 rfl (Nat.le_of_ble_eq_true rfl) rfl rfl
    (repeat' (first | apply W_seq | refine W_true rfl rfl ?_ | refine W_false rfl rfl ?_ | refine W_region (id := 0) rfl rfl ?_ | (refine W_ops (id := 1) rfl ?_ <;> refine T_ch 2 rfl ?_ <;> (refine T_go rfl ?_; refine G_true (O_call rfl rfl rfl rfl (by assumption)) rfl ?_) <;> refine T_ch 1 rfl ?_ <;> apply T_nil) | (refine W_ops (id := 3) rfl ?_ <;> refine T_ch 1 rfl ?_ <;> (refine T_go rfl ?_; refine G_op (O_call rfl rfl rfl rfl (by assumption)) ?_) <;> refine T_ch 7 rfl ?_ <;> apply T_nil) | (refine W_ops (id := 4) rfl ?_ <;> refine T_ch 1 rfl ?_ <;> (refine T_go rfl ?_; refine G_op (O_call rfl rfl rfl rfl (by assumption)) ?_) <;> refine T_ch 1 rfl ?_ <;> apply T_nil) | (refine W_ops (id := 5) rfl ?_ <;> refine T_ch 1 rfl ?_ <;> (refine T_go rfl ?_; refine G_true rfl rfl ?_) <;> apply T_nil) | (refine W_ops (id := 6) rfl ?_ <;> refine T_ch 2 rfl ?_ <;> (refine T_go rfl ?_; refine G_true rfl rfl ?_) <;> refine T_ch 3 rfl ?_ <;> (refine T_go rfl ?_; refine G_true rfl rfl ?_) <;> refine T_ch 4 rfl ?_ <;> (refine T_go rfl ?_; refine G_true rfl rfl ?_) <;> refine T_ch 2 rfl ?_ <;> (refine T_go rfl ?_; refine G_true (O_call rfl rfl rfl rfl (by assumption)) rfl ?_) <;> refine T_ch 2 rfl ?_ <;> apply T_nil) | apply W_skip | apply W_block | apply W_ret | apply W_exit | refine W_true rfl (by assumption) ?_ | refine W_false rfl (by assumption) ?_ | refine W_cond rfl (fun _ => ?_) (fun _ => ?_)))
    all_goals exact ⟨.inl rfl, rfl⟩
end Go.Proofs.Ytelobnllkhnpaaa.L
/- Infer: the program's way and the reference's come to the same; plain. -/
open Go Go.Proofs Go.Ev Go.Proofs.Ytelobnllkhnpaaa.E
namespace Go.Proofs.Ytelobnllkhnpaaa.L
set_option linter.unusedVariables false
set_option linter.unusedSimpArgs false
set_option maxHeartbeats 2000000
set_option maxRecDepth 100000

/-! ### Numbers of statements -/
mutual
theorem cs1_num : ∀ (s : Sm') (ar : List Int → Int) (n : Int), 0 ≤ n → n + smN s < 1000000 → (∀ c, c ∈ cs1 s ar n → n ≤ c.at_ ∧ c.at_ < n + sc1 s) ∧ (cs1 s ar n).Pairwise (fun c d => c.at_ < d.at_)
  | .mk op nn a t e, ar, n, h0, h1 => by
    rw [smN] at h1
    have hst := scs_le t
    have hse := scs_le e
    obtain ⟨t1, t2⟩ := csL_num t (fun lv => orI (ar lv) (ofEs lv 0 a)) (n + 1) (by omega) (by omega)
    obtain ⟨e1, e2⟩ := csL_num e (fun lv => orI (ar lv) (ofEs lv 0 a)) (n + 1 + scs t) (by omega) (by omega)
    have q2 : cntL t 0 = scs t := by rw [cntL_eq t 0 (by omega) (by omega)]; omega
    rw [cs1, sc1, wsm (n := n + 1) (by omega) (by omega), q2, wsm (n := n + 1 + _) (by omega) (by omega)]
    constructor
    · intro c hc
      rcases List.mem_cons.1 hc with rfl | hc
      · dsimp only; omega
      · rcases List.mem_append.1 hc with hc | hc
        · have := t1 c hc; omega
        · have := e1 c hc; omega
    · refine List.pairwise_cons.2 ⟨fun c hc => ?_, List.pairwise_append.2 ⟨t2, e2, fun c hc d hd => ?_⟩⟩
      · rcases List.mem_append.1 hc with hc | hc
        · have := t1 c hc; dsimp only; omega
        · have := e1 c hc; dsimp only; omega
      · have := t1 c hc
        have := e1 d hd
        omega
theorem csL_num : ∀ (l : List Sm') (ar : List Int → Int) (n : Int), 0 ≤ n → n + smsN l < 1000000 → (∀ c, c ∈ csL l ar n → n ≤ c.at_ ∧ c.at_ < n + scs l) ∧ (csL l ar n).Pairwise (fun c d => c.at_ < d.at_)
  | [], ar, n, h0, h1 => by rw [csL]; exact ⟨(fun c hc => by cases hc), .nil⟩
  | s :: l, ar, n, h0, h1 => by
    rw [smsN] at h1
    have := sc1_le s
    obtain ⟨a1, a2⟩ := cs1_num s ar n h0 (by omega)
    obtain ⟨b1, b2⟩ := csL_num l ar (n + sc1 s) (by omega) (by omega)
    rw [csL, scs, cnt1_eq s n h0 (by omega)]
    constructor
    · intro c hc
      rcases List.mem_append.1 hc with hc | hc
      · have := a1 c hc; omega
      · have := b1 c hc; omega
    · refine List.pairwise_append.2 ⟨a2, b2, fun c hc d hd => ?_⟩
      have := a1 c hc
      have := b1 d hd
      omega
end
def updC (x : List (Int × Int)) (c : Cn) : List (Int × Int) := if c.op = 0 ∨ c.op = 4 then putI x c.at_ c.nn else x
mutual
theorem walk1_cs : ∀ (s : Sm') (x : List (Int × Int)) (ar : List Int → Int) (n : Int), 0 ≤ n → n + smN s < 1000000 → walk1 (yU updT) s x n = (true, (cs1 s ar n).foldl updC x, n + sc1 s)
  | .mk op nn a t e, x, ar, n, h0, h1 => by
    rw [smN] at h1
    have hst := scs_le t
    have hse := scs_le e
    have q2 : cntL t 0 = scs t := by rw [cntL_eq t 0 (by omega) (by omega)]; omega
    have hw : IntKind.i64.wrap (IntKind.i64.wrap (n + 1) - 1) = n := by rw [wsm (n := n + 1) (by omega) (by omega), wsm (by omega) (by omega)]; omega
    rw [walk1, cs1, sc1, hw, wsm (n := n + 1) (by omega) (by omega), q2, wsm (n := n + 1 + _) (by omega) (by omega)]
    rw [if_pos (show (yU updT x n (.mk op nn a t e)).1 = true from rfl)]
    have hy : (yU updT x n (.mk op nn a t e)).2 = updC x ⟨n, op, nn, fun lv => orI (ar lv) (ofEs lv 0 a)⟩ := rfl
    rw [hy, walkL_cs t _ (fun lv => orI (ar lv) (ofEs lv 0 a)) (n + 1) (by omega) (by omega)]
    dsimp only
    rw [if_pos rfl, walkL_cs e _ (fun lv => orI (ar lv) (ofEs lv 0 a)) (n + 1 + scs t) (by omega) (by omega), List.foldl_cons, List.foldl_append]
    congr 2
    omega
theorem walkL_cs : ∀ (l : List Sm') (x : List (Int × Int)) (ar : List Int → Int) (n : Int), 0 ≤ n → n + smsN l < 1000000 → walkL (yU updT) l x n = (true, (csL l ar n).foldl updC x, n + scs l)
  | [], x, ar, n, h0, h1 => by rw [walkL, csL, scs]; simp
  | s :: l, x, ar, n, h0, h1 => by
    rw [smsN] at h1
    have := sc1_le s
    rw [walkL, walk1_cs s x ar n h0 (by omega)]
    dsimp only
    rw [if_pos rfl, walkL_cs l _ ar (n + sc1 s) (by omega) (by omega), csL, scs, cnt1_eq s n h0 (by omega), List.foldl_append]
    congr 2
    omega
end
theorem findI_put (a n v : Int) : ∀ l : List (Int × Int), findI (putI l n v) a = if a = n then some v else findI l a
  | [] => by simp [putI, findI]
  | (b, w) :: l => by
    have ih := findI_put a n v l
    simp only [putI]
    by_cases h : n = b
    · rw [if_pos h]
      subst h
      simp only [findI]
      by_cases h2 : a = n <;> simp [h2]
    · rw [if_neg h]
      simp only [findI, ih]
      by_cases h2 : a = b
      · rw [if_pos h2, if_pos h2, if_neg (by omega)]
      · rw [if_neg h2, if_neg h2]
theorem find_other {a : Int} : ∀ (cs : List Cn) (x : List (Int × Int)), (∀ c, c ∈ cs → c.at_ ≠ a) → findI (cs.foldl updC x) a = findI x a
  | [], x, _ => rfl
  | c :: cs, x, h => by
    rw [List.foldl_cons, find_other cs _ fun d hd => h d (List.mem_cons_of_mem _ hd)]
    unfold updC
    split
    · rw [findI_put, if_neg (fun e => h c (List.mem_cons_self ..) e.symm)]
    · rfl
theorem find_cs : ∀ (cs : List Cn) (x : List (Int × Int)), cs.Pairwise (fun c d => c.at_ < d.at_) → (∀ c, c ∈ cs → findI x c.at_ = none) → ∀ c, c ∈ cs → findI (cs.foldl updC x) c.at_ = if c.op = 0 ∨ c.op = 4 then some c.nn else none
  | [], x, _, _, c, hc => by cases hc
  | d :: cs, x, hp, hx, c, hc => by
    rw [List.pairwise_cons] at hp
    rw [List.foldl_cons]
    rcases List.mem_cons.1 hc with rfl | hc
    · rw [find_other cs _ fun e he => by have := hp.1 e he; omega]
      unfold updC
      split
      · rw [findI_put, if_pos rfl]
      · exact hx c (List.mem_cons_self ..)
    · refine find_cs cs _ hp.2 (fun e he => ?_) c hc
      have := hp.1 e he
      unfold updC
      split
      · rw [findI_put, if_neg (by omega)]; exact hx e (List.mem_cons_of_mem _ he)
      · exact hx e (List.mem_cons_of_mem _ he)
def csP (p : Pr') : List Cn := csL p.body (fun _ => 0) 0
theorem tgt_find {p : Pr'} (hN : smsN p.body ≤ 600) {c : Cn} (hc : c ∈ csP p) : findI (tgt p) c.at_ = if c.op = 0 ∨ c.op = 4 then some c.nn else none := by
  unfold tgt
  rw [walkL_cs p.body [] (fun _ => 0) 0 (by omega) (by omega)]
  exact find_cs _ _ (csL_num p.body (fun _ => 0) 0 (by omega) (by omega)).2 (fun _ _ => rfl) c hc

/-! ### Levels from 0 to 15 -/
def lvF (a : Int) : Prop := 0 ≤ a ∧ a < 16
def lvsF (x : List Int) : Prop := ∀ v, v ∈ x → lvF v
theorem lvF.B {a : Int} (h : lvF a) : lvB a := by unfold lvF at h; unfold lvB; omega
theorem lvsF.B {x : List Int} (h : lvsF x) : lvsB x := fun v hv => (h v hv).B
theorem lvF_lift {Q : Int → Int → Prop} (h : ∀ a b : Fin 16, Q (a.val : Int) (b.val : Int)) {a b : Int} (ha : lvF a) (hb : lvF b) : Q a b := by
  have := h ⟨a.toNat, by have := ha.2; have := ha.1; omega⟩ ⟨b.toNat, by have := hb.2; have := hb.1; omega⟩
  rw [Int.toNat_of_nonneg ha.1, Int.toNat_of_nonneg hb.1] at this
  exact this
theorem orI_F {a b : Int} (ha : lvF a) (hb : lvF b) : lvF (orI a b) := lvF_lift (Q := fun a b => 0 ≤ orI a b ∧ orI a b < 16) (by decide +kernel) ha hb
theorem lvF0 : lvF 0 := by unfold lvF; omega
theorem in15 {a : Int} (ha : lvF a) : withinB a 15 = true := lvF_lift (Q := fun a _ => withinB a 15 = true) (by decide +kernel) ha ha
theorem pick15 {a : Int} (ha : lvF a) : withinB (orI a 16) 15 = false := lvF_lift (Q := fun a _ => withinB (orI a 16) 15 = false) (by decide +kernel) ha ha
theorem lvsF_getD {x : List Int} (h : lvsF x) (i : Nat) : lvF (x.getD i 0) := by
  rw [List.getD_eq_getElem?_getD]
  cases hi : x[i]? with
  | none => exact lvF0
  | some v => exact h v (List.mem_of_getElem? hi)
theorem lvsF_set {x : List Int} (h : lvsF x) {v : Int} (hv : lvF v) (i : Nat) : lvsF (x.set i v) := fun y hy => by
  rcases List.mem_or_eq_of_mem_set hy with h' | h'
  · exact h y h'
  · rw [h']; exact hv
theorem leL_F {x y : List Int} (hx : lvsB x) (hy : lvsF y) (h : leL x y) : lvsF x := fun v hv => by
  obtain ⟨i, hi⟩ := List.mem_iff_getElem?.1 hv
  have h1 := h.2 i
  rw [List.getD_eq_getElem?_getD, hi] at h1
  have h2 := lvsF_getD hy i
  have h3 := leI_num (hx v hv) h2.B h1
  have h4 := (hx v hv).1
  have h5 := h2.2
  exact ⟨h4, by omega⟩
mutual
theorem cs1_F {x : List Int} (hx : lvsF x) : ∀ (s : Sm') {ar : List Int → Int} (n : Int), lvF (ar x) → ∀ c, c ∈ cs1 s ar n → lvF (c.f x)
  | .mk op nn a t e, ar, n, h, c, hc => by
    have hf : lvF (orI (ar x) (ofEs x 0 a)) := orI_F h (ofEs_all lvF0 (fun _ _ h1 h2 => orI_F h1 h2) hx a lvF0)
    rw [cs1] at hc
    rcases List.mem_cons.1 hc with rfl | hc
    · exact hf
    · rcases List.mem_append.1 hc with hc | hc
      · exact csL_F hx t (ar := fun lv => orI (ar lv) (ofEs lv 0 a)) _ hf c hc
      · exact csL_F hx e (ar := fun lv => orI (ar lv) (ofEs lv 0 a)) _ hf c hc
theorem csL_F {x : List Int} (hx : lvsF x) : ∀ (l : List Sm') {ar : List Int → Int} (n : Int), lvF (ar x) → ∀ c, c ∈ csL l ar n → lvF (c.f x)
  | [], ar, n, h, c, hc => by rw [csL] at hc; cases hc
  | s :: l, ar, n, h, c, hc => by
    rw [csL] at hc
    rcases List.mem_append.1 hc with hc | hc
    · exact cs1_F hx s n h c hc
    · exact csL_F hx l _ h c hc
end
section
variable {st : List Bool}
mutual
theorem ra1_F : ∀ (s : Sm') {lv : List Int} {ar : Int}, lvsF lv → lvF ar → lvsF (ra1 st s lv ar)
  | .mk op nn a t e, lv, ar, hB, ha => by
    have hf : lvF (orI ar (ofEs lv 0 a)) := orI_F ha (ofEs_all lvF0 (fun _ _ h1 h2 => orI_F h1 h2) hB a lvF0)
    have h1 : lvsF (raS st op nn lv (orI ar (ofEs lv 0 a))) := by
      unfold raS
      split
      · exact lvsF_set hB (orI_F (lvsF_getD hB _) hf) _
      · exact hB
    rw [ra1]
    exact raL_F e (raL_F t h1 hf) hf
theorem raL_F : ∀ (l : List Sm') {lv : List Int} {ar : Int}, lvsF lv → lvF ar → lvsF (raL st l lv ar)
  | [], lv, ar, hB, _ => by rw [raL]; exact hB
  | s :: l, lv, ar, hB, ha => by rw [raL]; exact raL_F l (ra1_F s hB ha) ha
end
end
theorem zeroL_F : ∀ (st : List Bool) {x : List Int}, lvsF x → lvsF (zeroL st x)
  | [], x, h => by simpa [zeroL] using h
  | b :: bs, [], h => h
  | b :: bs, x :: xs, h => fun y hy => by
    simp only [zeroL, List.mem_cons] at hy
    rcases hy with rfl | hy
    · split
      · exact h x (List.mem_cons_self ..)
      · exact lvF0
    · exact zeroL_F bs (fun w hw => h w (List.mem_cons_of_mem _ hw)) y hy
theorem levs_F {p : Pr'} (h : isP p = true) (hs : singleR p = true) : lvsF (levs p) := fun x hx => by
  obtain ⟨v, hv, rfl⟩ := List.mem_map.1 hx
  have := isP_level h hs hv
  unfold lvF; omega

/-! ### The least levels -/
theorem fix_end {f : List Int → List Int} {Q : List Int → Prop} (hQ : ∀ x, Q x → Q (f x)) (hr : ∀ x, Q x → f x = x ∨ roomL (f x) < roomL x) : ∀ (n : Nat) (x : List Int), Q x → roomL x < n → f (fixN f n x) = fixN f n x
  | 0, x, _, h => by omega
  | n + 1, x, hx, h => by
    rw [fixN]
    split
    · assumption
    · rename_i hne
      rcases hr x hx with e | e
      · exact absurd e hne
      · exact fix_end hQ hr n _ (hQ x hx) (by omega)
/-- All that is known of the least levels. -/
structure Lfp (p : Pr') (st : List Bool) (F : List Int) : Prop where
  len : F.length = p.vars.length
  in15 : lvsF F
  z15 : lvsF (zeroL st (levs p))
  ge : leL (zeroL st (levs p)) F
  stay : ∀ i : Nat, st.getD i false = true → F.getD i 0 = (zeroL st (levs p)).getD i 0
  up : ∀ c, c ∈ csP p → c.up st F
  least : ∀ x, x.length = p.vars.length → lvsB x → leL (zeroL st (levs p)) x → (∀ c, c ∈ csP p → c.up st x) → leL F x
theorem lfp_ok {p : Pr'} {st : List Bool} (hP : isP p = true) (hS : singleR p = true) : Lfp p st (lfpR p st) := by
  obtain ⟨_, hv1, hv2⟩ := isP_head hP
  have hvm := rows_vm _ (isP_rows hP)
  have hz := zeroL_F st (levs_F hP hS)
  have hzl : (zeroL st (levs p)).length = p.vars.length := by rw [zeroL_len, levs_len]
  have hzr := roomL_le hz.B
  have step : ∀ x : List Int, x.length = p.vars.length ∧ lvsF x → (fRa st p.body x).length = p.vars.length ∧ lvsF (fRa st p.body x) ∧ leL x (fRa st p.body x) ∧ ∀ i : Nat, st.getD i false = true → (fRa st p.body x).getD i 0 = x.getD i 0 := fun x hx => by
    obtain ⟨r1, _, r3, r4⟩ := raL_ok (st := st) p.body hx.1 hx.2.B lvB0
    exact ⟨r1, raL_F p.body hx.2 lvF0, r3, r4⟩
  have hmono : ∀ x : List Int, x.length = p.vars.length ∧ lvsF x → fRa st p.body x = x ∨ roomL (fRa st p.body x) < roomL x := fun x hx => by
    obtain ⟨_, r2, r3, _⟩ := step x hx
    rcases (roomL_leL hx.2.B r2.B r3).2 with e | e
    · exact .inl e.symm
    · exact .inr e
  have hQ : ∀ x : List Int, x.length = p.vars.length ∧ lvsF x → (fRa st p.body x).length = p.vars.length ∧ lvsF (fRa st p.body x) := fun x hx => ⟨(step x hx).1, (step x hx).2.1⟩
  have h1 := fixN_keep hQ 600 _ ⟨hzl, hz⟩
  have h2 : leL (zeroL st (levs p)) (lfpR p st) ∧ ∀ i : Nat, st.getD i false = true → (lfpR p st).getD i 0 = (zeroL st (levs p)).getD i 0 := by
    refine (fixN_keep (Q := fun x => (x.length = p.vars.length ∧ lvsF x) ∧ leL (zeroL st (levs p)) x ∧ ∀ i : Nat, st.getD i false = true → x.getD i 0 = (zeroL st (levs p)).getD i 0) (fun x hx => ?_) 600 _ ⟨⟨hzl, hz⟩, leL_refl hz.B, fun _ _ => rfl⟩).2
    obtain ⟨r1, r2, r3, r4⟩ := step x hx.1
    exact ⟨⟨r1, r2⟩, leL_trans hz.B hx.1.2.B r2.B hx.2.1 r3, fun i hi => (r4 i hi).trans (hx.2.2 i hi)⟩
  have h3 : fRa st p.body (lfpR p st) = lfpR p st := fix_end hQ hmono 600 _ ⟨hzl, hz⟩ (by omega)
  refine ⟨h1.1, h1.2, hz, h2.1, h2.2, fun c hc => ?_, fun x hxl hxB hge hup => ?_⟩
  · refine raL_fix (g := fun _ => 0) (show lvsF (lfpR p st) from h1.2).B p.body 0 good0 h3 c hc (fun _ ho => ?_)
    have := csL_rd p.body (fun _ => 0) 0 hvm c hc (.inl ho)
    have hl : (lfpR p st).length = p.vars.length := h1.1
    omega
  · refine (fixN_keep (Q := fun y => (y.length = p.vars.length ∧ lvsF y) ∧ leL y x) (fun y hy => ?_) 600 _ ⟨⟨hzl, hz⟩, hge⟩).2
    obtain ⟨r1, r2, r3, r4⟩ := step y hy.1
    exact ⟨⟨r1, r2⟩, raL_sub hxB p.body 0 good0 hy.1.2.B lvB0 hy.2 (leI_refl lvB0) hup⟩
theorem leL_F' {p : Pr'} {st : List Bool} {F : List Int} (H : Lfp p st F) : lvsF (zeroL st (levs p)) := H.z15
/-- What the program's levels are on their way. -/
structure OnWay (p : Pr') (st : List Bool) (F x : List Int) : Prop where
  len : x.length = p.vars.length
  B : lvsB x
  ge : leL (zeroL st (levs p)) x
  le : leL x F
  stay : ∀ i : Nat, st.getD i false = true → x.getD i 0 = F.getD i 0
theorem onway0 {p : Pr'} {st : List Bool} {F : List Int} (hP : isP p = true) (hS : singleR p = true) (H : Lfp p st F) : OnWay p st F (zeroL st (levs p)) :=
  ⟨by rw [zeroL_len, levs_len], (zeroL_F st (levs_F hP hS)).B, leL_refl (zeroL_F st (levs_F hP hS)).B, H.ge, fun i hi => (H.stay i hi).symm⟩
/-- What SOut statements of a single program bear. -/
theorem headB_out {vs : List Vr'} {n : Int} {a : List Ex'} {t e : List Sm'} (h : headB vs (.mk 3 n a t e) = true) : 0 ≤ n := by
  unfold headB at h
  dsimp only at h
  rw [if_neg (by omega), if_neg (by omega), if_neg (by omega), if_pos rfl] at h
  simp only [Bool.and_eq_true, decide_eq_true_eq] at h
  exact h.1.1.2
mutual
theorem cs_out1 {w : Int} {vs : List Vr'} : ∀ (s : Sm') (ar : List Int → Int) (n : Int), rowB w vs s = true → low1 s = true → ∀ c, c ∈ cs1 s ar n → c.op = 3 → lvF c.nn
  | .mk op nn a t e, ar, n, hr, hl, c, hc, h3 => by
    rw [rowB] at hr
    simp only [Bool.and_eq_true] at hr
    obtain ⟨⟨⟨hh, ht⟩, he⟩, _⟩ := hr
    rw [low1] at hl
    simp only [Bool.and_eq_true, Bool.not_eq_true'] at hl
    obtain ⟨⟨l1, l2⟩, l3⟩ := hl
    rw [cs1] at hc
    rcases List.mem_cons.1 hc with rfl | hc
    · dsimp only at h3 ⊢
      subst h3
      have := headB_out hh
      simp at l1
      unfold lvF; omega
    · rcases List.mem_append.1 hc with hc | hc
      · exact cs_outL t _ _ ht l2 c hc h3
      · exact cs_outL e _ _ he l3 c hc h3
theorem cs_outL {w : Int} {vs : List Vr'} : ∀ (l : List Sm') (ar : List Int → Int) (n : Int), rowsB w vs l = true → lowSs l = true → ∀ c, c ∈ csL l ar n → c.op = 3 → lvF c.nn
  | [], ar, n, _, _, c, hc, _ => by rw [csL] at hc; cases hc
  | s :: l, ar, n, hr, hl, c, hc, h3 => by
    rw [rowsB, Bool.and_eq_true] at hr
    rw [lowSs, Bool.and_eq_true] at hl
    rw [csL] at hc
    rcases List.mem_append.1 hc with hc | hc
    · exact cs_out1 s ar n hr.1 hl.1 c hc h3
    · exact cs_outL l ar _ hr.2 hl.2 c hc h3
end
theorem cs_out {p : Pr'} (hP : isP p = true) (hS : singleR p = true) {c : Cn} (hc : c ∈ csP p) (h3 : c.op = 3) : lvF c.nn := by
  have hlow : lowSs p.body = true := by unfold singleR at hS; simp only [Bool.and_eq_true] at hS; exact hS.2
  exact cs_outL p.body _ _ (isP_rows hP) hlow c hc h3
theorem flows_nil {p : Pr'} (hP : isP p = true) (hS : singleR p = true) {x : List Int} (hx : lvsB x) : fixRL x p.body 0 0 = [] ↔ ∀ c, c ∈ csP p → c.ok x :=
  fixRL_nil (ar := fun _ => 0) hx good0 fun c hc h3 => (cs_out hP hS hc h3).B
theorem way_done {p : Pr'} {st : List Bool} {F x : List Int} (hP : isP p = true) (hS : singleR p = true) (H : Lfp p st F) (W : OnWay p st F x) (hfl : fixRL x p.body 0 0 = []) : x = F := by
  have hok := (flows_nil hP hS W.B).1 hfl
  exact leL_antisymm W.le (H.least x W.len W.B W.ge fun c hc ho _ => (hok c hc).1 ho)
/-- What a flow on the way tells. -/
theorem way_row {p : Pr'} {st : List Bool} {F x : List Int} (hP : isP p = true) (hS : singleR p = true) (hN : smsN p.body ≤ 600) (H : Lfp p st F) (W : OnWay p st F x) {r : List AV} (hr : r ∈ fixRL x p.body 0 0) :
    ∃ a f t : Int, r = [.int .i64 a, .int .i64 f, .int .i64 t] ∧ ((findI (tgt p) a = none ∧ fixRL F p.body 0 0 ≠ []) ∨ ∃ v : Int, findI (tgt p) a = some v ∧ (0 ≤ v ∧ v < p.vars.length) ∧
      ((st.getD v.toNat false = true ∧ fixRL F p.body 0 0 ≠ []) ∨ (withinB f 15 = false ∧ fixRL F p.body 0 0 ≠ []) ∨ (st.getD v.toNat false = false ∧ withinB f 15 = true ∧ lvF f ∧ leI f (F.getD v.toNat 0) ∧ ¬ leI f (x.getD v.toNat 0)))) := by
  have hvm := rows_vm _ (isP_rows hP)
  have hFB := H.in15.B
  have hxF := leL_F W.B H.in15 W.le
  have e0 : fixRL x p.body 0 0 = (csP p).flatMap (Cn.fl x) := fixRL_cs x p.body (fun _ => 0) 0
  rw [e0] at hr
  obtain ⟨c, hc, hr⟩ := List.mem_flatMap.1 hr
  have hg := csL_good p.body 0 good0 c hc
  have hcx := csL_F hxF p.body 0 lvF0 c hc
  have hmono := hg.mono x F W.le W.B hFB
  have hrd := csL_rd p.body (fun _ => 0) 0 hvm c hc
  have hfind := tgt_find hN hc
  have hbad : ¬ c.ok F → fixRL F p.body 0 0 ≠ [] := fun hn he => hn ((flows_nil hP hS hFB).1 he c hc)
  unfold Cn.fl at hr
  have mem : ∀ a f t : Int, r ∈ flowL a f t → r = [.int .i64 a, .int .i64 f, .int .i64 t] ∧ withinB f t = false := fun a f t h => by
    unfold flowL at h
    split at h
    · cases h
    · rename_i hw
      exact ⟨by simpa using h, by simpa using hw⟩
  by_cases o0 : c.op = 0
  · rw [if_pos o0] at hr
    rw [if_pos (.inl o0)] at hfind
    obtain ⟨rfl, hw⟩ := mem _ _ _ hr
    have hnl : ¬ leI (c.f x) (x.getD c.nn.toNat 0) := fun h => by
      rw [(within_iff hcx.B (lvsB_getD W.B _)).2 h] at hw; cases hw
    refine ⟨_, _, _, rfl, .inr ⟨c.nn, hfind, hrd (.inl o0), ?_⟩⟩
    cases hst : st.getD c.nn.toNat false with
    | true =>
      refine .inl ⟨rfl, hbad fun hok => hnl ?_⟩
      have h1 := hok.1 o0
      rw [← W.stay _ hst] at h1
      exact leI_trans hcx.B (hg.B F hFB) (lvsB_getD W.B _) hmono h1
    | false =>
      refine .inr (.inr ⟨rfl, in15 hcx, hcx, ?_, hnl⟩)
      exact leI_trans hcx.B (hg.B F hFB) (lvsB_getD hFB _) hmono (H.up c hc o0 hst)
  rw [if_neg o0] at hr
  by_cases o4 : c.op = 4
  · rw [if_pos o4] at hr
    rw [if_pos (.inr o4)] at hfind
    obtain ⟨rfl, hw⟩ := mem _ _ _ hr
    refine ⟨_, _, _, rfl, .inr ⟨c.nn, hfind, hrd (.inr o4), .inr (.inl ⟨pick15 hcx, hbad fun hok => ?_⟩)⟩⟩
    have h1 := hok.2.1 o4
    have hFv := lvsF_getD H.in15 c.nn.toNat
    have h2 := leI_trans lvB16 (orI_B (hg.B F hFB) lvB16) hFv.B (leI_right (hg.B F hFB) lvB16) h1
    have h3 := leI_num lvB16 hFv.B h2
    have := hFv.2
    omega
  rw [if_neg o4] at hr
  by_cases o3 : c.op = 3
  · rw [if_pos o3] at hr
    rw [if_neg (by omega)] at hfind
    obtain ⟨rfl, hw⟩ := mem _ _ _ hr
    have hn := (cs_out hP hS hc o3).B
    refine ⟨_, _, _, rfl, .inl ⟨hfind, hbad fun hok => ?_⟩⟩
    have h1 := leI_trans hcx.B (hg.B F hFB) hn hmono (hok.2.2 o3)
    rw [(within_iff hcx.B hn).2 h1] at hw
    cases hw
  · rw [if_neg o3] at hr; cases hr
/-- One level more is raised. -/
theorem way_step {p : Pr'} {st : List Bool} {F x : List Int} (H : Lfp p st F) (W : OnWay p st F x) {v f : Int} (hst : st.getD v.toNat false = false) (hf : lvF f) (hle : leI f (F.getD v.toNat 0)) :
    OnWay p st F (x.set v.toNat (orI (x.getD v.toNat 0) f)) ∧ roomL (x.set v.toNat (orI (x.getD v.toNat 0) f)) ≤ roomL x := by
  have hxv := lvsB_getD W.B v.toNat
  have hFB := H.in15.B
  have hB := lvsB_set W.B (orI_B hxv hf.B) v.toNat
  have hge := leL_set W.B (i := v.toNat) (leI_left hxv hf.B)
  have hzB : lvsB (zeroL st (levs p)) := (leL_F' H).B
  refine ⟨⟨by simpa using W.len, hB, leL_trans hzB W.B hB W.ge hge, set_leL W.le (orI_le hxv hf.B (lvsB_getD hFB _) (W.le.2 _) hle), fun i hi => ?_⟩, (roomL_leL W.B hB hge).1⟩
  rw [getD_set]
  split
  · rename_i e; rw [e.1, hi] at hst; cases hst
  · exact W.stay i hi
theorem way_less {x : List Int} (hx : lvsB x) {v f : Int} (hv : 0 ≤ v ∧ v.toNat < x.length) (hf : lvF f) (hn : ¬ leI f (x.getD v.toNat 0)) : roomL (x.set v.toNat (orI (x.getD v.toNat 0) f)) < roomL x := by
  have hxv := lvsB_getD hx v.toNat
  have hB := lvsB_set hx (orI_B hxv hf.B) v.toNat
  have hge := leL_set hx (i := v.toNat) (leI_left hxv hf.B)
  rcases (roomL_leL hx hB hge).2 with e | e
  · exfalso
    apply hn
    have h1 := congrArg (fun l => List.getD l v.toNat 0) e
    try dsimp only at h1
    rw [getD_set, if_pos ⟨rfl, hv.2⟩] at h1
    rw [h1]
    exact leI_right hxv hf.B
  · exact e
end Go.Proofs.Ytelobnllkhnpaaa.L
/- The reference says that what is the same is the same: ref02.Same, ref03.exprs, SameStmt, SameRows, SameVars, Same. -/
open Go Go.Proofs Go.Ev Go.Proofs.Ytelobnllkhnpaaa.E
namespace Go.Proofs.Ytelobnllkhnpaaa.L
set_option linter.unusedVariables false
set_option linter.unusedSimpArgs false
set_option maxHeartbeats 2000000
set_option maxRecDepth 100000

theorem ne_self (z : Int) : (z != z) = false := by simp
theorem eq_self' (z : Int) : (z == z) = true := by simp
def seS (h : Heap) (e : Ex') (i : Int) (_ : Unit) : St :=
  { env := [(2, .p 2 0), (3, .p 3 0), (5, .v (.int .i64 i))], loc := [(2, exC e), (3, exC e)], heap := h, inRound := false, lo := h.length }
theorem sameE_run : ∀ (k : Nat) (e : Ex'), exK e + 1 ≤ k → exB e → ∀ (h : Heap) (lo : Nat), call Try.prog cfg k lo (.func 76) [.agg (exC e), .agg (exC e)] h = some (.bool true, h)
  | 0, e, hk, _, _, _ => by have := exK_pos e; omega
  | k + 1, .mk op n c l, hk, hb, h, lo => by
    rw [exK] at hk
    rw [exB] at hb
    have hlen := exsK_len l
    have h1 := ne_self op
    have h2 := ne_self n
    have h3 := ne_self c
    have h4 := ne_self ((exsC l).length : Int)
    apply W_call Try.func76 rfl (Nat.le_of_ble_eq_true rfl) rfl rfl
    (repeat' (first | apply W_seq | refine W_true rfl rfl ?_ | refine W_false rfl rfl ?_ | refine W_region (id := 0) rfl rfl ?_ | (refine W_ops (id := 1) rfl ?_ <;> refine T_ch 4 rfl ?_ <;> (refine T_go rfl ?_; refine G_false rfl (by with_reducible assumption) ?_) <;> refine T_ch 5 rfl ?_ <;> (refine T_go rfl ?_; refine G_false rfl (by with_reducible assumption) ?_) <;> refine T_ch 6 rfl ?_ <;> (refine T_go rfl ?_; refine G_false rfl (by with_reducible assumption) ?_) <;> refine T_ch 8 rfl ?_ <;> (refine T_go rfl ?_; refine G_false rfl (by with_reducible assumption) ?_) <;> refine T_ch 1 rfl ?_ <;> apply T_nil) | refine W_region (id := 3) rfl rfl ?_ | apply W_skip | apply W_block | apply W_ret | apply W_exit | refine W_true rfl (by assumption) ?_ | refine W_false rfl (by assumption) ?_ | refine W_cond rfl (fun _ => ?_) (fun _ => ?_)))
    apply W_iter (S := seS h (.mk op n c l)) (l := l) (a0 := ()) (fun _ _ => True) hb.1 (by omega) rfl trivial
    · intro i e rest a hi hd hil hJ
      have hrow := exsC_get _ _ _ hi
      have hlt := lt_exs hil
      have hm := exsK_mem1 l i _ hi
      have ih := sameE_run k e (by omega) (exsB_mem l i _ hb.2 hi) h h.length
      obtain ⟨op', n', c', es⟩ := e
      (repeat' (first | apply W_seq | refine W_true rfl rfl ?_ | refine W_false rfl rfl ?_ | (refine W_ops (id := 4) rfl ?_ <;> refine T_ch 4 rfl ?_ <;> (refine T_go rfl ?_; refine G_true rfl (by with_reducible assumption) ?_) <;> apply T_nil) | refine W_region (id := 5) rfl rfl ?_ | (refine W_dops (id := 6) (bs := [0, 1, 0, 7, 15, 0, 32, 0, 224, 480, 1023, 2047]) rfl (by decide +kernel) ?_ <;> (refine U_go rfl ?_; refine H_free (by decide +kernel) rfl rfl rfl rfl rfl ?_) <;> (refine U_go rfl ?_; refine H_free (by decide +kernel) rfl rfl rfl rfl rfl ?_) <;> (refine U_go rfl ?_; refine H_free (by decide +kernel) rfl rfl rfl rfl rfl ?_) <;> (refine U_go rfl ?_; refine H_free (by decide +kernel) rfl (O_index rfl rfl rfl rfl rfl (by assumption)) rfl rfl rfl ?_) <;> (refine U_go rfl ?_; refine H_free (by decide +kernel) rfl rfl rfl rfl rfl ?_) <;> (refine U_go rfl ?_; refine H_free (by decide +kernel) rfl rfl rfl rfl rfl ?_) <;> (refine U_go rfl ?_; refine H_free (by decide +kernel) rfl rfl rfl rfl rfl ?_) <;> (refine U_go rfl ?_; refine H_free (by decide +kernel) rfl rfl rfl rfl rfl ?_) <;> (refine U_go rfl ?_; refine H_free (by decide +kernel) rfl (O_index rfl rfl rfl rfl rfl (by assumption)) rfl rfl rfl ?_) <;> (refine U_go rfl ?_; refine H_free (by decide +kernel) rfl rfl rfl rfl rfl ?_) <;> (refine U_go rfl ?_; refine H_true (by decide +kernel) (O_call rfl rfl rfl rfl (by assumption)) rfl ?_) <;> (refine U_go rfl ?_; refine H_op (by decide +kernel) rfl ?_) <;> apply U_nil) | apply W_skip | apply W_block | apply W_ret | apply W_exit | refine W_true rfl (by assumption) ?_ | refine W_false rfl (by assumption) ?_ | refine W_cond rfl (fun _ => ?_) (fun _ => ?_)))
      exact ⟨(), rfl, trivial⟩
    · intro a hJ
      have hlt := ge_exs (l := l)
      (repeat' (first | apply W_seq | refine W_true rfl rfl ?_ | refine W_false rfl rfl ?_ | (refine W_ops (id := 4) rfl ?_ <;> refine T_ch 4 rfl ?_ <;> (refine T_go rfl ?_; refine G_false rfl (by with_reducible assumption) ?_) <;> apply T_nil) | refine W_region (id := 8) rfl rfl ?_ | apply W_skip | apply W_block | apply W_ret | apply W_exit | refine W_true rfl (by assumption) ?_ | refine W_false rfl (by assumption) ?_ | refine W_cond rfl (fun _ => ?_) (fun _ => ?_)))
      exact ⟨.inl rfl, rfl⟩
def sxS (h : Heap) (l : List Ex') (i : Int) (_ : Unit) : St :=
  { env := [(0, .v (.vs 4 (exsC l))), (1, .v (.vs 4 (exsC l))), (5, .v (.int .i64 i))], loc := [], heap := h, inRound := false, lo := h.length }
theorem sameEs_run (k : Nat) (l : List Ex') (hk : exsK l + 1 ≤ k) (hl : l.length < 9223372036854775808) (hb : exsB l) (h : Heap) (lo : Nat) : call Try.prog cfg (k + 1) lo (.func 124) [.vs 4 (exsC l), .vs 4 (exsC l)] h = some (.bool true, h) := by
  have hlen := exsK_len l
  have h4 := ne_self ((exsC l).length : Int)
  apply W_call Try.func124 rfl (Nat.le_of_ble_eq_true rfl) rfl rfl
  (repeat' (first | apply W_seq | refine W_true rfl rfl ?_ | refine W_false rfl rfl ?_ | refine W_region (id := 0) rfl rfl ?_ | (refine W_ops (id := 1) rfl ?_ <;> refine T_ch 4 rfl ?_ <;> (refine T_go rfl ?_; refine G_false rfl (by with_reducible assumption) ?_) <;> apply T_nil) | refine W_region (id := 3) rfl rfl ?_ | apply W_skip | apply W_block | apply W_ret | apply W_exit | refine W_true rfl (by assumption) ?_ | refine W_false rfl (by assumption) ?_ | refine W_cond rfl (fun _ => ?_) (fun _ => ?_)))
  apply W_iter (S := sxS h l) (l := l) (a0 := ()) (fun _ _ => True) hl (by omega) rfl trivial
  · intro i e rest a hi hd hil hJ
    have hrow := exsC_get _ _ _ hi
    have hlt := lt_exs hil
    have hm := exsK_mem l i _ hi
    have ih := sameE_run k e (by omega) (exsB_mem l i _ hb hi) h h.length
    obtain ⟨op', n', c', es⟩ := e
    (repeat' (first | apply W_seq | refine W_true rfl rfl ?_ | refine W_false rfl rfl ?_ | (refine W_ops (id := 4) rfl ?_ <;> refine T_ch 3 rfl ?_ <;> (refine T_go rfl ?_; refine G_true rfl (by with_reducible assumption) ?_) <;> apply T_nil) | refine W_region (id := 5) rfl rfl ?_ | (refine W_dops (id := 6) (bs := [0, 0, 3, 7, 0, 0, 48, 112, 255, 511]) rfl (by decide +kernel) ?_ <;> (refine U_go rfl ?_; refine H_free (by decide +kernel) rfl rfl rfl rfl rfl ?_) <;> (refine U_go rfl ?_; refine H_free (by decide +kernel) rfl rfl rfl rfl rfl ?_) <;> (refine U_go rfl ?_; refine H_free (by decide +kernel) rfl (O_index rfl rfl rfl rfl rfl (by assumption)) rfl rfl rfl ?_) <;> (refine U_go rfl ?_; refine H_free (by decide +kernel) rfl rfl rfl rfl rfl ?_) <;> (refine U_go rfl ?_; refine H_free (by decide +kernel) rfl rfl rfl rfl rfl ?_) <;> (refine U_go rfl ?_; refine H_free (by decide +kernel) rfl rfl rfl rfl rfl ?_) <;> (refine U_go rfl ?_; refine H_free (by decide +kernel) rfl (O_index rfl rfl rfl rfl rfl (by assumption)) rfl rfl rfl ?_) <;> (refine U_go rfl ?_; refine H_free (by decide +kernel) rfl rfl rfl rfl rfl ?_) <;> (refine U_go rfl ?_; refine H_true (by decide +kernel) (O_call rfl rfl rfl rfl (by assumption)) rfl ?_) <;> (refine U_go rfl ?_; refine H_op (by decide +kernel) rfl ?_) <;> apply U_nil) | apply W_skip | apply W_block | apply W_ret | apply W_exit | refine W_true rfl (by assumption) ?_ | refine W_false rfl (by assumption) ?_ | refine W_cond rfl (fun _ => ?_) (fun _ => ?_)))
    exact ⟨(), rfl, trivial⟩
  · intro a hJ
    have hlt := ge_exs (l := l)
    (repeat' (first | apply W_seq | refine W_true rfl rfl ?_ | refine W_false rfl rfl ?_ | (refine W_ops (id := 4) rfl ?_ <;> refine T_ch 3 rfl ?_ <;> (refine T_go rfl ?_; refine G_false rfl (by with_reducible assumption) ?_) <;> apply T_nil) | refine W_region (id := 8) rfl rfl ?_ | apply W_skip | apply W_block | apply W_ret | apply W_exit | refine W_true rfl (by assumption) ?_ | refine W_false rfl (by assumption) ?_ | refine W_cond rfl (fun _ => ?_) (fun _ => ?_)))
    exact ⟨.inl rfl, rfl⟩
def ssS (h : Heap) (l : List Sm') (i : Int) (_ : Unit) : St :=
  { env := [(0, .v (.vs 5 (smsC l))), (1, .v (.vs 5 (smsC l))), (5, .v (.int .i64 i))], loc := [], heap := h, inRound := false, lo := h.length }
theorem sameS_run : ∀ (k : Nat), (∀ s : Sm', smK s + 1 ≤ k → smB s → ∀ (h : Heap) (lo : Nat), call Try.prog cfg k lo (.func 97) [.agg (smC s), .agg (smC s)] h = some (.bool true, h)) ∧
    ∀ l : List Sm', smsK l + 1 ≤ k → l.length < 9223372036854775808 → smsB l → ∀ (h : Heap) (lo : Nat), call Try.prog cfg k lo (.func 69) [.vs 5 (smsC l), .vs 5 (smsC l)] h = some (.bool true, h)
  | 0 => ⟨fun s hk => by omega, fun l hk => by omega⟩
  | k + 1 => by
    obtain ⟨ihs, ihl⟩ := sameS_run k
    constructor
    · intro s hk hb h lo
      obtain ⟨op, n, ar, t, e⟩ := s
      rw [smK] at hk
      rw [smB] at hb
      obtain ⟨⟨ha1, ha2⟩, ⟨ht1, ht2⟩, he1, he2⟩ := hb
      have hp1 := exsK_pos ar
      have hp2 := smsK_pos t
      have hp3 := smsK_pos e
      have h1 := eq_self' op
      have h2 := eq_self' n
      have hA := sameEs_run (k - 1) ar (by omega) ha1 ha2 h h.length
      rw [show k - 1 + 1 = k by omega] at hA
      have hT := ihl t (by omega) ht1 ht2 h h.length
      have hE := ihl e (by omega) he1 he2 h h.length
      apply W_call Try.func97 rfl (Nat.le_of_ble_eq_true rfl) rfl rfl
      (repeat' (first | apply W_seq | refine W_true rfl rfl ?_ | refine W_false rfl rfl ?_ | refine W_region (id := 0) rfl rfl ?_ | (refine W_ops (id := 1) rfl ?_ <;> refine T_ch 4 rfl ?_ <;> (refine T_go rfl ?_; refine G_true rfl (by with_reducible assumption) ?_) <;> refine T_ch 5 rfl ?_ <;> (refine T_go rfl ?_; refine G_true rfl (by with_reducible assumption) ?_) <;> refine T_ch 6 rfl ?_ <;> (refine T_go rfl ?_; refine G_true (O_call rfl rfl rfl rfl (by assumption)) rfl ?_) <;> refine T_ch 6 rfl ?_ <;> (refine T_go rfl ?_; refine G_true (O_call rfl rfl rfl rfl (by assumption)) rfl ?_) <;> refine T_ch 6 rfl ?_ <;> (refine T_go rfl ?_; refine G_true (O_call rfl rfl rfl rfl (by assumption)) rfl ?_) <;> refine T_ch 2 rfl ?_ <;> apply T_nil) | apply W_skip | apply W_block | apply W_ret | apply W_exit | refine W_true rfl (by assumption) ?_ | refine W_false rfl (by assumption) ?_ | refine W_cond rfl (fun _ => ?_) (fun _ => ?_)))
      exact ⟨.inl rfl, rfl⟩
    · intro l hk hl hb h lo
      have hlen := smsK_len l
      have h4 := ne_self ((smsC l).length : Int)
      apply W_call Try.func69 rfl (Nat.le_of_ble_eq_true rfl) rfl rfl
      (repeat' (first | apply W_seq | refine W_true rfl rfl ?_ | refine W_false rfl rfl ?_ | refine W_region (id := 0) rfl rfl ?_ | (refine W_ops (id := 1) rfl ?_ <;> refine T_ch 4 rfl ?_ <;> (refine T_go rfl ?_; refine G_false rfl (by with_reducible assumption) ?_) <;> apply T_nil) | refine W_region (id := 3) rfl rfl ?_ | apply W_skip | apply W_block | apply W_ret | apply W_exit | refine W_true rfl (by assumption) ?_ | refine W_false rfl (by assumption) ?_ | refine W_cond rfl (fun _ => ?_) (fun _ => ?_)))
      apply W_iter (S := ssS h l) (l := l) (a0 := ()) (fun _ _ => True) hl (by omega) rfl trivial
      · intro i s rest a hi hd hil hJ
        have hrow := smsC_get _ _ _ hi
        have hlt := lt_sms hil
        have hm := smsK_mem2 l i _ hi
        have ih := ihs s (by omega) (smsB_mem l i _ hb hi) h h.length
        obtain ⟨op', n', ar', t', e'⟩ := s
        (repeat' (first | apply W_seq | refine W_true rfl rfl ?_ | refine W_false rfl rfl ?_ | (refine W_ops (id := 4) rfl ?_ <;> refine T_ch 3 rfl ?_ <;> (refine T_go rfl ?_; refine G_true rfl (by with_reducible assumption) ?_) <;> apply T_nil) | refine W_region (id := 5) rfl rfl ?_ | (refine W_dops (id := 6) (bs := [0, 0, 3, 7, 0, 0, 48, 112, 255, 511]) rfl (by decide +kernel) ?_ <;> (refine U_go rfl ?_; refine H_free (by decide +kernel) rfl rfl rfl rfl rfl ?_) <;> (refine U_go rfl ?_; refine H_free (by decide +kernel) rfl rfl rfl rfl rfl ?_) <;> (refine U_go rfl ?_; refine H_free (by decide +kernel) rfl (O_index rfl rfl rfl rfl rfl (by assumption)) rfl rfl rfl ?_) <;> (refine U_go rfl ?_; refine H_free (by decide +kernel) rfl rfl rfl rfl rfl ?_) <;> (refine U_go rfl ?_; refine H_free (by decide +kernel) rfl rfl rfl rfl rfl ?_) <;> (refine U_go rfl ?_; refine H_free (by decide +kernel) rfl rfl rfl rfl rfl ?_) <;> (refine U_go rfl ?_; refine H_free (by decide +kernel) rfl (O_index rfl rfl rfl rfl rfl (by assumption)) rfl rfl rfl ?_) <;> (refine U_go rfl ?_; refine H_free (by decide +kernel) rfl rfl rfl rfl rfl ?_) <;> (refine U_go rfl ?_; refine H_true (by decide +kernel) (O_call rfl rfl rfl rfl (by assumption)) rfl ?_) <;> (refine U_go rfl ?_; refine H_op (by decide +kernel) rfl ?_) <;> apply U_nil) | apply W_skip | apply W_block | apply W_ret | apply W_exit | refine W_true rfl (by assumption) ?_ | refine W_false rfl (by assumption) ?_ | refine W_cond rfl (fun _ => ?_) (fun _ => ?_)))
        exact ⟨(), rfl, trivial⟩
      · intro a hJ
        have hlt := ge_sms (l := l)
        (repeat' (first | apply W_seq | refine W_true rfl rfl ?_ | refine W_false rfl rfl ?_ | (refine W_ops (id := 4) rfl ?_ <;> refine T_ch 3 rfl ?_ <;> (refine T_go rfl ?_; refine G_false rfl (by with_reducible assumption) ?_) <;> apply T_nil) | refine W_region (id := 8) rfl rfl ?_ | apply W_skip | apply W_block | apply W_ret | apply W_exit | refine W_true rfl (by assumption) ?_ | refine W_false rfl (by assumption) ?_ | refine W_cond rfl (fun _ => ?_) (fun _ => ?_)))
        exact ⟨.inl rfl, rfl⟩
def svS (h : Heap) (l : List Vr') (i : Int) (_ : Unit) : St :=
  { env := [(0, .v (.vs 3 (vsC l))), (1, .v (.vs 3 (vsC l))), (5, .v (.int .i64 i))], loc := [], heap := h, inRound := false, lo := h.length }
theorem varSame (v : Vr') : Go.Ev.binop cfg.tab cfg.eqs .neq 76 (.agg (vrC v)) (.agg (vrC v)) = some (.bool false) := by
  show (eqStruct cfg.tab cfg.eqs 76 (vrC v) (vrC v)).map (fun r => AV.bool !r) = _
  have hk3 : ∀ a : Int, keyEq (.int .i64) (.int .i64 a) (.int .i64 a) = some true := fun a => by simp [keyEq]
  have hks : ∀ a : ByteArray, keyEq .str (.str a) (.str a) = some true := fun a => by
    have : (a == a) = true := by
      cases a with
      | mk d => show (d == d) = true; simp
    simp [keyEq, this]
  have hl3 : Go.Ev.look cfg.tab 3 = some ⟨.int .i64, 1, 8, [.int .i64 0]⟩ := rfl
  have hls : ∃ z, Go.Ev.look cfg.tab 9 = some ⟨.str, 1, 16, z⟩ := ⟨_, rfl⟩
  obtain ⟨z, hls⟩ := hls
  have : eqStruct cfg.tab cfg.eqs 76 (vrC v) (vrC v) = eqAll cfg.tab [(0, 9), (1, 3), (2, 3)] (vrC v) (vrC v) := rfl
  rw [this]
  simp only [vrC, eqAll, hl3, hls, hk3, hks]
  rfl
theorem sameVars_run (k : Nat) (l : List Vr') (hk : l.length < k) (hl : l.length < 9223372036854775808) (h : Heap) (lo : Nat) : call Try.prog cfg (k + 1) lo (.func 68) [.vs 3 (vsC l), .vs 3 (vsC l)] h = some (.bool true, h) := by
  have h4 := ne_self ((vsC l).length : Int)
  apply W_call Try.func68 rfl (Nat.le_of_ble_eq_true rfl) rfl rfl
  (repeat' (first | apply W_seq | refine W_true rfl rfl ?_ | refine W_false rfl rfl ?_ | refine W_region (id := 0) rfl rfl ?_ | (refine W_ops (id := 1) rfl ?_ <;> refine T_ch 4 rfl ?_ <;> (refine T_go rfl ?_; refine G_false rfl (by with_reducible assumption) ?_) <;> apply T_nil) | refine W_region (id := 3) rfl rfl ?_ | apply W_skip | apply W_block | apply W_ret | apply W_exit | refine W_true rfl (by assumption) ?_ | refine W_false rfl (by assumption) ?_ | refine W_cond rfl (fun _ => ?_) (fun _ => ?_)))
  apply W_iter (S := svS h l) (l := l) (a0 := ()) (fun _ _ => True) hl (by omega) rfl trivial
  · intro i v rest a hi hd hil hJ
    have hrow := vsC_get hi
    have hlt := lt_vsC hil
    have hb := varSame v
    obtain ⟨nm, lv, cl⟩ := v
    (repeat' (first | apply W_seq | refine W_true rfl rfl ?_ | refine W_false rfl rfl ?_ | (refine W_ops (id := 4) rfl ?_ <;> refine T_ch 3 rfl ?_ <;> (refine T_go rfl ?_; refine G_true rfl (by with_reducible assumption) ?_) <;> apply T_nil) | refine W_region (id := 5) rfl rfl ?_ | (refine W_dops (id := 6) (bs := [0, 0, 3, 7, 0, 0, 48, 112, 255]) rfl (by decide +kernel) ?_ <;> (refine U_go rfl ?_; refine H_free (by decide +kernel) rfl rfl rfl rfl rfl ?_) <;> (refine U_go rfl ?_; refine H_free (by decide +kernel) rfl rfl rfl rfl rfl ?_) <;> (refine U_go rfl ?_; refine H_free (by decide +kernel) rfl (O_index rfl rfl rfl rfl rfl (by assumption)) rfl rfl rfl ?_) <;> (refine U_go rfl ?_; refine H_free (by decide +kernel) rfl rfl rfl rfl rfl ?_) <;> (refine U_go rfl ?_; refine H_free (by decide +kernel) rfl rfl rfl rfl rfl ?_) <;> (refine U_go rfl ?_; refine H_free (by decide +kernel) rfl rfl rfl rfl rfl ?_) <;> (refine U_go rfl ?_; refine H_free (by decide +kernel) rfl (O_index rfl rfl rfl rfl rfl (by assumption)) rfl rfl rfl ?_) <;> (refine U_go rfl ?_; refine H_free (by decide +kernel) rfl rfl rfl rfl rfl ?_) <;> (refine U_go rfl ?_; refine H_false (by decide +kernel) (O_bin rfl rfl rfl (by assumption)) rfl ?_) <;> apply U_nil) | apply W_skip | apply W_block | apply W_ret | apply W_exit | refine W_true rfl (by assumption) ?_ | refine W_false rfl (by assumption) ?_ | refine W_cond rfl (fun _ => ?_) (fun _ => ?_)))
    exact ⟨(), rfl, trivial⟩
  · intro a hJ
    have hlt := ge_vsC (l := l)
    (repeat' (first | apply W_seq | refine W_true rfl rfl ?_ | refine W_false rfl rfl ?_ | (refine W_ops (id := 4) rfl ?_ <;> refine T_ch 3 rfl ?_ <;> (refine T_go rfl ?_; refine G_false rfl (by with_reducible assumption) ?_) <;> apply T_nil) | refine W_region (id := 8) rfl rfl ?_ | apply W_skip | apply W_block | apply W_ret | apply W_exit | refine W_true rfl (by assumption) ?_ | refine W_false rfl (by assumption) ?_ | refine W_cond rfl (fun _ => ?_) (fun _ => ?_)))
    exact ⟨.inl rfl, rfl⟩
theorem sameP_run (p : Pr') (k : Nat) (hk : smsK p.body + p.vars.length + 10 ≤ k) (hb : prB p) (h : Heap) (lo : Nat) : call Try.prog cfg (k + 1) lo (.func 29) [.agg (prC p), .agg (prC p)] h = some (.bool true, h) := by
  have hV := sameVars_run (k - 1) p.vars (by omega) hb.1.1 h h.length
  rw [show k - 1 + 1 = k by omega] at hV
  have hR := (sameS_run k).2 p.body (by omega) hb.2.1 hb.2.2 h h.length
  obtain ⟨w, vs, body⟩ := p
  have h1 := eq_self' w
  dsimp only at hV hR
  apply W_call Try.func29 rfl (Nat.le_of_ble_eq_true rfl) rfl rfl
  (repeat' (first | apply W_seq | refine W_true rfl rfl ?_ | refine W_false rfl rfl ?_ | refine W_region (id := 0) rfl rfl ?_ | (refine W_ops (id := 1) rfl ?_ <;> refine T_ch 4 rfl ?_ <;> (refine T_go rfl ?_; refine G_true rfl (by with_reducible assumption) ?_) <;> refine T_ch 5 rfl ?_ <;> (refine T_go rfl ?_; refine G_true (O_call rfl rfl rfl rfl (by assumption)) rfl ?_) <;> refine T_ch 6 rfl ?_ <;> (refine T_go rfl ?_; refine G_true (O_call rfl rfl rfl rfl (by assumption)) rfl ?_) <;> refine T_ch 2 rfl ?_ <;> apply T_nil) | apply W_skip | apply W_block | apply W_ret | apply W_exit | refine W_true rfl (by assumption) ?_ | refine W_false rfl (by assumption) ?_ | refine W_cond rfl (fun _ => ?_) (fun _ => ?_)))
  exact ⟨.inl rfl, rfl⟩
end Go.Proofs.Ytelobnllkhnpaaa.L
/- Relabel: which levels may be, Clone, None, Range. -/
open Go Go.Proofs Go.Ev Go.Proofs.Ytelobnllkhnpaaa.E
namespace Go.Proofs.Ytelobnllkhnpaaa.L
set_option linter.unusedVariables false
set_option linter.unusedSimpArgs false
set_option maxHeartbeats 2000000
set_option maxRecDepth 100000

theorem setCells_flat {sz off : Nat} {ys : List AV} : ∀ (rows : List (List AV)) (i : Nat) (row : List AV), (∀ r, r ∈ rows → r.length = sz) → rows[i]? = some row → off + ys.length ≤ sz →
    setCells rows.flatten (i * sz + off) ys = (rows.set i (setCells row off ys)).flatten
  | [], i, row, _, h, _ => by simp at h
  | r :: l, 0, row, hr, h, ho => by
    simp at h; subst h
    have hl := hr r (List.mem_cons_self ..)
    rw [Nat.zero_mul, Nat.zero_add, List.set_cons_zero, List.flatten_cons, List.flatten_cons]
    unfold setCells
    rw [List.take_append_of_le_length (by omega), List.drop_append_of_le_length (by omega)]
    simp only [List.append_assoc]
  | r :: l, i + 1, row, hr, h, ho => by
    simp at h
    have hl := hr r (List.mem_cons_self ..)
    have ih := setCells_flat l i row (fun r hr' => hr r (List.mem_cons_of_mem _ hr')) h ho
    rw [List.set_cons_succ, List.flatten_cons, List.flatten_cons, ← ih, Nat.succ_mul]
    unfold setCells
    rw [show i * sz + sz + off = r.length + (i * sz + off) by omega, List.take_length_add_append, show r.length + (i * sz + off) + ys.length = r.length + (i * sz + off + ys.length) by omega, List.drop_length_add_append]
    simp only [List.append_assoc]

def badL (m n : Int) : Bool := decide (n < 0) || decide (n > m)
variable (k : Nat) (h : Heap) (lo : Nat)
theorem bad_run (n : Int) : call Try.prog cfg (k + 1) lo (.func 65) [.int .i64 n] h = some (.bool (badL 15 n), h) := by
  unfold badL
  apply W_call Try.func65 rfl (Nat.le_of_ble_eq_true rfl) rfl rfl
  (repeat' (first | apply W_seq | refine W_true rfl rfl ?_ | refine W_false rfl rfl ?_ | refine W_region (id := 0) rfl rfl ?_ | (refine W_ops (id := 1) rfl ?_ <;> refine T_ch 1 rfl ?_ <;> (refine T_go rfl ?_; refine G_split rfl (fun _ => ?_) (fun _ => ?_)) <;> refine T_ch 2 rfl ?_ <;> (first | refine T_skip rfl ?_ | (refine T_go rfl ?_; refine G_split rfl (fun _ => ?_) (fun _ => ?_))) <;> refine T_ch 2 rfl ?_ <;> apply T_nil) | apply W_skip | apply W_block | apply W_ret | apply W_exit | refine W_true rfl (by assumption) ?_ | refine W_false rfl (by assumption) ?_ | refine W_cond rfl (fun _ => ?_) (fun _ => ?_)))
  · rename_i hc
    exact ⟨.inl rfl, by rw [hc]; rfl⟩
  · rename_i hc hd
    exact ⟨.inl rfl, by rw [hc, hd]; rfl⟩
  · rename_i hc hd
    exact ⟨.inl rfl, by rw [hc, hd]; rfl⟩
def idxL (m : Int) : List Int → Nat → Int
  | [], _ => -1
  | n :: l, i => if badL m n then (i : Int) else idxL m l (i + 1)
theorem idxL_ge (m : Int) : ∀ (l : List Int) (i : Nat), decide (idxL m l i ≥ 0) = l.any (badL m)
  | [], i => rfl
  | n :: l, i => by
    rw [idxL, List.any_cons]
    cases hb : badL m n
    · rw [if_neg (by simp), idxL_ge m l (i + 1)]; rfl
    · rw [if_pos rfl]; simp
theorem intsC_get {l : List Int} {i : Nat} {n : Int} (h : l[i]? = some n) : (intsC l)[i]? = some [.int .i64 n] := by simp [intsC, h]
theorem lt_ints {l : List Int} {i : Nat} (h : i < l.length) : decide ((i : Int) < ((intsC l).length : Int)) = true := decide_eq_true (by rw [intsC_len]; omega)
theorem ge_ints {l : List Int} : decide ((l.length : Int) < ((intsC l).length : Int)) = false := decide_eq_false (by rw [intsC_len]; omega)
def ifS (h : Heap) (lo : Nat) (l : List Int) (i : Int) (_ : Unit) : St :=
  { env := [(0, .v (.vs 1 (intsC l))), (1, .v (.fn (.func 65) [])), (7, .v (.int .i64 (intsC l).length)), (8, .v (.int .i64 i))], loc := [], heap := h, inRound := false, lo := lo }
theorem index_run (l : List Int) (hk : l.length + 1 < k) (hl : l.length < 9223372036854775808) : call Try.prog cfg (k + 1) lo (.func 95) [.vs 1 (intsC l), .fn (.func 65) []] h = some (.int .i64 (idxL 15 l 0), h) := by
  apply W_call Try.func95 rfl (Nat.le_of_ble_eq_true rfl) rfl rfl
  (repeat' (first | apply W_seq | refine W_true rfl rfl ?_ | refine W_false rfl rfl ?_ | refine W_region (id := 0) rfl rfl ?_ | refine W_region (id := 1) rfl rfl ?_ | apply W_skip | apply W_block | apply W_ret | apply W_exit | refine W_true rfl (by assumption) ?_ | refine W_false rfl (by assumption) ?_ | refine W_cond rfl (fun _ => ?_) (fun _ => ?_)))
  apply W_iterI (S := ifS h lo l) (l := l) (a0 := ()) (fun i rest _ => idxL 15 rest i = idxL 15 l 0) (by omega) (by omega) rfl rfl
  · intro i n rest a hi hd hil hJ
    have hrow := intsC_get hi
    have hlt := lt_ints hil
    have hb := bad_run (k - 1) h lo n
    rw [show k - 1 + 1 = k by omega] at hb
    rw [idxL] at hJ
    cases hc : badL 15 n
    · rw [hc] at hb hJ
      rw [if_neg (by simp)] at hJ
      (repeat' (first | apply W_seq | refine W_true rfl rfl ?_ | refine W_false rfl rfl ?_ | (refine W_ops (id := 2) rfl ?_ <;> (refine T_go rfl ?_; refine G_true rfl (by with_reducible assumption) ?_) <;> apply T_nil) | refine W_region (id := 3) rfl rfl ?_ | (refine W_ops (id := 4) rfl ?_ <;> refine T_ch 3 rfl ?_ <;> (refine T_go rfl ?_; refine G_op (O_index rfl rfl rfl rfl rfl (by assumption)) ?_) <;> (refine T_go rfl ?_; refine G_op rfl ?_) <;> (refine T_go rfl ?_; refine G_false (O_call rfl rfl rfl rfl (by assumption)) rfl ?_) <;> apply T_nil) | refine W_region (id := 6) rfl rfl ?_ | apply W_skip | apply W_block | apply W_ret | apply W_exit | refine W_true rfl (by assumption) ?_ | refine W_false rfl (by assumption) ?_ | refine W_cond rfl (fun _ => ?_) (fun _ => ?_)))
      exact ⟨(), rfl, hJ⟩
    · rw [hc] at hb hJ
      rw [if_pos rfl] at hJ
      (repeat' (first | apply W_seq | refine W_true rfl rfl ?_ | refine W_false rfl rfl ?_ | (refine W_ops (id := 2) rfl ?_ <;> (refine T_go rfl ?_; refine G_true rfl (by with_reducible assumption) ?_) <;> apply T_nil) | refine W_region (id := 3) rfl rfl ?_ | (refine W_ops (id := 4) rfl ?_ <;> refine T_ch 3 rfl ?_ <;> (refine T_go rfl ?_; refine G_op (O_index rfl rfl rfl rfl rfl (by assumption)) ?_) <;> (refine T_go rfl ?_; refine G_op rfl ?_) <;> (refine T_go rfl ?_; refine G_true (O_call rfl rfl rfl rfl (by assumption)) rfl ?_) <;> apply T_nil) | refine W_region (id := 5) rfl rfl ?_ | apply W_skip | apply W_block | apply W_ret | apply W_exit | refine W_true rfl (by assumption) ?_ | refine W_false rfl (by assumption) ?_ | refine W_cond rfl (fun _ => ?_) (fun _ => ?_)))
      exact ⟨.inl rfl, by rw [← hJ]; rfl⟩
  · intro a hJ
    have hlt := ge_ints (l := l)
    (repeat' (first | apply W_seq | refine W_true rfl rfl ?_ | refine W_false rfl rfl ?_ | (refine W_ops (id := 2) rfl ?_ <;> (refine T_go rfl ?_; refine G_false rfl (by with_reducible assumption) ?_) <;> apply T_nil) | refine W_region (id := 7) rfl rfl ?_ | apply W_skip | apply W_block | apply W_ret | apply W_exit | refine W_true rfl (by assumption) ?_ | refine W_false rfl (by assumption) ?_ | refine W_cond rfl (fun _ => ?_) (fun _ => ?_)))
    exact ⟨.inl rfl, by rw [← hJ]; rfl⟩
theorem contains_run (l : List Int) (hk : l.length + 2 < k) (hl : l.length < 9223372036854775808) : call Try.prog cfg (k + 1) lo (.func 64) [.vs 1 (intsC l), .fn (.func 65) []] h = some (.bool (l.any (badL 15)), h) := by
  have hI := index_run (k - 1) h lo l (by omega) hl
  rw [show k - 1 + 1 = k by omega] at hI
  have hg := idxL_ge 15 l 0
  cases hc : l.any (badL 15) <;> rw [hc] at hg <;>
  · apply W_call Try.func64 rfl (Nat.le_of_ble_eq_true rfl) rfl rfl
    (repeat' (first | apply W_seq | refine W_true rfl rfl ?_ | refine W_false rfl rfl ?_ | refine W_region (id := 0) rfl rfl ?_ | (refine W_ops (id := 1) rfl ?_ <;> refine T_ch 2 rfl ?_ <;> (refine T_go rfl ?_; refine G_op (O_call rfl rfl rfl rfl (by assumption)) ?_) <;> (refine T_go rfl ?_; first | refine G_true rfl (by with_reducible assumption) ?_ | refine G_false rfl (by with_reducible assumption) ?_) <;> refine T_ch 1 rfl ?_ <;> apply T_nil) | apply W_skip | apply W_block | apply W_ret | apply W_exit | refine W_true rfl (by assumption) ?_ | refine W_false rfl (by assumption) ?_ | refine W_cond rfl (fun _ => ?_) (fun _ => ?_)))
    exact ⟨.inl rfl, rfl⟩
def rgS (h : Heap) (p : Pr') (m : Int) (l : List Int) (i : Int) (_ : Unit) : St :=
  { env := [(1, .v (.vs 1 (intsC l))), (2, .v (.int .i64 m)), (3, .p 3 0), (7, .v (.int .i64 i))], loc := [(3, prC p)], heap := h, inRound := false, lo := h.length }
def rangeB (p : Pr') (l : List Int) (m : Int) : Bool := !l.any (badL m) && decide (l.length = p.vars.length)
theorem range_run (p : Pr') (m : Int) (l : List Int) (hk : l.length < k) (hl : l.length < 9223372036854775808) : call Try.prog cfg (k + 1) lo (.func 27) [.agg (prC p), .vs 1 (intsC l), .int .i64 m] h = some (.bool (rangeB p l m), h) := by
  obtain ⟨w, vs, body⟩ := p
  apply W_call Try.func27 rfl (Nat.le_of_ble_eq_true rfl) rfl rfl
  (repeat' (first | apply W_seq | refine W_true rfl rfl ?_ | refine W_false rfl rfl ?_ | refine W_region (id := 0) rfl rfl ?_ | refine W_region (id := 1) rfl rfl ?_ | apply W_skip | apply W_block | apply W_ret | apply W_exit | refine W_true rfl (by assumption) ?_ | refine W_false rfl (by assumption) ?_ | refine W_cond rfl (fun _ => ?_) (fun _ => ?_)))
  apply W_iterI (S := rgS h ⟨w, vs, body⟩ m l) (l := l) (a0 := ()) (fun i rest _ => rest.any (badL m) = l.any (badL m)) (by omega) (by omega) rfl rfl
  · intro i n rest a hi hd hil hJ
    have hrow := intsC_get hi
    have hlt := lt_ints hil
    rw [List.any_cons] at hJ
    have hbd : badL m n = (decide (n < 0) || decide (n > m)) := rfl
    (repeat' (first | apply W_seq | refine W_true rfl rfl ?_ | refine W_false rfl rfl ?_ | (refine W_ops (id := 2) rfl ?_ <;> refine T_ch 3 rfl ?_ <;> (refine T_go rfl ?_; refine G_true rfl (by with_reducible assumption) ?_) <;> apply T_nil) | refine W_region (id := 3) rfl rfl ?_ | (refine W_ops (id := 4) rfl ?_ <;> refine T_ch 2 rfl ?_ <;> (refine T_go rfl ?_; refine G_op (O_index rfl rfl rfl rfl rfl (by assumption)) ?_) <;> (refine T_go rfl ?_; refine G_op rfl ?_) <;> (refine T_go rfl ?_; refine G_split rfl (fun _ => ?_) (fun _ => ?_)) <;> refine T_ch 3 rfl ?_ <;> (first | refine T_skip rfl ?_ | (refine T_go rfl ?_; refine G_op (O_index rfl rfl rfl rfl rfl (by assumption)) ?_)) <;> (first | refine T_skip rfl ?_ | (refine T_go rfl ?_; refine G_op rfl ?_)) <;> refine T_ch 1 rfl ?_ <;> (first | refine T_skip rfl ?_ | (refine T_go rfl ?_; refine G_split rfl (fun _ => ?_) (fun _ => ?_))) <;> refine T_ch 1 rfl ?_ <;> apply T_nil) | refine W_region (id := 5) rfl rfl ?_ | apply W_skip | apply W_block | apply W_ret | apply W_exit | refine W_true rfl (by assumption) ?_ | refine W_false rfl (by assumption) ?_ | refine W_cond rfl (fun _ => ?_) (fun _ => ?_)))
    · rename_i hc
      rw [hbd, hc] at hJ
      exact ⟨.inl rfl, by unfold rangeB; rw [← hJ]; rfl⟩
    · rename_i hc hc2
      rw [hbd, hc, hc2] at hJ
      exact ⟨.inl rfl, by unfold rangeB; rw [← hJ]; rfl⟩
    · rename_i hc hc2
      rw [hbd, hc, hc2] at hJ
      exact ⟨(), rfl, by rw [← hJ]; rfl⟩
  · intro a hJ
    have hlt := ge_ints (l := l)
    have hr : rangeB ⟨w, vs, body⟩ l m = decide ((intsC l).length = (vsC vs).length) := by
      unfold rangeB
      rw [← hJ, intsC_len, vsC_len]; rfl
    rw [hr]
    (repeat' (first | apply W_seq | refine W_true rfl rfl ?_ | refine W_false rfl rfl ?_ | (refine W_ops (id := 2) rfl ?_ <;> refine T_ch 3 rfl ?_ <;> (refine T_go rfl ?_; refine G_false rfl (by with_reducible assumption) ?_) <;> apply T_nil) | (refine W_ops (id := 6) rfl ?_ <;> refine T_ch 5 rfl ?_ <;> (refine T_go rfl ?_; refine G_split rfl (fun _ => ?_) (fun _ => ?_)) <;> refine T_ch 1 rfl ?_ <;> apply T_nil) | apply W_skip | apply W_block | apply W_ret | apply W_exit | refine W_true rfl (by assumption) ?_ | refine W_false rfl (by assumption) ?_ | refine W_cond rfl (fun _ => ?_) (fun _ => ?_)))
    · rename_i he
      exact ⟨.inl rfl, Eq.trans (b := some (AV.bool true, h)) rfl (by rw [decide_eq_true (by simp at he; rw [vsC_len]; omega)])⟩
    · rename_i he
      exact ⟨.inl rfl, Eq.trans (b := some (AV.bool false, h)) rfl (by rw [decide_eq_false (by simp at he; rw [vsC_len]; omega)])⟩
theorem none_run : call Try.prog cfg (k + 1) lo (.func 28) [.agg [.int .i64 0, .nils, .nils]] h = some (.bool true, h) := by
  apply W_call Try.func28 rfl (Nat.le_of_ble_eq_true rfl) rfl rfl
  (repeat' (first | apply W_seq | refine W_true rfl rfl ?_ | refine W_false rfl rfl ?_ | refine W_region (id := 0) rfl rfl ?_ | (refine W_ops (id := 1) rfl ?_ <;> refine T_ch 2 rfl ?_ <;> (refine T_go rfl ?_; refine G_true rfl rfl ?_) <;> refine T_ch 4 rfl ?_ <;> (refine T_go rfl ?_; refine G_true rfl rfl ?_) <;> refine T_ch 5 rfl ?_ <;> (refine T_go rfl ?_; refine G_true rfl rfl ?_) <;> refine T_ch 2 rfl ?_ <;> apply T_nil) | apply W_skip | apply W_block | apply W_ret | apply W_exit | refine W_true rfl (by assumption) ?_ | refine W_false rfl (by assumption) ?_ | refine W_cond rfl (fun _ => ?_) (fun _ => ?_)))
  exact ⟨.inl rfl, rfl⟩

theorem append_sl {tab : Tab} {lo : Nat} {h : Heap} {t e id len : Nat} {ti : TI} {sz0 by_ : Nat} {zr xs : List AV} (ht : Go.Ev.look tab t = some ⟨.slice e, sz0, by_, zr⟩) (he : Go.Ev.look tab e = some ti) (hg : h[id]? = some (.cells e xs)) (hlo : lo ≤ id) (hlen : len * ti.sz = xs.length) (hsz : 0 < ti.sz)
    (more : List (List AV)) (r1 : (len + more.length) * ti.bytes ≤ room) (r2 : len + more.length ≤ room) :
    append tab lo h t (.sl id ti.sz 0 len) (.vs ti.sz more) = some (.sl id ti.sz 0 (len + more.length), h.set id (.cells e (xs ++ more.flatten))) := by
  unfold append
  rw [ht]
  dsimp only
  rw [he]
  dsimp only
  have hrow : rowOf h ti.sz (.vs ti.sz more) = some more.flatten := by simp [rowOf]
  rw [hrow]
  simp only [lenOf]
  rw [hg]
  dsimp only
  rw [if_pos ⟨hlo, by trivial, by trivial, by trivial, hlen, hsz, r1, r2⟩]
theorem vsC_row (l : List Vr') : ∀ r, r ∈ vsC l → r.length = 3 ∧ ∀ x, x ∈ r → static x = true := by
  intro r hr
  obtain ⟨v, _, rfl⟩ := List.mem_map.1 hr
  refine ⟨rfl, fun x hx => ?_⟩
  simp only [vrC, List.mem_cons, List.not_mem_nil, or_false] at hx
  rcases hx with rfl | rfl | rfl <;> rfl
theorem clone_run (vs : List Vr') (hne : vs ≠ []) (hl : vs.length < 1000) (hlo : lo ≤ h.length) :
    call Try.prog cfg (k + 1) lo (.func 66) [.vs 3 (vsC vs)] h = some (.sl h.length 3 0 vs.length, h ++ [.cells 76 (vsC vs).flatten]) := by
  have hap := append_sl (tab := cfg.tab) (lo := lo) (h := h ++ [.cells 76 []]) (t := 22) (e := 76) (id := h.length) (len := 0) (xs := []) rfl rfl (by simp) hlo (by simp) (by decide) (vsC vs)
    (by rw [vsC_len]; simp only [room]; show (0 + vs.length) * 32 ≤ _; omega) (by rw [vsC_len]; simp only [room]; omega)
  have e1 : (h ++ [HObj.cells 76 []]).set h.length (.cells 76 ([] ++ (vsC vs).flatten)) = h ++ [.cells 76 (vsC vs).flatten] := by simp
  rw [e1, vsC_len, Nat.zero_add] at hap
  cases vs with
  | nil => exact absurd rfl hne
  | cons v vs =>
    apply W_call Try.func66 rfl (Nat.le_of_ble_eq_true rfl) rfl rfl
    (repeat' (first | apply W_seq | refine W_true rfl rfl ?_ | refine W_false rfl rfl ?_ | refine W_region (id := 0) rfl rfl ?_ | (refine W_ops (id := 1) rfl ?_ <;> refine T_ch 1 rfl ?_ <;> (refine T_go rfl ?_; refine G_false rfl rfl ?_) <;> apply T_nil) | (refine W_ops (id := 3) rfl ?_ <;> refine T_ch 2 rfl ?_ <;> (refine T_go rfl ?_; refine G_op (O_append rfl rfl rfl rfl rfl (by assumption)) ?_) <;> refine T_ch 1 rfl ?_ <;> apply T_nil) | apply W_skip | apply W_block | apply W_ret | apply W_exit | refine W_true rfl (by assumption) ?_ | refine W_false rfl (by assumption) ?_ | refine W_cond rfl (fun _ => ?_) (fun _ => ?_)))
    exact ⟨.inl rfl, rfl⟩
end Go.Proofs.Ytelobnllkhnpaaa.L
/- level.Relabel. -/
open Go Go.Proofs Go.Ev Go.Proofs.Ytelobnllkhnpaaa.E
namespace Go.Proofs.Ytelobnllkhnpaaa.L
set_option linter.unusedVariables false
set_option linter.unusedSimpArgs false
set_option maxHeartbeats 2000000
set_option maxRecDepth 100000

theorem chkI_cases (p : Pr') : chkI p = 0 ∨ chkI p = 1 ∨ chkI p = 30 := by
  unfold chkI
  split
  · split <;> simp
  · simp
def relV (vs : List Vr') (l : List Int) : List Vr' := List.zipWith (fun v n => { v with level := n }) vs l
theorem relV_len {vs : List Vr'} {l : List Int} (h : l.length = vs.length) : (relV vs l).length = vs.length := by simp [relV, h]
def relP (p : Pr') (l : List Int) : Pr' := { p with vars := relV p.vars l }
/-- One more variable has its level. -/
theorem rel_step {vs a : List Vr'} {l : List Int} {i : Nat} {v : Vr'} {n : Int} (hv : vs[i]? = some v) (hn : l[i]? = some n) (hJ : a = (relV vs l).take i ++ vs.drop i) :
    a[i]? = some v ∧ a.set i { v with level := n } = (relV vs l).take (i + 1) ++ vs.drop (i + 1) := by
  have hiv : i < vs.length := by
    rcases Nat.lt_or_ge i vs.length with h | h
    · exact h
    · rw [List.getElem?_eq_none h] at hv; cases hv
  have hil : i < l.length := by
    rcases Nat.lt_or_ge i l.length with h | h
    · exact h
    · rw [List.getElem?_eq_none h] at hn; cases hn
  have hrel : (relV vs l)[i]? = some { v with level := n } := by
    unfold relV
    rw [List.getElem?_zipWith, hv, hn]
  have hlen : ((relV vs l).take i).length = i := by
    rw [List.length_take]; simp [relV]; omega
  have hd : vs.drop i = v :: vs.drop (i + 1) := by
    rw [List.drop_eq_getElem_cons hiv]
    rw [List.getElem?_eq_getElem hiv] at hv
    injection hv with hv; rw [hv]
  subst hJ
  constructor
  · rw [List.getElem?_append_right (by omega), hlen, Nat.sub_self, hd]; rfl
  · rw [List.set_append_right _ _ (by omega), hlen, Nat.sub_self, hd, List.set_cons_zero, take_succ_of hrel, List.append_assoc]; rfl
theorem vsC_flat (vs : List Vr') : (vsC vs).flatten.length = vs.length * 3 := by rw [flat_len (sz := 3) _ (fun r hr => (vsC_row vs r hr).1), vsC_len]
theorem vs_set {a : List Vr'} {i : Nat} {v : Vr'} (n : Int) (h : a[i]? = some v) : setCells (vsC a).flatten (0 + i * 3 + 1) [.int .i64 n] = (vsC (a.set i { v with level := n })).flatten := by
  have := setCells_flat (sz := 3) (off := 1) (ys := [.int .i64 n]) (vsC a) i (vrC v) (fun r hr => (vsC_row a r hr).1) (vsC_get h) (by simp)
  rw [Nat.zero_add, this]
  unfold vsC
  rw [List.map_set]
  rfl
def hR (h : Heap) (w : Int) (b : List Sm') (n : Nat) (a : List Vr') : Heap := (h ++ [HObj.cells 76 (vsC a).flatten]) ++ [HObj.cells 25 [.int .i64 w, .sl h.length 3 0 n, .vs 5 (smsC b)]]
theorem hR_frz (h : Heap) (w : Int) (b : List Sm') (a : List Vr') : frz1 (hR h w b a.length a) h.length (.sl h.length 3 0 a.length) = some (.vs 3 (vsC a)) := by
  unfold frz1
  dsimp only
  have hg : (hR h w b a.length a)[h.length]? = some (.cells 76 (vsC a).flatten) := by simp [hR]
  rw [hg]
  dsimp only
  have hst : (vsC a).flatten.all static = true := by
    rw [List.all_eq_true]
    intro x hx
    obtain ⟨q, h1, h2⟩ := List.mem_flatten.1 hx
    exact (vsC_row a q h1).2 x h2
  rw [if_pos ⟨Nat.le_refl _, by rw [vsC_flat]; omega, hst⟩, List.drop_zero]
  have := chunks_flat (sz := 3) (vsC a) (fun r hr => (vsC_row a r hr).1)
  rw [vsC_len] at this
  rw [this]
def rlS (h : Heap) (l : List Int) (q n : Nat) (i : Int) (H : Heap) : St :=
  { env := [(1, .v (.vs 1 (intsC l))), (4, .p 4 0), (7, .v (.hp q 3 0)), (37, .v (.int .i64 n)), (38, .v (.int .i64 i))], loc := [(4, [.int .i64 0, .nils, .nils])], heap := H, inRound := false, lo := h.length }
theorem relabel_fin (h : Heap) (w : Int) (b : List Sm') (a : List Vr') : hand true h (.tup [.agg [.int .i64 w, .sl h.length 3 0 a.length, .vs 5 (smsC b)], .int .i64 0]) (hR h w b a.length a) = some (.tup [.agg (prC ⟨w, a, b⟩), .int .i64 0], h) := by
  have h1 := hR_frz h w b a
  have hi : ∀ (z : Int), frz1 (hR h w b a.length a) h.length (.int .i64 z) = some (.int .i64 z) := fun _ => rfl
  have hv : frz1 (hR h w b a.length a) h.length (.vs 5 (smsC b)) = some (.vs 5 (smsC b)) := rfl
  unfold hand
  rw [if_pos rfl]
  simp only [frz, frzM, frz2, frzL, hi, h1, hv]
  rfl
def relabF (p : Pr') (l : List Int) : AV × Int :=
  if chkI p = 0 then (if rangeB p l 15 = true then (.agg (prC (relP p l)), 0) else (.agg [.int .i64 0, .nils, .nils], 1)) else (.agg [.int .i64 0, .nils, .nils], chkI p)
set_option maxHeartbeats 2000000 in
theorem relabel_run (p : Pr') (l : List Int) (k : Nat) (hk : smsK p.body + p.vars.length + l.length + 100 ≤ k) (hK : smsK p.body ≤ 1000000) (hv : chkI p = 0 → p.vars ≠ [] ∧ p.vars.length < 1000) (hl : l.length < 9223372036854775808) (hb : prB p) (h : Heap) (lo : Nat) :
    call Try.prog cfg (k + 1) lo (.func 26) [.agg (prC p), .vs 1 (intsC l)] h = some (.tup [(relabF p l).1, .int .i64 (relabF p l).2], h) := by
  have hC := levcheck_run p (k - 1) (by omega) hb h h.length
  rw [show k - 1 + 1 = k by omega] at hC
  unfold relabF
  rcases chkI_cases p with hc | hc | hc
  · rw [hc] at hC ⊢
    rw [if_pos rfl]
    obtain ⟨hne, hvl⟩ := hv hc
    by_cases hll : l.length = p.vars.length
    · have hF := contains_run (k - 1) h h.length l (by omega) hl
      rw [show k - 1 + 1 = k by omega] at hF
      have hrb : rangeB p l 15 = !l.any (badL 15) := by unfold rangeB; rw [decide_eq_true hll]; simp
      rw [hrb]
      have hln : (((intsC l).length : Int) != ((vsC p.vars).length : Int)) = false := by rw [intsC_len, vsC_len, hll]; simp
      cases ha : l.any (badL 15)
      · rw [ha] at hF
        have hcl := clone_run (k - 1) h h.length p.vars hne hvl (Nat.le_refl _)
        rw [show k - 1 + 1 = k by omega] at hcl
        have hcp := copied_run k p.body (by omega) hK (h ++ [.cells 76 (vsC p.vars).flatten]) (h ++ [HObj.cells 76 (vsC p.vars).flatten]).length
        have hfin := relabel_fin h p.width p.body (relV p.vars l)
        rw [relV_len hll] at hfin
        obtain ⟨w, vs, body⟩ := p
        dsimp only at *
        rw [if_pos (by rfl)]
        have g1 : ((h ++ [HObj.cells 76 (vsC vs).flatten]) ++ [HObj.cells 25 [.int .i64 0, .nils, .nils]])[(h ++ [HObj.cells 76 (vsC vs).flatten]).length]? = some (.cells 25 [.int .i64 0, .nils, .nils]) := by simp
        have g2 : h.length ≤ (h ++ [HObj.cells 76 (vsC vs).flatten]).length := by simp
        have g3 : (h ++ [HObj.cells 76 (vsC vs).flatten]).length < ((h ++ [HObj.cells 76 (vsC vs).flatten]) ++ [HObj.cells 25 [.int .i64 0, .nils, .nils]]).length := by simp
        have hgp : ∀ a, (hR h w body vs.length a)[(h ++ [HObj.cells 76 (vsC vs).flatten]).length]? = some (.cells 25 [.int .i64 w, .sl h.length 3 0 vs.length, .vs 5 (smsC body)]) := fun a => by simp [hR]
        apply W_call Try.func26 rfl (Nat.le_of_ble_eq_true rfl) rfl rfl
        (repeat' (first | apply W_seq | refine W_true rfl rfl ?_ | refine W_false rfl rfl ?_ | refine W_region (id := 0) rfl rfl ?_ | (refine W_ops (id := 1) rfl ?_ <;> refine T_ch 1 rfl ?_ <;> (refine T_go rfl ?_; refine G_op (O_call rfl rfl rfl rfl (by assumption)) ?_) <;> refine T_ch 1 rfl ?_ <;> apply T_nil) | (refine W_ops (id := 2) rfl ?_ <;> refine T_ch 1 rfl ?_ <;> (refine T_go rfl ?_; refine G_false rfl rfl ?_) <;> apply T_nil) | (refine W_ops (id := 4) rfl ?_ <;> refine T_ch 5 rfl ?_ <;> (refine T_go rfl ?_; refine G_false rfl (by assumption) ?_) <;> refine T_ch 2 rfl ?_ <;> (refine T_go rfl ?_; refine G_false (O_call rfl rfl rfl rfl (by assumption)) rfl ?_) <;> refine T_ch 1 rfl ?_ <;> apply T_nil) | (refine W_dops (id := 6) (bs := [0, 1, 0, 4, 12, 0, 32, 124, 255, 0, 1023]) rfl (by decide +kernel) ?_ <;> (refine U_go rfl ?_; refine H_free (by decide +kernel) rfl rfl rfl rfl rfl ?_) <;> (refine U_go rfl ?_; refine H_free (by decide +kernel) rfl rfl rfl rfl rfl ?_) <;> (refine U_go rfl ?_; refine H_free (by decide +kernel) rfl rfl rfl rfl rfl ?_) <;> (refine U_go rfl ?_; refine H_free (by decide +kernel) rfl rfl rfl rfl rfl ?_) <;> (refine U_go rfl ?_; refine H_make (by decide +kernel) rfl (O_call rfl rfl rfl rfl (by assumption)) rfl rfl rfl ?_) <;> (refine U_go rfl ?_; refine H_free (by decide +kernel) rfl rfl rfl rfl rfl ?_) <;> (refine U_go rfl ?_; refine H_free (by decide +kernel) rfl rfl rfl rfl rfl ?_) <;> (refine U_go rfl ?_; refine H_free (by decide +kernel) rfl (O_call rfl rfl rfl rfl (by assumption)) rfl rfl rfl ?_) <;> (refine U_go rfl ?_; refine H_free (by decide +kernel) rfl rfl rfl rfl rfl ?_) <;> (refine U_go rfl ?_; refine H_make (by decide +kernel) rfl rfl rfl rfl rfl ?_) <;> (refine U_go rfl ?_; refine H_op (by decide +kernel) (O_storeH rfl rfl rfl rfl (by assumption) ⟨by assumption, rfl, rfl, Nat.le_of_ble_eq_true rfl⟩) ?_) <;> apply U_nil) | (refine W_ops (id := 7) rfl ?_ <;> refine T_ch 1 rfl ?_ <;> (refine T_go rfl ?_; refine G_op (O_loadS rfl rfl rfl rfl (by assumption) rfl rfl) ?_) <;> refine T_ch 2 rfl ?_ <;> apply T_nil) | apply W_skip | apply W_block | apply W_ret | apply W_exit | refine W_true rfl (by assumption) ?_ | refine W_false rfl (by assumption) ?_ | refine W_cond rfl (fun _ => ?_) (fun _ => ?_)))
        apply W_iterI (S := rlS h l (h ++ [HObj.cells 76 (vsC vs).flatten]).length vs.length) (l := vs)
          (a0 := ((h ++ [HObj.cells 76 (vsC vs).flatten]) ++ [HObj.cells 25 [.int .i64 0, .nils, .nils]]).set (h ++ [HObj.cells 76 (vsC vs).flatten]).length (.cells 25 [.int .i64 w, .sl h.length 3 0 vs.length, .vs 5 (smsC body)]))
          (fun i rest H => ∃ a, a = (relV vs l).take i ++ vs.drop i ∧ H = hR h w body vs.length a) (by omega) (by omega) rfl ⟨vs, by simp, by simp [hR]⟩
        · intro i v rest H hi hd hil hJ
          obtain ⟨a, ha', rfl⟩ := hJ
          obtain ⟨n, hn⟩ : ∃ n, l[i]? = some n := ⟨l[i]'(by omega), List.getElem?_eq_getElem _⟩
          obtain ⟨hai, hset⟩ := rel_step hi hn ha'
          have hal : a.length = vs.length := by rw [ha', List.length_append, List.length_take, List.length_drop, relV_len hll]; omega
          have hrow := intsC_get hn
          have hlt : decide ((i : Int) < (vs.length : Int)) = true := decide_eq_true (by omega)
          have hgp' := hgp a
          have hgv : (hR h w body vs.length a)[h.length]? = some (.cells 76 (vsC a).flatten) := by simp [hR]
          have hvl' : 0 + vs.length * 3 = (vsC a).flatten.length := by rw [vsC_flat, hal]; omega
          have hst : h.length ≤ h.length ∧ (vsC a).flatten.length = (vsC a).flatten.length ∧ [AV.int .i64 n].length = 1 ∧ 0 + i * 3 + 1 + 1 ≤ (vsC a).flatten.length := ⟨Nat.le_refl _, rfl, rfl, by rw [← hvl']; omega⟩
          have hheap : (hR h w body vs.length a).set h.length (.cells 76 (setCells (vsC a).flatten (0 + i * 3 + 1) [.int .i64 n])) = hR h w body vs.length (a.set i { v with level := n }) := by rw [vs_set n hai]; simp [hR]
          (repeat' (first | apply W_seq | refine W_true rfl rfl ?_ | refine W_false rfl rfl ?_ | (refine W_ops (id := 8) rfl ?_ <;> (refine T_go rfl ?_; refine G_true rfl (by with_reducible assumption) ?_) <;> apply T_nil) | refine W_region (id := 9) rfl rfl ?_ | (refine W_dops (id := 10) (bs := [0, 1, 0, 0, 0, 24, 56, 127, 255, 511]) rfl (by decide +kernel) ?_ <;> (refine U_go rfl ?_; refine H_free (by decide +kernel) rfl rfl rfl rfl rfl ?_) <;> (refine U_go rfl ?_; refine H_free (by decide +kernel) rfl (O_loadH rfl rfl rfl (by assumption) rfl rfl) rfl rfl rfl ?_) <;> (refine U_go rfl ?_; refine H_free (by decide +kernel) rfl rfl rfl rfl rfl ?_) <;> (refine U_go rfl ?_; refine H_free (by decide +kernel) rfl rfl rfl rfl rfl ?_) <;> (refine U_go rfl ?_; refine H_free (by decide +kernel) rfl rfl rfl rfl rfl ?_) <;> (refine U_go rfl ?_; refine H_free (by decide +kernel) rfl (O_index rfl rfl rfl rfl rfl (by assumption)) rfl rfl rfl ?_) <;> (refine U_go rfl ?_; refine H_free (by decide +kernel) rfl rfl rfl rfl rfl ?_) <;> (refine U_go rfl ?_; refine H_op (by decide +kernel) (O_indexH rfl rfl rfl rfl rfl (by assumption) (by assumption) (by assumption)) ?_) <;> (refine U_go rfl ?_; refine H_op (by decide +kernel) rfl ?_) <;> (refine U_go rfl ?_; refine H_op (by decide +kernel) (O_storeH rfl rfl rfl rfl (by assumption) (by assumption)) ?_) <;> apply U_nil) | refine W_region (id := 11) rfl rfl ?_ | apply W_skip | apply W_block | apply W_ret | apply W_exit | refine W_true rfl (by assumption) ?_ | refine W_false rfl (by assumption) ?_ | refine W_cond rfl (fun _ => ?_) (fun _ => ?_)))
          exact ⟨_, rfl, _, hset, hheap⟩
        · intro H hJ
          obtain ⟨a, ha', rfl⟩ := hJ
          have : a = relV vs l := by rw [ha', List.drop_length, List.append_nil, List.take_of_length_le (by rw [relV_len hll]; omega)]
          subst this
          have hlt : decide ((vs.length : Int) < (vs.length : Int)) = false := decide_eq_false (by omega)
          have hgp' := hgp (relV vs l)
          (repeat' (first | apply W_seq | refine W_true rfl rfl ?_ | refine W_false rfl rfl ?_ | (refine W_ops (id := 8) rfl ?_ <;> (refine T_go rfl ?_; refine G_false rfl (by with_reducible assumption) ?_) <;> apply T_nil) | (refine W_ops (id := 12) rfl ?_ <;> (refine T_go rfl ?_; refine G_op (O_loadH rfl rfl rfl (by assumption) rfl rfl) ?_) <;> refine T_ch 2 rfl ?_ <;> apply T_nil) | apply W_skip | apply W_block | apply W_ret | apply W_exit | refine W_true rfl (by assumption) ?_ | refine W_false rfl (by assumption) ?_ | refine W_cond rfl (fun _ => ?_) (fun _ => ?_)))
          exact ⟨.inl rfl, hfin⟩
      · rw [ha] at hF
        obtain ⟨w, vs, body⟩ := p
        dsimp only at *
        rw [if_neg (by simp)]
        apply W_call Try.func26 rfl (Nat.le_of_ble_eq_true rfl) rfl rfl
        (repeat' (first | apply W_seq | refine W_true rfl rfl ?_ | refine W_false rfl rfl ?_ | refine W_region (id := 0) rfl rfl ?_ | (refine W_ops (id := 1) rfl ?_ <;> refine T_ch 1 rfl ?_ <;> (refine T_go rfl ?_; refine G_op (O_call rfl rfl rfl rfl (by assumption)) ?_) <;> refine T_ch 1 rfl ?_ <;> apply T_nil) | (refine W_ops (id := 2) rfl ?_ <;> refine T_ch 1 rfl ?_ <;> (refine T_go rfl ?_; refine G_false rfl rfl ?_) <;> apply T_nil) | (refine W_ops (id := 4) rfl ?_ <;> refine T_ch 5 rfl ?_ <;> (refine T_go rfl ?_; refine G_false rfl (by assumption) ?_) <;> refine T_ch 2 rfl ?_ <;> (refine T_go rfl ?_; refine G_true (O_call rfl rfl rfl rfl (by assumption)) rfl ?_) <;> refine T_ch 1 rfl ?_ <;> apply T_nil) | refine W_region (id := 5) rfl rfl ?_ | apply W_skip | apply W_block | apply W_ret | apply W_exit | refine W_true rfl (by assumption) ?_ | refine W_false rfl (by assumption) ?_ | refine W_cond rfl (fun _ => ?_) (fun _ => ?_)))
        exact ⟨.inl rfl, rfl⟩
    · have hrb : rangeB p l 15 = false := by unfold rangeB; rw [decide_eq_false hll]; simp
      rw [hrb, if_neg (by simp)]
      have hln : (((intsC l).length : Int) != ((vsC p.vars).length : Int)) = true := by rw [intsC_len, vsC_len]; simp; omega
      obtain ⟨w, vs, body⟩ := p
      dsimp only at *
      apply W_call Try.func26 rfl (Nat.le_of_ble_eq_true rfl) rfl rfl
      (repeat' (first | apply W_seq | refine W_true rfl rfl ?_ | refine W_false rfl rfl ?_ | refine W_region (id := 0) rfl rfl ?_ | (refine W_ops (id := 1) rfl ?_ <;> refine T_ch 1 rfl ?_ <;> (refine T_go rfl ?_; refine G_op (O_call rfl rfl rfl rfl (by assumption)) ?_) <;> refine T_ch 1 rfl ?_ <;> apply T_nil) | (refine W_ops (id := 2) rfl ?_ <;> refine T_ch 1 rfl ?_ <;> (refine T_go rfl ?_; refine G_false rfl rfl ?_) <;> apply T_nil) | (refine W_ops (id := 4) rfl ?_ <;> refine T_ch 5 rfl ?_ <;> (refine T_go rfl ?_; refine G_true rfl (by assumption) ?_) <;> refine T_ch 2 rfl ?_ <;> refine T_skip rfl ?_ <;> refine T_ch 1 rfl ?_ <;> apply T_nil) | refine W_region (id := 5) rfl rfl ?_ | apply W_skip | apply W_block | apply W_ret | apply W_exit | refine W_true rfl (by assumption) ?_ | refine W_false rfl (by assumption) ?_ | refine W_cond rfl (fun _ => ?_) (fun _ => ?_)))
      exact ⟨.inl rfl, rfl⟩
  · rw [hc] at hC ⊢
    rw [if_neg (by simp)]
    obtain ⟨w, vs, body⟩ := p
    apply W_call Try.func26 rfl (Nat.le_of_ble_eq_true rfl) rfl rfl
    (repeat' (first | apply W_seq | refine W_true rfl rfl ?_ | refine W_false rfl rfl ?_ | refine W_region (id := 0) rfl rfl ?_ | (refine W_ops (id := 1) rfl ?_ <;> refine T_ch 1 rfl ?_ <;> (refine T_go rfl ?_; refine G_op (O_call rfl rfl rfl rfl (by assumption)) ?_) <;> refine T_ch 1 rfl ?_ <;> apply T_nil) | (refine W_ops (id := 2) rfl ?_ <;> refine T_ch 1 rfl ?_ <;> (refine T_go rfl ?_; refine G_true rfl rfl ?_) <;> apply T_nil) | refine W_region (id := 3) rfl rfl ?_ | apply W_skip | apply W_block | apply W_ret | apply W_exit | refine W_true rfl (by assumption) ?_ | refine W_false rfl (by assumption) ?_ | refine W_cond rfl (fun _ => ?_) (fun _ => ?_)))
    exact ⟨.inl rfl, rfl⟩
  · rw [hc] at hC ⊢
    rw [if_neg (by simp)]
    obtain ⟨w, vs, body⟩ := p
    apply W_call Try.func26 rfl (Nat.le_of_ble_eq_true rfl) rfl rfl
    (repeat' (first | apply W_seq | refine W_true rfl rfl ?_ | refine W_false rfl rfl ?_ | refine W_region (id := 0) rfl rfl ?_ | (refine W_ops (id := 1) rfl ?_ <;> refine T_ch 1 rfl ?_ <;> (refine T_go rfl ?_; refine G_op (O_call rfl rfl rfl rfl (by assumption)) ?_) <;> refine T_ch 1 rfl ?_ <;> apply T_nil) | (refine W_ops (id := 2) rfl ?_ <;> refine T_ch 1 rfl ?_ <;> (refine T_go rfl ?_; refine G_true rfl rfl ?_) <;> apply T_nil) | refine W_region (id := 3) rfl rfl ?_ | apply W_skip | apply W_block | apply W_ret | apply W_exit | refine W_true rfl (by assumption) ?_ | refine W_false rfl (by assumption) ?_ | refine W_cond rfl (fun _ => ?_) (fun _ => ?_)))
    exact ⟨.inl rfl, rfl⟩
end Go.Proofs.Ytelobnllkhnpaaa.L
/- A program with other levels is one that memory can hold. -/
open Go Go.Proofs Go.Ev Go.Proofs.Ytelobnllkhnpaaa.E
namespace Go.Proofs.Ytelobnllkhnpaaa.L
set_option linter.unusedVariables false
set_option linter.unusedSimpArgs false
set_option maxHeartbeats 2000000
set_option maxRecDepth 100000

theorem relP_B {p : Pr'} {l : List Int} (hb : prB p) (hll : l.length = p.vars.length) : prB (relP p l) := by
  obtain ⟨⟨h1, h2⟩, h3, h4⟩ := hb
  refine ⟨⟨?_, fun v hv => ?_⟩, h3, h4⟩
  · show (relV p.vars l).length < _
    rw [relV_len hll]; exact h1
  · obtain ⟨i, hi⟩ := List.mem_iff_getElem?.1 (show v ∈ relV p.vars l from hv)
    unfold relV at hi
    rw [List.getElem?_zipWith] at hi
    split at hi
    · rename_i a b ha hb
      injection hi with hi; subst hi
      exact h2 a (List.mem_of_getElem? ha)
    · cases hi
end Go.Proofs.Ytelobnllkhnpaaa.L
/- The laws More and Less, plain: other levels; types that move find no more flows; no lower levels do. -/
open Go Go.Proofs Go.Ev Go.Proofs.Ytelobnllkhnpaaa.E
namespace Go.Proofs.Ytelobnllkhnpaaa.L
set_option linter.unusedVariables false
set_option linter.unusedSimpArgs false
set_option maxHeartbeats 2000000
set_option maxRecDepth 100000

/-! ### Other levels -/
def VsEq (vs vs' : List Vr') : Prop := vs'.length = vs.length ∧ ∀ n : Int, cellsAt vs' n = cellsAt vs n
section
variable {w c : Int} {vs vs' : List Vr'}
theorem nodeB_cg (H : VsEq vs vs') (e : Ex') : nodeB w vs' c e = nodeB w vs c e := by
  obtain ⟨op, n, cp, es⟩ := e
  unfold nodeB
  simp only [H.1, H.2]
mutual
theorem formE_cg (H : VsEq vs vs') : ∀ e : Ex', formE w vs' c e = formE w vs c e
  | .mk op n cp es => by rw [formE, formE, nodeB_cg H, formEs_cg H es]
theorem formEs_cg (H : VsEq vs vs') : ∀ es : List Ex', formEs w vs' c es = formEs w vs c es
  | [] => by rw [formEs, formEs]
  | e :: es => by rw [formEs, formEs, formE_cg H e, formEs_cg H es]
end
theorem isE_cg (H : VsEq vs vs') : isE w vs' c = isE w vs c := by
  funext e
  unfold isE
  rw [formE_cg H]
theorem headB_cg (H : VsEq vs vs') (s : Sm') : headB vs' s = headB vs s := by
  obtain ⟨op, n, a, t, e⟩ := s
  unfold headB variableB
  simp only [H.1, H.2]
mutual
theorem rowB_cg (H : VsEq vs vs') : ∀ s : Sm', rowB w vs' s = rowB w vs s
  | .mk op n a t e => by rw [rowB, rowB, headB_cg H, rowsB_cg H t, rowsB_cg H e, isE_cg H]
theorem rowsB_cg (H : VsEq vs vs') : ∀ l : List Sm', rowsB w vs' l = rowsB w vs l
  | [] => by rw [rowsB, rowsB]
  | s :: l => by rw [rowsB, rowsB, rowB_cg H s, rowsB_cg H l]
end
end
theorem relV_cells : ∀ {vs : List Vr'} {l : List Int}, l.length = vs.length → ∀ i : Nat, (relV vs l)[i]?.map (·.cells) = vs[i]?.map (·.cells)
  | [], [], _, i => rfl
  | [], _ :: _, h, _ => by simp at h
  | _ :: _, [], h, _ => by simp at h
  | v :: vs, n :: l, h, 0 => rfl
  | v :: vs, n :: l, h, i + 1 => relV_cells (vs := vs) (l := l) (by simpa using h) i
theorem relV_eq {vs : List Vr'} {l : List Int} (h : l.length = vs.length) : VsEq vs (relV vs l) := by
  refine ⟨relV_len h, fun n => ?_⟩
  have := relV_cells h n.toNat
  unfold cellsAt
  cases h1 : (relV vs l)[n.toNat]? <;> cases h2 : vs[n.toNat]? <;> rw [h1, h2] at this <;> simp at this ⊢
  exact this
theorem findF_rel (nm : ByteArray) : ∀ {vs : List Vr'} {l : List Int} (i : Int), l.length = vs.length → findF nm (relV vs l) i = findF nm vs i
  | [], [], i, _ => rfl
  | [], _ :: _, i, h => by simp at h
  | _ :: _, [], i, h => by simp at h
  | v :: vs, n :: l, i, h => by
    show findF nm ({ v with level := n } :: relV vs l) i = _
    rw [findF, findF, findF_rel nm (vs := vs) (l := l) (i + 1) (by simpa using h)]
theorem headRF_rel {all all' : List Vr'} (hf : ∀ nm i, findF nm all' i = findF nm all i) : ∀ {vs : List Vr'} {l : List Int} (i sum : Int), l.length = vs.length → lvsF l → headRF all vs i sum = true → headRF all' (relV vs l) i sum = true
  | [], [], i, sum, _, _, h => by
    show headRF all' [] i sum = true
    rw [headRF] at h ⊢
    exact h
  | [], _ :: _, i, sum, h, _, _ => by simp at h
  | _ :: _, [], i, sum, h, _, _ => by simp at h
  | v :: vs, n :: l, i, sum, hl, hB, h => by
    show headRF all' ({ v with level := n } :: relV vs l) i sum = true
    rw [headRF] at h ⊢
    simp only [Bool.and_eq_true] at h ⊢
    obtain ⟨⟨⟨h1, h2⟩, h3⟩, h4⟩ := h
    refine ⟨⟨⟨h1, ?_⟩, by rw [hf]; exact h3⟩, headRF_rel hf _ _ (by simpa using hl) (fun x hx => hB x (List.mem_cons_of_mem _ hx)) h4⟩
    have hn := hB n (List.mem_cons_self ..)
    unfold lvF at hn
    unfold varB at h2 ⊢
    simp only [Bool.and_eq_true, Bool.not_eq_true', decide_eq_false_iff_not] at h2 ⊢
    exact ⟨⟨⟨by omega, by omega⟩, h2.1.2⟩, h2.2⟩
theorem isP_rel {p : Pr'} {l : List Int} (hP : isP p = true) (hl : l.length = p.vars.length) (hB : lvsF l) : isP (relP p l) = true := by
  unfold isP at hP ⊢
  simp only [Bool.and_eq_true] at hP ⊢
  obtain ⟨⟨⟨h1, h2⟩, h3⟩, h4⟩ := hP
  refine ⟨⟨⟨?_, h2⟩, h3⟩, ?_⟩
  · unfold headRB at h1 ⊢
    simp only [Bool.and_eq_true] at h1 ⊢
    obtain ⟨⟨⟨g1, g2⟩, g3⟩, g4⟩ := h1
    have hlen : (relP p l).vars.length = p.vars.length := relV_len hl
    refine ⟨⟨⟨g1, by rw [hlen]; exact g2⟩, by rw [hlen]; exact g3⟩, headRF_rel (fun nm i => findF_rel nm i hl) _ _ hl hB g4⟩
  · show rowsB p.width (relV p.vars l) p.body = true
    rw [rowsB_cg (relV_eq hl)]
    exact h4
theorem relV_mem : ∀ {vs : List Vr'} {l : List Int} {v : Vr'}, v ∈ relV vs l → v.level ∈ l
  | [], _, v, h => by simp [relV] at h
  | _ :: _, [], v, h => by simp [relV] at h
  | x :: vs, n :: l, v, h => by
    have h' : v ∈ ({ x with level := n } : Vr') :: relV vs l := h
    rcases List.mem_cons.1 h' with rfl | h'
    · exact List.mem_cons_self ..
    · exact List.mem_cons_of_mem _ (relV_mem h')
theorem singleR_rel {p : Pr'} {l : List Int} (hS : singleR p = true) (hB : lvsF l) : singleR (relP p l) = true := by
  unfold singleR at hS ⊢
  simp only [Bool.and_eq_true] at hS ⊢
  refine ⟨List.all_eq_true.2 fun v hv => ?_, hS.2⟩
  have := hB _ (relV_mem hv)
  unfold lvF at this
  simp only [Bool.not_eq_true', decide_eq_false_iff_not]
  omega
theorem levs_rel : ∀ {vs : List Vr'} {l : List Int}, l.length = vs.length → (relV vs l).map (·.level) = l
  | [], [], _ => rfl
  | [], _ :: _, h => by simp at h
  | _ :: _, [], h => by simp at h
  | v :: vs, n :: l, h => by
    show n :: (relV vs l).map (·.level) = n :: l
    rw [levs_rel (by simpa using h)]
theorem range_F {p : Pr'} {l : List Int} (hl : l.length = p.vars.length) (hB : lvsF l) : rangeB p l 15 = true := by
  unfold rangeB
  rw [decide_eq_true hl, Bool.and_true, Bool.not_eq_true', List.any_eq_false]
  intro n hn
  have := hB n hn
  unfold lvF at this
  unfold badL
  simp only [Bool.or_eq_true, decide_eq_true_eq, not_or]
  omega

/-! ### Types that move find no more -/
theorem joinL_le {x y L : List Int} (hx : lvsB x) (hy : lvsB y) (hL : lvsB L) (h1 : leL x L) (h2 : leL y L) : leL (joinL x y) L := by
  have hxy : x.length = y.length := h1.1.trans h2.1.symm
  refine ⟨by rw [joinL_len hxy]; exact h1.1, fun i => ?_⟩
  have g1 := h1.2 i
  have g2 := h2.2 i
  have b1 := lvsB_getD hx i
  have b2 := lvsB_getD hy i
  have b3 := lvsB_getD hL i
  have e : (joinL x y).getD i 0 = if i < x.length then orI (x.getD i 0) (y.getD i 0) else 0 := by
    unfold joinL
    rw [List.getD_eq_getElem?_getD, List.getElem?_zipWith, List.getD_eq_getElem?_getD, List.getD_eq_getElem?_getD]
    by_cases hi : i < x.length
    · rw [if_pos hi, List.getElem?_eq_getElem hi, List.getElem?_eq_getElem (by omega)]
      rfl
    · rw [if_neg hi, List.getElem?_eq_none (by omega)]
      rfl
  rw [e]
  split
  · exact orI_le b1 b2 b3 g1 g2
  · exact zero_leI b3
section
variable {vs : List Vr'} {L : List Int}
mutual
theorem mv1_un (hL : lvsB L) : ∀ (s : Sm') {lv : List Int} {ar : Int} {g : List Int → Int} (n m : Int), vm1 vs.length s → Good g → lv.length = vs.length → lvsB lv → lvB ar → leL lv L → leI ar (g L) → (∀ c, c ∈ cs1 s g n → c.ok L ∧ (c.op = 3 → lvB c.nn)) →
    leL (mv1 (putR vs) ofA s lv ar) L ∧ ∀ q, q ∈ pl1 (putR vs) ofA s lv ar m → flPl q = []
  | .mk op nn a t e, lv, ar, g, n, m, hv, hg, hl, hB, har, hle, hag, hc => by
    have hMv := mvR_ok vs vs.length
    have hv' := hv
    rw [vm1] at hv
    have hfB : ∀ {x : List Int}, lvsB x → lvB (orI ar (ofA x a)) := fun hx => orI_B har (ofEs_B hx a lvB0)
    have hgB := (hg.or a).B L hL
    have hmono : ∀ {x : List Int}, lvsB x → leL x L → leI (orI ar (ofA x a)) (orI (g L) (ofEs L 0 a)) := fun hx hxl => orI_mono har (ofEs_B hx a lvB0) (hg.B L hL) (ofEs_B hL a lvB0) hag (ofEs_mono hxl hx hL a lvB0 lvB0 (leI_refl lvB0))
    have hc0 := hc ⟨n, op, nn, fun lv => orI (g lv) (ofEs lv 0 a)⟩ (by rw [cs1]; exact List.mem_cons_self ..)
    have hct : ∀ c, c ∈ csL t (fun lv => orI (g lv) (ofEs lv 0 a)) (IntKind.i64.wrap (n + 1)) → c.ok L ∧ (c.op = 3 → lvB c.nn) := fun c h => hc c (by rw [cs1]; exact List.mem_cons_of_mem _ (List.mem_append_left _ h))
    have hce : ∀ c, c ∈ csL e (fun lv => orI (g lv) (ofEs lv 0 a)) (IntKind.i64.wrap (IntKind.i64.wrap (n + 1) + cntL t 0)) → c.ok L ∧ (c.op = 3 → lvB c.nn) := fun c h => hc c (by rw [cs1]; exact List.mem_cons_of_mem _ (List.mem_append_right _ h))
    have hno : op ≠ 3 → ∀ x : List Int, flPl (m, .mk op nn a t e, x, ar) = [] := fun h3 x => by unfold flPl; dsimp only; rw [if_neg h3]
    rw [mv1, pl1]
    by_cases o1 : op = 1
    · rw [if_pos o1, if_pos o1]
      obtain ⟨_, t2⟩ := mvL_ok hMv t lv (orI ar (ofA lv a)) hl hB (hfB hB) hv.2.2.2.1
      obtain ⟨_, e2⟩ := mvL_ok hMv e lv (orI ar (ofA lv a)) hl hB (hfB hB) hv.2.2.2.2
      obtain ⟨a1, a2⟩ := mvL_un hL t (IntKind.i64.wrap (n + 1)) (IntKind.i64.wrap (m + 1)) hv.2.2.2.1 (hg.or a) hl hB (hfB hB) hle (hmono hB hle) hct
      obtain ⟨b1, b2⟩ := mvL_un hL e (IntKind.i64.wrap (IntKind.i64.wrap (n + 1) + cntL t 0)) (IntKind.i64.wrap (IntKind.i64.wrap (m + 1) + cntL t 0)) hv.2.2.2.2 (hg.or a) hl hB (hfB hB) hle (hmono hB hle) hce
      refine ⟨joinL_le t2 e2 hL a1 b1, fun q hq => ?_⟩
      rcases List.mem_cons.1 hq with rfl | hq
      · exact hno (by omega) lv
      · rcases List.mem_append.1 hq with hq | hq
        · exact a2 q hq
        · exact b2 q hq
    · rw [if_neg o1, if_neg o1]
      by_cases o2 : op = 2
      · rw [if_pos o2, if_pos o2]
        have hm : mv1 (putR vs) ofA (.mk op nn a t e) lv ar = fixN (fun x => joinL x (mvL (putR vs) ofA t x (orI ar (ofA x a)))) 600 lv := by rw [mv1, if_neg o1, if_pos o2]
        have key := fixN_keep (f := fun x => joinL x (mvL (putR vs) ofA t x (orI ar (ofA x a)))) (Q := fun x => (x.length = vs.length ∧ lvsB x) ∧ leL x L) (fun x hx => by
          obtain ⟨q1, q2, _⟩ := round_ok hMv hv.2.2.2.1 har a hx.1.1 hx.1.2
          obtain ⟨_, t2⟩ := mvL_ok hMv t x (orI ar (ofA x a)) hx.1.1 hx.1.2 (hfB hx.1.2) hv.2.2.2.1
          have h1 := (mvL_un hL t (IntKind.i64.wrap (n + 1)) 0 hv.2.2.2.1 (hg.or a) hx.1.1 hx.1.2 (hfB hx.1.2) hx.2 (hmono hx.1.2 hx.2) hct).1
          exact ⟨⟨q1, q2⟩, joinL_le hx.1.2 t2 hL hx.2 h1⟩) 600 lv ⟨⟨hl, hB⟩, hle⟩
        rw [hm]
        obtain ⟨⟨k1, k2⟩, k3⟩ := key
        refine ⟨k3, fun q hq => ?_⟩
        rcases List.mem_cons.1 hq with rfl | hq
        · exact hno (by omega) _
        · exact (mvL_un hL t (IntKind.i64.wrap (n + 1)) (IntKind.i64.wrap (m + 1)) hv.2.2.2.1 (hg.or a) k1 k2 (hfB k2) k3 (hmono k2 k3) hct).2 q hq
      · rw [if_neg o2, if_neg o2]
        have hfr : (op = 0 ∨ op = 4) → leI (fromP lv ar op a) (L.getD nn.toNat 0) := fun ho => by
          unfold fromP
          rcases ho with ho | ho
          · rw [if_neg (by omega)]
            exact leI_trans (hfB hB) hgB (lvsB_getD hL _) (hmono hB hle) (hc0.1.1 ho)
          · rw [if_pos ho]
            exact leI_trans (orI_B (hfB hB) lvB16) (orI_B hgB lvB16) (lvsB_getD hL _) (orI_mono (hfB hB) lvB16 hgB lvB16 (hmono hB hle) (leI_refl lvB16)) (hc0.1.2.1 ho)
        constructor
        · unfold putR
          dsimp only
          split
          · rename_i ho
            refine set_leL hle (orI_le (fromP_B hB har op a) (keptI_B hB vs nn) (lvsB_getD hL _) (hfr ho) ?_)
            unfold keptI
            split
            · exact hle.2 _
            · exact zero_leI (lvsB_getD hL _)
          · exact hle
        · intro q hq
          rw [List.mem_singleton] at hq
          subst hq
          by_cases o3 : op = 3
          · unfold flPl
            dsimp only
            rw [if_pos o3]
            refine (flowL_nil (hfB hB) (show lvB nn from hc0.2 o3)).2 ?_
            exact leI_trans (hfB hB) hgB (hc0.2 o3) (hmono hB hle) (hc0.1.2.2 o3)
          · exact hno o3 lv
theorem mvL_un (hL : lvsB L) : ∀ (l : List Sm') {lv : List Int} {ar : Int} {g : List Int → Int} (n m : Int), vmL vs.length l → Good g → lv.length = vs.length → lvsB lv → lvB ar → leL lv L → leI ar (g L) → (∀ c, c ∈ csL l g n → c.ok L ∧ (c.op = 3 → lvB c.nn)) →
    leL (mvL (putR vs) ofA l lv ar) L ∧ ∀ q, q ∈ plL (putR vs) ofA l lv ar m → flPl q = []
  | [], lv, ar, g, n, m, hv, hg, hl, hB, har, hle, hag, hc => by
    rw [mvL, plL]
    exact ⟨hle, fun q hq => by cases hq⟩
  | s :: l, lv, ar, g, n, m, hv, hg, hl, hB, har, hle, hag, hc => by
    obtain ⟨a1, a2⟩ := mv1_un hL s n m hv.1 hg hl hB har hle hag (fun c h => hc c (by rw [csL]; exact List.mem_append_left _ h))
    obtain ⟨q1, q2⟩ := mv1_ok (mvR_ok vs vs.length) s lv ar hl hB har hv.1
    obtain ⟨b1, b2⟩ := mvL_un hL l (cnt1 s n) (cnt1 s m) hv.2 hg q1 q2 har a1 hag (fun c h => hc c (by rw [csL]; exact List.mem_append_right _ h))
    rw [mvL, plL]
    refine ⟨b1, fun q hq => ?_⟩
    rcases List.mem_append.1 hq with hq | hq
    · exact a2 q hq
    · exact b2 q hq
end
end
theorem more_moved {p : Pr'} (hP : isP p = true) (hS : singleR p = true) (hfl : fixRL (levs p) p.body 0 0 = []) : leL (lastR p) (levs p) ∧ (plsR p).flatMap flPl = [] := by
  have hB := levs_B hP hS
  have hok := (flows_nil hP hS hB).1 hfl
  obtain ⟨h1, h2⟩ := mvL_un (vs := p.vars) hB p.body (g := fun _ => 0) 0 0 (rows_vm _ (isP_rows hP)) good0 (levs_len p) hB lvB0 (leL_refl hB) (leI_refl lvB0) (fun c hc => ⟨hok c hc, fun h3 => (cs_out hP hS hc h3).B⟩)
  exact ⟨h1, List.flatMap_eq_nil_iff.2 h2⟩
/-- Less than the least levels: there is a flow. -/
theorem less_flows {p : Pr'} {st : List Bool} (hP : isP p = true) (hS : singleR p = true) (hst : st.length = p.vars.length) {v : Nat} (hv : v < p.vars.length) (hsv : st.getD v false = false) {d : Int} (hd : lvF d) (hle : leI d ((lfpR p st).getD v 0)) (hne : d ≠ (lfpR p st).getD v 0) :
    fixRL ((lfpR p st).set v d) p.body 0 0 ≠ [] := by
  have H := lfp_ok (st := st) hP hS
  generalize lfpR p st = l at *
  intro he
  have hB := lvsF_set H.in15 hd v
  have hok := (flows_nil hP hS hB.B).1 he
  have hzB := H.z15.B
  have hge : leL (zeroL st (levs p)) (l.set v d) := by
    refine ⟨by simpa using H.ge.1, fun i => ?_⟩
    rw [getD_set]
    split
    · rename_i e
      rw [← e.1, zeroL_get st (levs p) v (by omega), hsv, if_neg (by simp)]
      exact zero_leI hd.B
    · exact H.ge.2 i
  have hll := H.least (l.set v d) (by simpa using H.len) hB.B hge (fun c hc ho _ => (hok c hc).1 ho)
  have := hll.2 v
  rw [getD_set, if_pos ⟨rfl, by rw [H.len]; exact hv⟩] at this
  exact hne (leI_antisymm hle this)
end Go.Proofs.Ytelobnllkhnpaaa.L
/- Flows by fixed types, of levels that are still written. -/
open Go Go.Proofs Go.Ev Go.Proofs.Ytelobnllkhnpaaa.E
namespace Go.Proofs.Ytelobnllkhnpaaa.L
set_option linter.unusedVariables false
set_option linter.unusedSimpArgs false
set_option maxHeartbeats 2000000
set_option maxRecDepth 100000

theorem flB_get {h : Heap} {id : Nat} {o : HObj} (x : List (List AV)) (Y : HObj) (hg : h[id]? = some o) : ((flB h x).set (h.length + 1) Y)[id]? = some o := by
  have := cells_lt hg
  rw [List.getElem?_set_ne (by omega)]
  cases x with
  | nil => simp only [flB]; rw [List.getElem?_append_left this]; exact hg
  | cons r l => simp only [flB]; rw [List.getElem?_append_left this]; exact hg
def fpV (id : Nat) (lv : List Int) (h : Heap) (lo : Nat) (ar : Int) (l : List Sm') (i : Int) (a : List (List AV) × Int) : St :=
  { env := [(1, .v (.sl id 1 0 lv.length)), (2, .v (.int .i64 ar)), (3, .v (.hp (h.length + 1) 1 0)), (4, .v (.fn (.func 89) [.hp h.length 1 0])), (14, .v (.vs 5 (smsC l))), (15, .v (.int .i64 (smsC l).length)), (16, .v (.int .i64 i))], loc := [], heap := (flB h a.1).set (h.length + 1) (.cells 3 [.int .i64 a.2]), inRound := false, lo := lo }
set_option maxHeartbeats 2000000 in
theorem fixedV_run (lv : List Int) (h : Heap) (id : Nat) (hid : h[id]? = some (.cells 3 (ic lv))) (lo : Nat) (hlo' : lo ≤ h.length) : ∀ (k : Nat) (l : List Sm'), smsK l + 20 ≤ k → l.length < 9223372036854775808 → smsB l → rdSs lv.length l → ∀ (ar : Int) (x : List (List AV)) (n : Int), Row3 x → x.length + smsN l ≤ 90000 →
    call Try.prog cfg k lo (.func 88) [.vs 5 (smsC l), .sl id 1 0 lv.length, .int .i64 ar, .hp (h.length + 1) 1 0, .fn (.func 89) [.hp h.length 1 0]] ((flB h x).set (h.length + 1) (.cells 3 [.int .i64 n])) =
      some (.tup [], (flB h (fixPL tellL lv l ar x n).1).set (h.length + 1) (.cells 3 [.int .i64 (fixPL tellL lv l ar x n).2]))
  | 0, l, hk, _, _, _, _, _, _, _, _ => by have := smsK_len l; omega
  | k + 1, l, hk, hlen, hb, hr, ar, x, n, hx3, hxn => by
    have hll := smsK_len l
    have hlo : lo ≤ h.length + 1 := by omega
    generalize hR : fixPL tellL lv l ar x n = R
    apply W_call Try.func88 rfl (Nat.le_of_ble_eq_true rfl) rfl rfl
    (repeat' (first | apply W_seq | refine W_true rfl rfl ?_ | refine W_false rfl rfl ?_ | refine W_region (id := 0) rfl rfl ?_ | apply W_skip | apply W_block | apply W_ret | apply W_exit | refine W_true rfl (by assumption) ?_ | refine W_false rfl (by assumption) ?_ | refine W_cond rfl (fun _ => ?_) (fun _ => ?_)))
    apply W_iter (S := fpV id lv h lo ar l) (l := l) (a0 := (x, n)) (fun rest a => fixPL tellL lv rest ar a.1 a.2 = R ∧ Row3 a.1 ∧ a.1.length + smsN rest ≤ 90000) hlen (by omega) rfl ⟨hR, hx3, hxn⟩
    · intro i s rest a hi hd hil hJ
      obtain ⟨x1, n1⟩ := a
      obtain ⟨hJ, hx1, hxl⟩ := hJ
      dsimp only at hJ hx1 hxl
      rw [smsN] at hxl
      have hid1 := flB_len h x1
      obtain ⟨rw1, rw2⟩ := fixP1_row lv s ar x1 n1 hx1
      have hlt := lt_sms hil
      have hrow := smsC_get _ _ _ hi
      have hmem := smsK_mem l i _ hi
      have hbm := smsB_mem l i _ hb hi
      have hrm := rdSs_mem hr hi
      obtain ⟨op, nn, a, t, e⟩ := s
      rw [smK] at hmem
      rw [smB] at hbm
      rw [rdS1] at hrm
      obtain ⟨⟨ha1, ha2⟩, ⟨ht1, ht2⟩, he1, he2⟩ := hbm
      obtain ⟨r1, r2, r3, r4⟩ := hrm
      have hla := exsK_len a
      rw [fixPL] at hJ
      rw [smN] at hxl rw2
      generalize hP : fixP1 tellL lv (.mk op nn a t e) ar x1 n1 = P at hJ rw1 rw2
      have hJn : fixPL tellL lv rest ar P.1 P.2 = R ∧ Row3 P.1 ∧ P.1.length + smsN rest ≤ 90000 := ⟨hJ, rw1, by omega⟩
      clear hJ rw1 rw2
      rw [fixP1] at hP
      have hgid := flB_get x1 (.cells 3 [.int .i64 (IntKind.i64.wrap (n1 + 1))]) hid
      have hl0 : 0 + lv.length * 1 = (ic lv).length := by rw [ic_len]; omega
      have hpv : nn.toNat < lv.length → (ic lv)[0 + nn.toNat * 1]? = some (.int .i64 (lv.getD nn.toNat 0)) := fun hz => by
        rw [show 0 + nn.toNat * 1 = nn.toNat by omega]
        refine ic_get ?_
        rw [List.getD_eq_getElem?_getD, List.getElem?_eq_getElem hz]; rfl
      have hA := ofAllV_run hgid a (k - 2) (by omega) ha1 ha2 r1 lo
      rw [show k - 2 + 2 = k by omega] at hA
      have yT : ∀ f t : Int, call Try.prog cfg k lo (.func 89) [.int .i64 n1, .int .i64 f, .int .i64 t, .hp h.length 1 0] ((flB h x1).set (h.length + 1) (.cells 3 [.int .i64 (IntKind.i64.wrap (n1 + 1))])) = some (.tup [], (flB h (tellL x1 n1 f t)).set (h.length + 1) (.cells 3 [.int .i64 (IntKind.i64.wrap (n1 + 1))])) := fun f t => by
        have := tell_run h x1 (fun r hr => (hx1 r hr).1) (by omega) n1 f t (IntKind.i64.wrap (n1 + 1)) (k - 2) lo hlo'
        rw [show k - 2 + 2 = k by omega] at this
        rw [flB_set, flB_set]
        exact this
      have y0 := yT (orI ar (ofEs lv 0 a)) (lv.getD nn.toNat 0)
      have y4 := yT (orI (orI ar (ofEs lv 0 a)) 16) (lv.getD nn.toNat 0)
      have y3 := yT (orI ar (ofEs lv 0 a)) nn
      by_cases o0 : op = 0
      · have hx := r2 (.inl o0)
        have hj : 0 ≤ nn ∧ nn.toNat < lv.length := ⟨hx.1, by omega⟩
        have hp1 := hpv hj.2
        simp only [if_pos o0] at hP
        have c0 : (op == 0) = true := by simp [o0]
        (repeat' (first | apply W_seq | refine W_true rfl rfl ?_ | refine W_false rfl rfl ?_ | (refine W_ops (id := 1) rfl ?_ <;> (refine T_go rfl ?_; refine G_true rfl (by with_reducible assumption) ?_) <;> apply T_nil) | (refine W_ops (id := 2) rfl ?_ <;> (refine T_go rfl ?_; refine G_op (O_index rfl rfl rfl rfl rfl (by assumption)) ?_) <;> (refine T_go rfl ?_; refine G_op rfl ?_) <;> refine T_ch 2 rfl ?_ <;> apply T_nil) | (refine W_ops (id := 3) rfl ?_ <;> refine T_ch 2 rfl ?_ <;> (refine T_go rfl ?_; refine G_op (O_loadS rfl rfl rfl rfl (by assumption) rfl rfl) ?_) <;> refine T_ch 1 rfl ?_ <;> apply T_nil) | (refine W_ops (id := 4) rfl ?_ <;> refine T_ch 2 rfl ?_ <;> (refine T_go rfl ?_; refine G_op (O_loadS rfl rfl rfl rfl (by assumption) rfl rfl) ?_) <;> refine T_ch 2 rfl ?_ <;> (refine T_go rfl ?_; refine G_op (O_storeS rfl rfl rfl rfl rfl (by assumption) (by assumption) ⟨rfl, rfl, Nat.le_of_ble_eq_true rfl⟩ rfl) ?_) <;> apply T_nil) | (refine W_ops (id := 5) rfl ?_ <;> refine T_ch 4 rfl ?_ <;> (refine T_go rfl ?_; refine G_op (O_call rfl rfl rfl rfl (by assumption)) ?_) <;> refine T_ch 2 rfl ?_ <;> apply T_nil) | refine W_region (id := 6) rfl rfl ?_ | (refine W_ops (id := 7) rfl ?_ <;> (refine T_go rfl ?_; refine G_true rfl (by with_reducible assumption) ?_) <;> refine T_ch 1 rfl ?_ <;> apply T_nil) | (refine W_ops (id := 8) rfl ?_ <;> refine T_ch 6 rfl ?_ <;> (refine T_go rfl ?_; refine G_op (O_indexHI rfl rfl rfl rfl rfl (by assumption) (by assumption) (by assumption)) ?_) <;> (refine T_go rfl ?_; refine G_op (O_loadH rfl rfl rfl (by assumption) rfl (by assumption)) ?_) <;> (refine T_go rfl ?_; refine G_op (O_call rfl rfl rfl rfl (by assumption)) ?_) <;> apply T_nil) | refine W_region (id := 17) rfl rfl ?_ | apply W_skip | apply W_block | apply W_ret | apply W_exit | refine W_true rfl (by assumption) ?_ | refine W_false rfl (by assumption) ?_ | refine W_cond rfl (fun _ => ?_) (fun _ => ?_)))
        subst hP; exact ⟨(_, _), rfl, hJn⟩
      by_cases o4 : op = 4
      · have hx := r2 (.inr o4)
        have hj : 0 ≤ nn ∧ nn.toNat < lv.length := ⟨hx.1, by omega⟩
        have hp1 := hpv hj.2
        simp only [if_neg o0, if_pos o4] at hP
        have c0 : (op == 0) = false := by simp [o0]
        have c4 : (op == 4) = true := by simp [o4]
        (repeat' (first | apply W_seq | refine W_true rfl rfl ?_ | refine W_false rfl rfl ?_ | (refine W_ops (id := 1) rfl ?_ <;> (refine T_go rfl ?_; refine G_true rfl (by with_reducible assumption) ?_) <;> apply T_nil) | (refine W_ops (id := 2) rfl ?_ <;> (refine T_go rfl ?_; refine G_op (O_index rfl rfl rfl rfl rfl (by assumption)) ?_) <;> (refine T_go rfl ?_; refine G_op rfl ?_) <;> refine T_ch 2 rfl ?_ <;> apply T_nil) | (refine W_ops (id := 3) rfl ?_ <;> refine T_ch 2 rfl ?_ <;> (refine T_go rfl ?_; refine G_op (O_loadS rfl rfl rfl rfl (by assumption) rfl rfl) ?_) <;> refine T_ch 1 rfl ?_ <;> apply T_nil) | (refine W_ops (id := 4) rfl ?_ <;> refine T_ch 2 rfl ?_ <;> (refine T_go rfl ?_; refine G_op (O_loadS rfl rfl rfl rfl (by assumption) rfl rfl) ?_) <;> refine T_ch 2 rfl ?_ <;> (refine T_go rfl ?_; refine G_op (O_storeS rfl rfl rfl rfl rfl (by assumption) (by assumption) ⟨rfl, rfl, Nat.le_of_ble_eq_true rfl⟩ rfl) ?_) <;> apply T_nil) | (refine W_ops (id := 5) rfl ?_ <;> refine T_ch 4 rfl ?_ <;> (refine T_go rfl ?_; refine G_op (O_call rfl rfl rfl rfl (by assumption)) ?_) <;> refine T_ch 2 rfl ?_ <;> apply T_nil) | refine W_region (id := 6) rfl rfl ?_ | (refine W_ops (id := 7) rfl ?_ <;> (refine T_go rfl ?_; refine G_false rfl (by with_reducible assumption) ?_) <;> refine T_ch 1 rfl ?_ <;> apply T_nil) | (refine W_ops (id := 9) rfl ?_ <;> (refine T_go rfl ?_; refine G_true rfl (by with_reducible assumption) ?_) <;> refine T_ch 1 rfl ?_ <;> apply T_nil) | (refine W_ops (id := 10) rfl ?_ <;> refine T_ch 7 rfl ?_ <;> (refine T_go rfl ?_; refine G_op (O_indexHI rfl rfl rfl rfl rfl (by assumption) (by assumption) (by assumption)) ?_) <;> (refine T_go rfl ?_; refine G_op (O_loadH rfl rfl rfl (by assumption) rfl (by assumption)) ?_) <;> (refine T_go rfl ?_; refine G_op (O_call rfl rfl rfl rfl (by assumption)) ?_) <;> apply T_nil) | refine W_region (id := 17) rfl rfl ?_ | apply W_skip | apply W_block | apply W_ret | apply W_exit | refine W_true rfl (by assumption) ?_ | refine W_false rfl (by assumption) ?_ | refine W_cond rfl (fun _ => ?_) (fun _ => ?_)))
        subst hP; exact ⟨(_, _), rfl, hJn⟩
      by_cases o3 : op = 3
      · simp only [if_neg o0, if_neg o4, if_pos o3] at hP
        have c0 : (op == 0) = false := by simp [o0]
        have c4 : (op == 4) = false := by simp [o4]
        have c3 : (op == 3) = true := by simp [o3]
        (repeat' (first | apply W_seq | refine W_true rfl rfl ?_ | refine W_false rfl rfl ?_ | (refine W_ops (id := 1) rfl ?_ <;> (refine T_go rfl ?_; refine G_true rfl (by with_reducible assumption) ?_) <;> apply T_nil) | (refine W_ops (id := 2) rfl ?_ <;> (refine T_go rfl ?_; refine G_op (O_index rfl rfl rfl rfl rfl (by assumption)) ?_) <;> (refine T_go rfl ?_; refine G_op rfl ?_) <;> refine T_ch 2 rfl ?_ <;> apply T_nil) | (refine W_ops (id := 3) rfl ?_ <;> refine T_ch 2 rfl ?_ <;> (refine T_go rfl ?_; refine G_op (O_loadS rfl rfl rfl rfl (by assumption) rfl rfl) ?_) <;> refine T_ch 1 rfl ?_ <;> apply T_nil) | (refine W_ops (id := 4) rfl ?_ <;> refine T_ch 2 rfl ?_ <;> (refine T_go rfl ?_; refine G_op (O_loadS rfl rfl rfl rfl (by assumption) rfl rfl) ?_) <;> refine T_ch 2 rfl ?_ <;> (refine T_go rfl ?_; refine G_op (O_storeS rfl rfl rfl rfl rfl (by assumption) (by assumption) ⟨rfl, rfl, Nat.le_of_ble_eq_true rfl⟩ rfl) ?_) <;> apply T_nil) | (refine W_ops (id := 5) rfl ?_ <;> refine T_ch 4 rfl ?_ <;> (refine T_go rfl ?_; refine G_op (O_call rfl rfl rfl rfl (by assumption)) ?_) <;> refine T_ch 2 rfl ?_ <;> apply T_nil) | refine W_region (id := 6) rfl rfl ?_ | (refine W_ops (id := 7) rfl ?_ <;> (refine T_go rfl ?_; refine G_false rfl (by with_reducible assumption) ?_) <;> refine T_ch 1 rfl ?_ <;> apply T_nil) | (refine W_ops (id := 9) rfl ?_ <;> (refine T_go rfl ?_; refine G_false rfl (by with_reducible assumption) ?_) <;> refine T_ch 1 rfl ?_ <;> apply T_nil) | (refine W_ops (id := 11) rfl ?_ <;> (refine T_go rfl ?_; refine G_true rfl (by with_reducible assumption) ?_) <;> refine T_ch 1 rfl ?_ <;> apply T_nil) | (refine W_ops (id := 12) rfl ?_ <;> refine T_ch 5 rfl ?_ <;> (refine T_go rfl ?_; refine G_op (O_call rfl rfl rfl rfl (by assumption)) ?_) <;> apply T_nil) | refine W_region (id := 17) rfl rfl ?_ | apply W_skip | apply W_block | apply W_ret | apply W_exit | refine W_true rfl (by assumption) ?_ | refine W_false rfl (by assumption) ?_ | refine W_cond rfl (fun _ => ?_) (fun _ => ?_)))
        subst hP; exact ⟨(_, _), rfl, hJn⟩
      have c0 : (op == 0) = false := by simp [o0]
      have c4 : (op == 4) = false := by simp [o4]
      have c3 : (op == 3) = false := by simp [o3]
      by_cases o1 : op = 1 ∨ op = 2
      · simp only [if_neg o0, if_neg o4, if_neg o3, if_pos o1] at hP
        have iht := fixedV_run lv h id hid lo hlo' k t (by omega) ht1 ht2 r3 (orI ar (ofEs lv 0 a)) x1 (IntKind.i64.wrap (n1 + 1)) hx1 (by omega)
        obtain ⟨tr1, tr2⟩ := fixPL_row lv t (orI ar (ofEs lv 0 a)) x1 (IntKind.i64.wrap (n1 + 1)) hx1
        generalize fixPL tellL lv t (orI ar (ofEs lv 0 a)) x1 (IntKind.i64.wrap (n1 + 1)) = T at iht hP tr1 tr2
        have ihe := fixedV_run lv h id hid lo hlo' k e (by omega) he1 he2 r4 (orI ar (ofEs lv 0 a)) T.1 T.2 tr1 (by omega)
        generalize fixPL tellL lv e (orI ar (ofEs lv 0 a)) T.1 T.2 = E at ihe hP
        rcases o1 with o1 | o1
        · have c1 : (op == 1) = true := by simp [o1]
          (repeat' (first | apply W_seq | refine W_true rfl rfl ?_ | refine W_false rfl rfl ?_ | (refine W_ops (id := 1) rfl ?_ <;> (refine T_go rfl ?_; refine G_true rfl (by with_reducible assumption) ?_) <;> apply T_nil) | (refine W_ops (id := 2) rfl ?_ <;> (refine T_go rfl ?_; refine G_op (O_index rfl rfl rfl rfl rfl (by assumption)) ?_) <;> (refine T_go rfl ?_; refine G_op rfl ?_) <;> refine T_ch 2 rfl ?_ <;> apply T_nil) | (refine W_ops (id := 3) rfl ?_ <;> refine T_ch 2 rfl ?_ <;> (refine T_go rfl ?_; refine G_op (O_loadS rfl rfl rfl rfl (by assumption) rfl rfl) ?_) <;> refine T_ch 1 rfl ?_ <;> apply T_nil) | (refine W_ops (id := 4) rfl ?_ <;> refine T_ch 2 rfl ?_ <;> (refine T_go rfl ?_; refine G_op (O_loadS rfl rfl rfl rfl (by assumption) rfl rfl) ?_) <;> refine T_ch 2 rfl ?_ <;> (refine T_go rfl ?_; refine G_op (O_storeS rfl rfl rfl rfl rfl (by assumption) (by assumption) ⟨rfl, rfl, Nat.le_of_ble_eq_true rfl⟩ rfl) ?_) <;> apply T_nil) | (refine W_ops (id := 5) rfl ?_ <;> refine T_ch 4 rfl ?_ <;> (refine T_go rfl ?_; refine G_op (O_call rfl rfl rfl rfl (by assumption)) ?_) <;> refine T_ch 2 rfl ?_ <;> apply T_nil) | refine W_region (id := 6) rfl rfl ?_ | (refine W_ops (id := 7) rfl ?_ <;> (refine T_go rfl ?_; refine G_false rfl (by with_reducible assumption) ?_) <;> refine T_ch 1 rfl ?_ <;> apply T_nil) | (refine W_ops (id := 9) rfl ?_ <;> (refine T_go rfl ?_; refine G_false rfl (by with_reducible assumption) ?_) <;> refine T_ch 1 rfl ?_ <;> apply T_nil) | (refine W_ops (id := 11) rfl ?_ <;> (refine T_go rfl ?_; refine G_false rfl (by with_reducible assumption) ?_) <;> refine T_ch 1 rfl ?_ <;> apply T_nil) | (refine W_ops (id := 13) rfl ?_ <;> (refine T_go rfl ?_; refine G_true rfl (by with_reducible assumption) ?_) <;> refine T_ch 1 rfl ?_ <;> apply T_nil) | (refine W_ops (id := 15) rfl ?_ <;> refine T_ch 6 rfl ?_ <;> (refine T_go rfl ?_; refine G_op (O_call rfl rfl rfl rfl (by assumption)) ?_) <;> apply T_nil) | (refine W_ops (id := 16) rfl ?_ <;> refine T_ch 6 rfl ?_ <;> (refine T_go rfl ?_; refine G_op (O_call rfl rfl rfl rfl (by assumption)) ?_) <;> apply T_nil) | refine W_region (id := 17) rfl rfl ?_ | apply W_skip | apply W_block | apply W_ret | apply W_exit | refine W_true rfl (by assumption) ?_ | refine W_false rfl (by assumption) ?_ | refine W_cond rfl (fun _ => ?_) (fun _ => ?_)))
          subst hP; exact ⟨(E.1, E.2), rfl, hJn⟩
        · have c1 : (op == 1) = false := by simp [o1]
          have c2 : (op == 2) = true := by simp [o1]
          (repeat' (first | apply W_seq | refine W_true rfl rfl ?_ | refine W_false rfl rfl ?_ | (refine W_ops (id := 1) rfl ?_ <;> (refine T_go rfl ?_; refine G_true rfl (by with_reducible assumption) ?_) <;> apply T_nil) | (refine W_ops (id := 2) rfl ?_ <;> (refine T_go rfl ?_; refine G_op (O_index rfl rfl rfl rfl rfl (by assumption)) ?_) <;> (refine T_go rfl ?_; refine G_op rfl ?_) <;> refine T_ch 2 rfl ?_ <;> apply T_nil) | (refine W_ops (id := 3) rfl ?_ <;> refine T_ch 2 rfl ?_ <;> (refine T_go rfl ?_; refine G_op (O_loadS rfl rfl rfl rfl (by assumption) rfl rfl) ?_) <;> refine T_ch 1 rfl ?_ <;> apply T_nil) | (refine W_ops (id := 4) rfl ?_ <;> refine T_ch 2 rfl ?_ <;> (refine T_go rfl ?_; refine G_op (O_loadS rfl rfl rfl rfl (by assumption) rfl rfl) ?_) <;> refine T_ch 2 rfl ?_ <;> (refine T_go rfl ?_; refine G_op (O_storeS rfl rfl rfl rfl rfl (by assumption) (by assumption) ⟨rfl, rfl, Nat.le_of_ble_eq_true rfl⟩ rfl) ?_) <;> apply T_nil) | (refine W_ops (id := 5) rfl ?_ <;> refine T_ch 4 rfl ?_ <;> (refine T_go rfl ?_; refine G_op (O_call rfl rfl rfl rfl (by assumption)) ?_) <;> refine T_ch 2 rfl ?_ <;> apply T_nil) | refine W_region (id := 6) rfl rfl ?_ | (refine W_ops (id := 7) rfl ?_ <;> (refine T_go rfl ?_; refine G_false rfl (by with_reducible assumption) ?_) <;> refine T_ch 1 rfl ?_ <;> apply T_nil) | (refine W_ops (id := 9) rfl ?_ <;> (refine T_go rfl ?_; refine G_false rfl (by with_reducible assumption) ?_) <;> refine T_ch 1 rfl ?_ <;> apply T_nil) | (refine W_ops (id := 11) rfl ?_ <;> (refine T_go rfl ?_; refine G_false rfl (by with_reducible assumption) ?_) <;> refine T_ch 1 rfl ?_ <;> apply T_nil) | (refine W_ops (id := 13) rfl ?_ <;> (refine T_go rfl ?_; refine G_false rfl (by with_reducible assumption) ?_) <;> refine T_ch 1 rfl ?_ <;> apply T_nil) | (refine W_ops (id := 14) rfl ?_ <;> (refine T_go rfl ?_; refine G_true rfl (by with_reducible assumption) ?_) <;> refine T_ch 1 rfl ?_ <;> apply T_nil) | (refine W_ops (id := 15) rfl ?_ <;> refine T_ch 6 rfl ?_ <;> (refine T_go rfl ?_; refine G_op (O_call rfl rfl rfl rfl (by assumption)) ?_) <;> apply T_nil) | (refine W_ops (id := 16) rfl ?_ <;> refine T_ch 6 rfl ?_ <;> (refine T_go rfl ?_; refine G_op (O_call rfl rfl rfl rfl (by assumption)) ?_) <;> apply T_nil) | refine W_region (id := 17) rfl rfl ?_ | apply W_skip | apply W_block | apply W_ret | apply W_exit | refine W_true rfl (by assumption) ?_ | refine W_false rfl (by assumption) ?_ | refine W_cond rfl (fun _ => ?_) (fun _ => ?_)))
          subst hP; exact ⟨(E.1, E.2), rfl, hJn⟩
      · simp only [if_neg o0, if_neg o4, if_neg o3, if_neg o1] at hP
        have c1 : (op == 1) = false := by simp; exact fun h => o1 (.inl h)
        have c2 : (op == 2) = false := by simp; exact fun h => o1 (.inr h)
        (repeat' (first | apply W_seq | refine W_true rfl rfl ?_ | refine W_false rfl rfl ?_ | (refine W_ops (id := 1) rfl ?_ <;> (refine T_go rfl ?_; refine G_true rfl (by with_reducible assumption) ?_) <;> apply T_nil) | (refine W_ops (id := 2) rfl ?_ <;> (refine T_go rfl ?_; refine G_op (O_index rfl rfl rfl rfl rfl (by assumption)) ?_) <;> (refine T_go rfl ?_; refine G_op rfl ?_) <;> refine T_ch 2 rfl ?_ <;> apply T_nil) | (refine W_ops (id := 3) rfl ?_ <;> refine T_ch 2 rfl ?_ <;> (refine T_go rfl ?_; refine G_op (O_loadS rfl rfl rfl rfl (by assumption) rfl rfl) ?_) <;> refine T_ch 1 rfl ?_ <;> apply T_nil) | (refine W_ops (id := 4) rfl ?_ <;> refine T_ch 2 rfl ?_ <;> (refine T_go rfl ?_; refine G_op (O_loadS rfl rfl rfl rfl (by assumption) rfl rfl) ?_) <;> refine T_ch 2 rfl ?_ <;> (refine T_go rfl ?_; refine G_op (O_storeS rfl rfl rfl rfl rfl (by assumption) (by assumption) ⟨rfl, rfl, Nat.le_of_ble_eq_true rfl⟩ rfl) ?_) <;> apply T_nil) | (refine W_ops (id := 5) rfl ?_ <;> refine T_ch 4 rfl ?_ <;> (refine T_go rfl ?_; refine G_op (O_call rfl rfl rfl rfl (by assumption)) ?_) <;> refine T_ch 2 rfl ?_ <;> apply T_nil) | refine W_region (id := 6) rfl rfl ?_ | (refine W_ops (id := 7) rfl ?_ <;> (refine T_go rfl ?_; refine G_false rfl (by with_reducible assumption) ?_) <;> refine T_ch 1 rfl ?_ <;> apply T_nil) | (refine W_ops (id := 9) rfl ?_ <;> (refine T_go rfl ?_; refine G_false rfl (by with_reducible assumption) ?_) <;> refine T_ch 1 rfl ?_ <;> apply T_nil) | (refine W_ops (id := 11) rfl ?_ <;> (refine T_go rfl ?_; refine G_false rfl (by with_reducible assumption) ?_) <;> refine T_ch 1 rfl ?_ <;> apply T_nil) | (refine W_ops (id := 13) rfl ?_ <;> (refine T_go rfl ?_; refine G_false rfl (by with_reducible assumption) ?_) <;> refine T_ch 1 rfl ?_ <;> apply T_nil) | (refine W_ops (id := 14) rfl ?_ <;> (refine T_go rfl ?_; refine G_false rfl (by with_reducible assumption) ?_) <;> refine T_ch 1 rfl ?_ <;> apply T_nil) | refine W_region (id := 17) rfl rfl ?_ | apply W_skip | apply W_block | apply W_ret | apply W_exit | refine W_true rfl (by assumption) ?_ | refine W_false rfl (by assumption) ?_ | refine W_cond rfl (fun _ => ?_) (fun _ => ?_)))
        subst hP; exact ⟨(x1, IntKind.i64.wrap (n1 + 1)), rfl, hJn⟩
    · intro a hJ
      have hlt := ge_sms (l := l)
      have hJ := hJ.1
      rw [fixPL] at hJ
      (repeat' (first | apply W_seq | refine W_true rfl rfl ?_ | refine W_false rfl rfl ?_ | (refine W_ops (id := 1) rfl ?_ <;> (refine T_go rfl ?_; refine G_false rfl (by with_reducible assumption) ?_) <;> apply T_nil) | apply W_skip | apply W_block | apply W_ret | apply W_exit | refine W_true rfl (by assumption) ?_ | refine W_false rfl (by assumption) ?_ | refine W_cond rfl (fun _ => ?_) (fun _ => ?_)))
      exact ⟨.inr rfl, Eq.trans (b := some (AV.tup [], (flB h a.1).set (h.length + 1) (.cells 3 [.int .i64 a.2]))) rfl (by rw [← hJ])⟩
theorem flowsV_run (lv : List Int) (h : Heap) (id : Nat) (hid : h[id]? = some (.cells 3 (ic lv))) (p : Pr') (k : Nat) (hk : smsK p.body + 30 ≤ k) (hN : smsN p.body ≤ 600) (hb : prB p) (hr : rdSs lv.length p.body) (lo : Nat) :
    call Try.prog cfg (k + 1) lo (.func 54) [.agg (prC p), .sl id 1 0 lv.length] h = some (accV 3 (flP lv p), h) := by
  have hF := fixedV_run lv h id hid h.length (Nat.le_refl _) k p.body (by omega) hb.2.1 hb.2.2 hr 0 [] 0 (fun r hr => by cases hr) (by simp; omega)
  obtain ⟨g1, _⟩ := fixPL_row lv p.body 0 [] 0 (fun r hr => by cases hr)
  have hP : flP lv p = (fixPL tellL lv p.body 0 [] 0).1 := rfl
  generalize fixPL tellL lv p.body 0 [] 0 = R at hF g1 hP
  rw [hP]
  have hfin := flX_frz h R.1 R.2 g1
  have hlo : h.length ≤ (h ++ [HObj.cells 41 [.nils]]).length := by simp
  have hg : (h ++ [HObj.cells 41 [.nils]] ++ [HObj.cells 3 [.int .i64 0]])[(h ++ [HObj.cells 41 [.nils]]).length]? = some (.cells 3 [.int .i64 0]) := by simp
  have e1 : (flB h []).set (h.length + 1) (.cells 3 [.int .i64 0]) = (h ++ [HObj.cells 41 [.nils]] ++ [HObj.cells 3 [.int .i64 0]]).set (h ++ [HObj.cells 41 [.nils]]).length (.cells 3 [.int .i64 0]) := by simp [flB, List.set_append]
  have e2 : h.length + 1 = (h ++ [HObj.cells 41 [.nils]]).length := by simp
  rw [flB_set h R.1, e1, e2] at hF
  have hg2 : (flX h R.1 R.2)[h.length]? = some (.cells 41 [outA h R.1]) := by
    cases R.1 <;> simp [flX, outA]
  obtain ⟨w, vs, body⟩ := p
  dsimp only at hF
  apply W_call Try.func54 rfl (Nat.le_of_ble_eq_true rfl) rfl rfl
  (repeat' (first | apply W_seq | refine W_true rfl rfl ?_ | refine W_false rfl rfl ?_ | refine W_region (id := 0) rfl rfl ?_ | refine W_region (id := 1) rfl rfl ?_ | (refine W_ops (id := 2) rfl ?_ <;> refine T_ch 1 rfl ?_ <;> (refine T_go rfl ?_; refine G_op (O_storeH rfl rfl rfl rfl (by assumption) ⟨by assumption, rfl, rfl, Nat.le_of_ble_eq_true rfl⟩) ?_) <;> apply T_nil) | (refine W_ops (id := 3) rfl ?_ <;> refine T_ch 4 rfl ?_ <;> (refine T_go rfl ?_; refine G_op (O_call rfl rfl rfl rfl (by assumption)) ?_) <;> apply T_nil) | (refine W_ops (id := 4) rfl ?_ <;> (refine T_go rfl ?_; refine G_op (O_loadH rfl rfl rfl (by assumption) rfl rfl) ?_) <;> refine T_ch 1 rfl ?_ <;> apply T_nil) | apply W_skip | apply W_block | apply W_ret | apply W_exit | refine W_true rfl (by assumption) ?_ | refine W_false rfl (by assumption) ?_ | refine W_cond rfl (fun _ => ?_) (fun _ => ?_)))
  exact ⟨.inl rfl, hfin⟩
end Go.Proofs.Ytelobnllkhnpaaa.L
/- Infer in the program. -/
open Go Go.Proofs Go.Ev Go.Proofs.Ytelobnllkhnpaaa.E
namespace Go.Proofs.Ytelobnllkhnpaaa.L
set_option linter.unusedVariables false
set_option linter.unusedSimpArgs false
set_option maxHeartbeats 2000000
set_option maxRecDepth 100000

def lvSI (h : Heap) (lo : Nat) (vs : List Vr') (i : Int) (l : List Int) : St :=
  { env := [(3, .v (accA h 1 (intsC l))), (7, .v (.vs 3 (vsC vs))), (8, .v (.int .i64 (vsC vs).length)), (9, .v (.int .i64 i))], loc := [], heap := accH h 3 (intsC l), inRound := false, lo := lo }
theorem levelsPI_run (K : Nat) (p : Pr') (k : Nat) (hk : p.vars.length < k) (hv : p.vars.length < 1000) (h : Heap) (lo : Nat) (hlo : lo ≤ h.length) : call Try.prog (cfgI K) (k + 1) lo (.func 48) [.agg (prC p)] h = some (accA h 1 (intsC (levs p)), accH h 3 (intsC (levs p))) := by
  obtain ⟨w, vs, body⟩ := p
  dsimp only at hk hv
  apply W_call Try.func48 rfl (Nat.le_of_ble_eq_true rfl) rfl rfl
  (repeat' (first | apply W_seq | refine W_true rfl rfl ?_ | refine W_false rfl rfl ?_ | refine W_region (id := 0) rfl rfl ?_ | refine W_region (id := 1) rfl rfl ?_ | refine W_region (id := 2) rfl rfl ?_ | apply W_skip | apply W_block | apply W_ret | apply W_exit | refine W_true rfl (by assumption) ?_ | refine W_false rfl (by assumption) ?_ | refine W_cond rfl (fun _ => ?_) (fun _ => ?_)))
  apply W_iterI (S := lvSI h lo vs) (l := vs) (a0 := []) (fun i rest a => a ++ rest.map (·.level) = levs ⟨w, vs, body⟩ ∧ a.length = i) (by omega) (by omega) rfl ⟨rfl, rfl⟩
  · intro i v rest a hi hd hil hJ
    have hrow := vsC_get hi
    have hlt := lt_vsC hil
    have hap := int_appendL h lo hlo a v.level (by omega)
    obtain ⟨nm, level, cells⟩ := v
    dsimp only at hap
    (repeat' (first | apply W_seq | refine W_true rfl rfl ?_ | refine W_false rfl rfl ?_ | (refine W_ops (id := 3) rfl ?_ <;> (refine T_go rfl ?_; refine G_true rfl (by with_reducible assumption) ?_) <;> apply T_nil) | (refine W_ops (id := 4) rfl ?_ <;> (refine T_go rfl ?_; refine G_op (O_index rfl rfl rfl rfl rfl (by assumption)) ?_) <;> (refine T_go rfl ?_; refine G_op rfl ?_) <;> refine T_ch 2 rfl ?_ <;> apply T_nil) | (refine W_ops (id := 5) rfl ?_ <;> refine T_ch 4 rfl ?_ <;> (refine T_go rfl ?_; refine G_op (O_append rfl rfl rfl rfl rfl (by assumption)) ?_) <;> refine T_ch 1 rfl ?_ <;> apply T_nil) | refine W_region (id := 6) rfl rfl ?_ | apply W_skip | apply W_block | apply W_ret | apply W_exit | refine W_true rfl (by assumption) ?_ | refine W_false rfl (by assumption) ?_ | refine W_cond rfl (fun _ => ?_) (fun _ => ?_)))
    exact ⟨a ++ [level], rfl, by rw [← hJ.1]; simp, by simp [hJ.2]⟩
  · intro a hJ
    have hlt := ge_vsC (l := vs)
    have : a = levs ⟨w, vs, body⟩ := by simpa using hJ.1
    subst this
    (repeat' (first | apply W_seq | refine W_true rfl rfl ?_ | refine W_false rfl rfl ?_ | (refine W_ops (id := 3) rfl ?_ <;> (refine T_go rfl ?_; refine G_false rfl (by with_reducible assumption) ?_) <;> apply T_nil) | refine W_region (id := 7) rfl rfl ?_ | apply W_skip | apply W_block | apply W_ret | apply W_exit | refine W_true rfl (by assumption) ?_ | refine W_false rfl (by assumption) ?_ | refine W_cond rfl (fun _ => ?_) (fun _ => ?_)))
    exact ⟨.inl rfl, rfl⟩
theorem hand_lbi {h H : Heap} {a a' : AV} {b : Bool} {n : Int} (h1 : frz1 H h.length a = some a') (n1 : ∀ xs, a ≠ .agg xs) : hand true h (.tup [a, .bool b, .int .i64 n]) H = some (.tup [a', .bool b, .int .i64 n], h) := by
  have q1 : frz2 H h.length a = some a' := by
    unfold frz2
    split
    · exact absurd rfl (n1 _)
    · exact h1
  have q2 : frz2 H h.length (.bool b) = some (.bool b) := rfl
  have q3 : frz2 H h.length (.int .i64 n) = some (.int .i64 n) := rfl
  unfold hand
  rw [if_pos rfl]
  simp only [frz, frzM, q1, q2, q3]
def inpS (h : Heap) (p : Pr') (st : List Bool) (m : Nat) (i : Int) (H : Heap) : St :=
  { env := [(1, .v (.vs 1 (boolsC st))), (2, .p 2 0), (8, .v (.sl h.length 1 0 m)), (30, .v (.int .i64 m)), (31, .v (.int .i64 i))], loc := [(2, prC p)], heap := H, inRound := false, lo := h.length }
def inoS (h : Heap) (p : Pr') (st : List Bool) (m q : Nat) (a : List Int × Heap) : St :=
  { env := [(1, .v (.vs 1 (boolsC st))), (2, .p 2 0), (8, .v (.sl h.length 1 0 m)), (10, .v (.mp q))], loc := [(2, prC p)], heap := a.2, inRound := false, lo := h.length }
def iniS (h : Heap) (p : Pr') (st : List Bool) (m q : Nat) (rows : List (List AV)) (i : Int) (a : List Int × Heap) : St :=
  { env := [(1, .v (.vs 1 (boolsC st))), (2, .p 2 0), (8, .v (.sl h.length 1 0 m)), (10, .v (.mp q)), (52, .v (.vs 3 rows)), (53, .v (.int .i64 rows.length)), (54, .v (.int .i64 i))], loc := [(2, prC p)], heap := a.2, inRound := false, lo := h.length }
/-- The heap of Infer: the levels, the map. -/
abbrev HF (h : Heap) (x : List Int) (M : HObj) (tail : Heap) : Heap := h ++ [.cells 3 (ic x)] ++ [M] ++ tail
set_option maxHeartbeats 4000000 in
theorem inferP_run (p : Pr') (st : List Bool) (hP : isP p = true) (hS : singleR p = true) (hst : st.length = p.vars.length) (k : Nat) (hk : smsK p.body + p.vars.length + 1500 ≤ k) (K : Nat) (hK : smsK p.body + 2000 ≤ K) (hKM : K ≤ 80000) (hN : smsN p.body ≤ 600) (hb : prB p) (h : Heap) (lo : Nat) :
    call Try.prog (cfgI K) (k + 1) lo (.func 31) [.agg (prC p), .vs 1 (boolsC st)] h = some (.tup [(infV p st).1, .bool (infV p st).2, .int .i64 0], h) := by
  obtain ⟨_, hv1, hv2⟩ := isP_head hP
  obtain ⟨K, rfl⟩ : ∃ K', K = K' + 1 := ⟨K - 1, by omega⟩
  have hrows := isP_rows hP
  have hvm := rows_vm _ hrows
  have hB := levs_B hP hS
  have hLf := lfp_ok (st := st) hP hS
  have hon := onway0 hP hS hLf
  have hf : faultI p = 0 := by unfold faultI; rw [hP, hS]; rfl
  have hok : okP p = true := by rw [okP_eq p hN]; exact hP
  have hC := viaI (k := k) rfl (levcheck_run p K (by omega) hb h h.length) (by omega)
  rw [chk_eq p hN, hf] at hC
  have hL := levelsPI_run (K + 1) p (k - 1) (by omega) (by omega) h h.length (Nat.le_refl _)
  have hll := levs_len p
  have hne : levs p ≠ [] := fun e => by rw [e] at hll; simp at hll; omega
  rw [show k - 1 + 1 = k by omega, intsC_accA hne, intsC_accH hne, hll] at hL
  have hV : infV p st = if fixRL (lfpR p st) p.body 0 0 = [] then (.vs 1 (intsC (lfpR p st)), true) else (.nils, false) := rfl
  generalize infV p st = V at hV ⊢
  generalize lfpR p st = F at *
  have hne0 : (((boolsC st).length : Int) != ((vsC p.vars).length : Int)) = false := by rw [boolsC_len, vsC_len, hst]; simp
  have hvl : ((vsC p.vars).length : Int) = p.vars.length := by rw [vsC_len]
  obtain ⟨tl, hT⟩ := targets_run p hb hok (by omega) K (by omega) (by omega) (h ++ [.cells 3 (ic (zeroL st (levs p)))]) h.length (by simp)
  have hT := viaI (k := k) rfl hT (by omega)
  have hq : (h ++ [HObj.cells 3 (ic (zeroL st (levs p)))]).length = h.length + 1 := by simp
  rw [hq] at hT
  have hfx : ∀ x : List Int, x.length = p.vars.length → call Try.prog (cfgI (K + 1)) k h.length (.func 54) [.agg (prC p), .sl h.length 1 0 p.vars.length] (HF h x (.map (mapC (tgt p))) tl) = some (accV 3 (fixRL x p.body 0 0), HF h x (.map (mapC (tgt p))) tl) := fun x hx => by
    have := viaI (k := k) rfl (flowsV_run x (HF h x (.map (mapC (tgt p))) tl) h.length (by simp) p K (by omega) hN hb (by rw [hx]; exact vmL_rd hvm) h.length) (by omega)
    rw [hx] at this
    have e : flP x p = fixRL x p.body 0 0 := by unfold flP; rw [fixPL_eq x p.body 0 [] 0 hrows (by omega) (by omega)]; rfl
    rw [e] at this
    exact this
  have hrn : ∀ x : List Int, (fixRL x p.body 0 0).length ≤ 600 := fun x => Nat.le_trans (fixRL_len x p.body 0 0) hN
  have hway := fun (x : List Int) (W : OnWay p st F x) (r : List AV) (hr : r ∈ fixRL x p.body 0 0) => way_row hP hS hN hLf W hr
  have hdone := fun (x : List Int) (W : OnWay p st F x) => way_done hP hS hLf W
  have hstep := fun (x : List Int) (W : OnWay p st F x) (v f : Int) => way_step (v := v) (f := f) hLf W
  have hzr := roomL_le (leL_F' hLf).B
  rw [zeroL_len, hll] at hzr
  have hzl : (zeroL st (levs p)).length = p.vars.length := by rw [zeroL_len]; exact hll
  generalize hgF : (fun x : List Int => fixRL x p.body 0 0) = fl at *
  have hgF' : ∀ x : List Int, fixRL x p.body 0 0 = fl x := fun x => by rw [← hgF]
  simp only [hgF'] at hfx hrn hway hdone hV
  generalize htg : tgt p = tg at *
  have hOW : ∀ x, OnWay p st F x → x.length = p.vars.length ∧ lvsB x := fun x W => ⟨W.len, W.B⟩
  generalize hW : OnWay p st F = Wy at *
  generalize hlv : levs p = lv at *
  obtain ⟨w, vs, body⟩ := p
  dsimp only at *
  generalize hm : vs.length = m at *
  apply W_call Try.func31 rfl (Nat.le_of_ble_eq_true rfl) rfl rfl
  (repeat' (first | apply W_seq | refine W_true rfl rfl ?_ | refine W_false rfl rfl ?_ | refine W_region (id := 0) rfl rfl ?_ | (refine W_ops (id := 1) rfl ?_ <;> refine T_ch 1 rfl ?_ <;> (refine T_go rfl ?_; refine G_op (O_call rfl rfl rfl rfl (by assumption)) ?_) <;> refine T_ch 1 rfl ?_ <;> apply T_nil) | (refine W_ops (id := 2) rfl ?_ <;> refine T_ch 1 rfl ?_ <;> (refine T_go rfl ?_; refine G_false rfl rfl ?_) <;> apply T_nil) | (refine W_ops (id := 4) rfl ?_ <;> refine T_ch 5 rfl ?_ <;> (refine T_go rfl ?_; refine G_false rfl (by assumption) ?_) <;> apply T_nil) | (refine W_ops (id := 6) rfl ?_ <;> refine T_ch 1 rfl ?_ <;> (refine T_go rfl ?_; refine G_op (O_call rfl rfl rfl rfl (by assumption)) ?_) <;> refine T_ch 1 rfl ?_ <;> apply T_nil) | refine W_region (id := 7) rfl rfl ?_ | apply W_skip | apply W_block | apply W_ret | apply W_exit | refine W_true rfl (by assumption) ?_ | refine W_false rfl (by assumption) ?_ | refine W_cond rfl (fun _ => ?_) (fun _ => ?_)))
  apply W_iterI (S := inpS h ⟨w, vs, body⟩ st m) (l := lv) (a0 := h ++ [.cells 3 (ic lv)]) (fun i rest H' => ∃ cur, cur = zeroL (st.take i) (lv.take i) ++ lv.drop i ∧ H' = h ++ [.cells 3 (ic cur)]) (by omega) (by omega) rfl ⟨lv, by simp [zeroL], rfl⟩
  · intro i v rest H' hi hd hil hJ
    obtain ⟨cur, hcur, rfl⟩ := hJ
    have hist : i < st.length := by omega
    have hbi : st[i]? = some st[i] := List.getElem?_eq_getElem hist
    have hstep := zero_step hi hbi hcur
    have hlt : decide ((i : Int) < (m : Int)) = true := decide_eq_true (by omega)
    have hrow : (boolsC st)[i]? = some [.bool st[i]] := by unfold boolsC; rw [List.getElem?_map, hbi]; rfl
    have hcl : cur.length = m := by rw [hcur, List.length_append, zeroL_len]; simp; omega
    cases hbv : st[i] with
    | true =>
      rw [hbv] at hrow hstep
      rw [if_pos rfl] at hstep
      (repeat' (first | apply W_seq | refine W_true rfl rfl ?_ | refine W_false rfl rfl ?_ | (refine W_ops (id := 8) rfl ?_ <;> (refine T_go rfl ?_; refine G_true rfl (by with_reducible assumption) ?_) <;> apply T_nil) | refine W_region (id := 9) rfl rfl ?_ | (refine W_ops (id := 10) rfl ?_ <;> refine T_ch 2 rfl ?_ <;> (refine T_go rfl ?_; refine G_op (O_index rfl rfl rfl rfl rfl (by assumption)) ?_) <;> (refine T_go rfl ?_; refine G_true rfl rfl ?_) <;> refine T_ch 1 rfl ?_ <;> apply T_nil) | refine W_region (id := 12) rfl rfl ?_ | apply W_skip | apply W_block | apply W_ret | apply W_exit | refine W_true rfl (by assumption) ?_ | refine W_false rfl (by assumption) ?_ | refine W_cond rfl (fun _ => ?_) (fun _ => ?_)))
      exact ⟨_, rfl, cur, hstep, rfl⟩
    | false =>
      rw [hbv] at hrow hstep
      rw [if_neg (by simp)] at hstep
      have g1 : (h ++ [HObj.cells 3 (ic cur)])[h.length]? = some (.cells 3 (ic cur)) := by simp
      have him : i < m := by omega
      have l1 : 0 + m * 1 = (ic cur).length := by rw [ic_len]; omega
      have hs : h.length ≤ h.length ∧ (ic cur).length = (ic cur).length ∧ 1 = 1 ∧ (0 + i * 1) + 1 ≤ (ic cur).length := ⟨Nat.le_refl _, rfl, rfl, by rw [ic_len]; omega⟩
      (repeat' (first | apply W_seq | refine W_true rfl rfl ?_ | refine W_false rfl rfl ?_ | (refine W_ops (id := 8) rfl ?_ <;> (refine T_go rfl ?_; refine G_true rfl (by with_reducible assumption) ?_) <;> apply T_nil) | refine W_region (id := 9) rfl rfl ?_ | (refine W_ops (id := 10) rfl ?_ <;> refine T_ch 2 rfl ?_ <;> (refine T_go rfl ?_; refine G_op (O_index rfl rfl rfl rfl rfl (by assumption)) ?_) <;> (refine T_go rfl ?_; refine G_false rfl rfl ?_) <;> refine T_ch 1 rfl ?_ <;> apply T_nil) | (refine W_ops (id := 11) rfl ?_ <;> refine T_ch 2 rfl ?_ <;> (refine T_go rfl ?_; refine G_op (O_indexH rfl rfl rfl rfl rfl (by assumption) (by assumption) (by assumption)) ?_) <;> (refine T_go rfl ?_; refine G_op (O_storeH rfl rfl rfl rfl (by assumption) (by assumption)) ?_) <;> apply T_nil) | refine W_region (id := 12) rfl rfl ?_ | apply W_skip | apply W_block | apply W_ret | apply W_exit | refine W_true rfl (by assumption) ?_ | refine W_false rfl (by assumption) ?_ | refine W_cond rfl (fun _ => ?_) (fun _ => ?_)))
      refine ⟨_, rfl, cur.set i 0, hstep, ?_⟩
      have : setCells (ic cur) (0 + i * 1) [.int .i64 0] = ic (cur.set i 0) := by rw [show 0 + i * 1 = i by omega]; exact ic_set _ (by omega)
      show (h ++ [HObj.cells 3 (ic cur)]).set h.length (.cells 3 (setCells (ic cur) (0 + i * 1) [.int .i64 0])) = _
      rw [this]
      simp
  · intro H' hJ
    obtain ⟨cur, hcur, rfl⟩ := hJ
    have hlt : decide ((lv.length : Int) < (m : Int)) = false := decide_eq_false (by omega)
    have hc : cur = zeroL st lv := by rw [hcur, List.take_of_length_le (by omega), List.take_of_length_le (Nat.le_refl _), List.drop_eq_nil_of_le (Nat.le_refl _), List.append_nil]
    subst hc
    generalize zeroL st lv = z at *
    (repeat' (first | apply W_seq | refine W_true rfl rfl ?_ | refine W_false rfl rfl ?_ | (refine W_ops (id := 8) rfl ?_ <;> (refine T_go rfl ?_; refine G_false rfl (by with_reducible assumption) ?_) <;> apply T_nil) | (refine W_ops (id := 13) rfl ?_ <;> refine T_ch 1 rfl ?_ <;> (refine T_go rfl ?_; refine G_op (O_call rfl rfl rfl rfl (by assumption)) ?_) <;> refine T_ch 1 rfl ?_ <;> apply T_nil) | apply W_skip | apply W_block | apply W_ret | apply W_exit | refine W_true rfl (by assumption) ?_ | refine W_false rfl (by assumption) ?_ | refine W_cond rfl (fun _ => ?_) (fun _ => ?_)))
    apply W_while (S := inoS h ⟨w, vs, body⟩ st m (h.length + 1)) (a0 := (z, HF h z (.map (mapC tg)) tl)) (fun a => Wy a.1 ∧ a.2 = HF h a.1 (.map (mapC tg)) tl) (fun a => roomL a.1) (by show roomL z < k; omega) rfl ⟨hon, rfl⟩
    intro a hJ
    obtain ⟨x, aH⟩ := a
    obtain ⟨hx, hxH⟩ := hJ
    dsimp only at hx hxH
    subst hxH
    obtain ⟨hxl, hxB⟩ := hOW x hx
    have hfl := hfx x hxl
    have hwx := hway x hx
    have hdx := hdone x hx
    have hrl := hrn x
    have hVx : fl x = [] → V = (.vs 1 (intsC x), true) := fun e => by
      have e2 := hdx e
      rw [← e2, if_pos e] at hV
      exact hV
    have hVF : fl F ≠ [] → V = (.nils, false) := fun e => by rw [if_neg e] at hV; exact hV
    generalize fl x = rows at hfl hwx hdx hrl hVx
    cases hrows0 : rows with
    | nil =>
      have hv := hVx hrows0
      subst hv
      rw [hrows0] at hfl
      have hfin := hand_lbi (h := h) (H := HF h x (.map (mapC tg)) tl) (b := true) (n := 0) (frz_ic (id := h.length) (T := 3) (l := x) (by simp [HF]) (Nat.le_refl _)) (fun _ => by simp)
      rw [hxl] at hfin
      (repeat' (first | apply W_seq | refine W_true rfl rfl ?_ | refine W_false rfl rfl ?_ | (refine W_ops (id := 14) rfl ?_ <;> refine T_ch 2 rfl ?_ <;> (refine T_go rfl ?_; refine G_op (O_call rfl rfl rfl rfl (by assumption)) ?_) <;> refine T_ch 1 rfl ?_ <;> apply T_nil) | (refine W_ops (id := 15) rfl ?_ <;> refine T_ch 2 rfl ?_ <;> (refine T_go rfl ?_; refine G_true rfl rfl ?_) <;> apply T_nil) | refine W_region (id := 16) rfl rfl ?_ | apply W_skip | apply W_block | apply W_ret | apply W_exit | refine W_true rfl (by assumption) ?_ | refine W_false rfl (by assumption) ?_ | refine W_cond rfl (fun _ => ?_) (fun _ => ?_)))
      exact ⟨.inl rfl, hfin⟩
    | cons r0 rs =>
      have hacc : accV 3 rows = .vs 3 rows := by rw [hrows0]; rfl
      have hpos : 0 < rows.length := by rw [hrows0]; simp
      rw [hacc] at hfl
      have hn0 : ((rows.length : Int) == 0) = false := beq_eq_false_iff_ne.2 (by omega)
      clear hdx hVx hfx hway hdone hrn
      (repeat' (first | apply W_seq | refine W_true rfl rfl ?_ | refine W_false rfl rfl ?_ | (refine W_ops (id := 14) rfl ?_ <;> refine T_ch 2 rfl ?_ <;> (refine T_go rfl ?_; refine G_op (O_call rfl rfl rfl rfl (by assumption)) ?_) <;> refine T_ch 1 rfl ?_ <;> apply T_nil) | (refine W_ops (id := 15) rfl ?_ <;> refine T_ch 2 rfl ?_ <;> (refine T_go rfl ?_; refine G_false rfl (by with_reducible assumption) ?_) <;> apply T_nil) | refine W_region (id := 17) rfl rfl ?_ | apply W_skip | apply W_block | apply W_ret | apply W_exit | refine W_true rfl (by assumption) ?_ | refine W_false rfl (by assumption) ?_ | refine W_cond rfl (fun _ => ?_) (fun _ => ?_)))
      apply W_iterI (S := iniS h ⟨w, vs, body⟩ st m (h.length + 1) rows) (l := rows) (a0 := (x, HF h x (.map (mapC tg)) tl)) (fun i rest a => Wy a.1 ∧ a.2 = HF h a.1 (.map (mapC tg)) tl ∧ (i = 0 → a.1 = x) ∧ (0 < i → roomL a.1 < roomL x)) (by omega) (by omega) rfl ⟨hx, rfl, fun _ => rfl, fun e => by omega⟩
      · intro i r rest a hi hd hil hJ
        obtain ⟨y, yH⟩ := a
        obtain ⟨hy, hyH, hy0, hy1⟩ := hJ
        dsimp only at hy hyH hy0 hy1
        subst hyH
        obtain ⟨hyl, hyB⟩ := hOW y hy
        have hlt : decide ((i : Int) < (rows.length : Int)) = true := decide_eq_true (by omega)
        obtain ⟨a, f, tt, hr, hcase⟩ := hwx r (List.mem_of_getElem? hi)
        rw [hr] at hi
        have gq : (HF h y (.map (mapC tg)) tl)[h.length + 1]? = some (.map (mapC tg)) := by simp [HF]
        have hw := viaI (k := k) rfl (within_run f 15 K h.length (HF h y (.map (mapC tg)) tl)) (by omega)
        rcases hcase with ⟨hfind, hbad⟩ | ⟨v, hfind, hvr, hcase⟩
        · have hv := hVF hbad
          subst hv
          (repeat' (first | apply W_seq | refine W_true rfl rfl ?_ | refine W_false rfl rfl ?_ | (refine W_ops (id := 18) rfl ?_ <;> (refine T_go rfl ?_; refine G_true rfl (by with_reducible assumption) ?_) <;> apply T_nil) | (refine W_ops (id := 19) rfl ?_ <;> (refine T_go rfl ?_; refine G_op (O_index rfl rfl rfl rfl rfl (by assumption)) ?_) <;> (refine T_go rfl ?_; refine G_op rfl ?_) <;> refine T_ch 2 rfl ?_ <;> apply T_nil) | (refine W_ops (id := 20) rfl ?_ <;> refine T_ch 3 rfl ?_ <;> (refine T_go rfl ?_; refine G_op (O_lookI rfl rfl ⟨_, _, _, rfl⟩ rfl rfl rfl rfl (by assumption) (by assumption)) ?_) <;> refine T_ch 2 rfl ?_ <;> (refine T_go rfl ?_; refine G_false rfl rfl ?_) <;> refine T_ch 2 rfl ?_ <;> apply T_nil) | (refine W_ops (id := 21) rfl ?_ <;> refine T_ch 5 rfl ?_ <;> refine T_skip rfl ?_ <;> refine T_skip rfl ?_ <;> refine T_ch 4 rfl ?_ <;> refine T_skip rfl ?_ <;> refine T_ch 2 rfl ?_ <;> apply T_nil) | refine W_region (id := 22) rfl rfl ?_ | apply W_skip | apply W_block | apply W_ret | apply W_exit | refine W_true rfl (by assumption) ?_ | refine W_false rfl (by assumption) ?_ | refine W_cond rfl (fun _ => ?_) (fun _ => ?_)))
          exact ⟨.inl rfl, rfl⟩
        · have hsb := boolsC_at (l := st) (n := v) (by omega)
          have badcase : ∀ b : Bool, st.getD v.toNat false = b → (b = true ∨ withinB f 15 = false) → fl F ≠ [] → True := fun _ _ _ _ => trivial
          rcases hcase with ⟨hs1, hbad⟩ | ⟨hw1, hbad⟩ | ⟨hs1, hw1, hfF, hfv, hnx⟩
          · have hv := hVF hbad
            subst hv
            rw [hs1] at hsb
            (repeat' (first | apply W_seq | refine W_true rfl rfl ?_ | refine W_false rfl rfl ?_ | (refine W_ops (id := 18) rfl ?_ <;> (refine T_go rfl ?_; refine G_true rfl (by with_reducible assumption) ?_) <;> apply T_nil) | (refine W_ops (id := 19) rfl ?_ <;> (refine T_go rfl ?_; refine G_op (O_index rfl rfl rfl rfl rfl (by assumption)) ?_) <;> (refine T_go rfl ?_; refine G_op rfl ?_) <;> refine T_ch 2 rfl ?_ <;> apply T_nil) | (refine W_ops (id := 20) rfl ?_ <;> refine T_ch 3 rfl ?_ <;> (refine T_go rfl ?_; refine G_op (O_lookI rfl rfl ⟨_, _, _, rfl⟩ rfl rfl rfl rfl (by assumption) (by assumption)) ?_) <;> refine T_ch 2 rfl ?_ <;> (refine T_go rfl ?_; refine G_true rfl rfl ?_) <;> refine T_ch 2 rfl ?_ <;> apply T_nil) | (refine W_ops (id := 21) rfl ?_ <;> refine T_ch 5 rfl ?_ <;> (refine T_go rfl ?_; refine G_op (O_indexI rfl rfl rfl rfl rfl (by assumption)) ?_) <;> (refine T_go rfl ?_; refine G_true rfl rfl ?_) <;> refine T_ch 4 rfl ?_ <;> refine T_skip rfl ?_ <;> refine T_ch 2 rfl ?_ <;> apply T_nil) | refine W_region (id := 22) rfl rfl ?_ | apply W_skip | apply W_block | apply W_ret | apply W_exit | refine W_true rfl (by assumption) ?_ | refine W_false rfl (by assumption) ?_ | refine W_cond rfl (fun _ => ?_) (fun _ => ?_)))
            exact ⟨.inl rfl, rfl⟩
          · have hv := hVF hbad
            subst hv
            rw [hw1] at hw
            cases hs1 : st.getD v.toNat false with
            | true =>
              rw [hs1] at hsb
              (repeat' (first | apply W_seq | refine W_true rfl rfl ?_ | refine W_false rfl rfl ?_ | (refine W_ops (id := 18) rfl ?_ <;> (refine T_go rfl ?_; refine G_true rfl (by with_reducible assumption) ?_) <;> apply T_nil) | (refine W_ops (id := 19) rfl ?_ <;> (refine T_go rfl ?_; refine G_op (O_index rfl rfl rfl rfl rfl (by assumption)) ?_) <;> (refine T_go rfl ?_; refine G_op rfl ?_) <;> refine T_ch 2 rfl ?_ <;> apply T_nil) | (refine W_ops (id := 20) rfl ?_ <;> refine T_ch 3 rfl ?_ <;> (refine T_go rfl ?_; refine G_op (O_lookI rfl rfl ⟨_, _, _, rfl⟩ rfl rfl rfl rfl (by assumption) (by assumption)) ?_) <;> refine T_ch 2 rfl ?_ <;> (refine T_go rfl ?_; refine G_true rfl rfl ?_) <;> refine T_ch 2 rfl ?_ <;> apply T_nil) | (refine W_ops (id := 21) rfl ?_ <;> refine T_ch 5 rfl ?_ <;> (refine T_go rfl ?_; refine G_op (O_indexI rfl rfl rfl rfl rfl (by assumption)) ?_) <;> (refine T_go rfl ?_; refine G_true rfl rfl ?_) <;> refine T_ch 4 rfl ?_ <;> refine T_skip rfl ?_ <;> refine T_ch 2 rfl ?_ <;> apply T_nil) | refine W_region (id := 22) rfl rfl ?_ | apply W_skip | apply W_block | apply W_ret | apply W_exit | refine W_true rfl (by assumption) ?_ | refine W_false rfl (by assumption) ?_ | refine W_cond rfl (fun _ => ?_) (fun _ => ?_)))
              exact ⟨.inl rfl, rfl⟩
            | false =>
              rw [hs1] at hsb
              (repeat' (first | apply W_seq | refine W_true rfl rfl ?_ | refine W_false rfl rfl ?_ | (refine W_ops (id := 18) rfl ?_ <;> (refine T_go rfl ?_; refine G_true rfl (by with_reducible assumption) ?_) <;> apply T_nil) | (refine W_ops (id := 19) rfl ?_ <;> (refine T_go rfl ?_; refine G_op (O_index rfl rfl rfl rfl rfl (by assumption)) ?_) <;> (refine T_go rfl ?_; refine G_op rfl ?_) <;> refine T_ch 2 rfl ?_ <;> apply T_nil) | (refine W_ops (id := 20) rfl ?_ <;> refine T_ch 3 rfl ?_ <;> (refine T_go rfl ?_; refine G_op (O_lookI rfl rfl ⟨_, _, _, rfl⟩ rfl rfl rfl rfl (by assumption) (by assumption)) ?_) <;> refine T_ch 2 rfl ?_ <;> (refine T_go rfl ?_; refine G_true rfl rfl ?_) <;> refine T_ch 2 rfl ?_ <;> apply T_nil) | (refine W_ops (id := 21) rfl ?_ <;> refine T_ch 5 rfl ?_ <;> (refine T_go rfl ?_; refine G_op (O_indexI rfl rfl rfl rfl rfl (by assumption)) ?_) <;> (refine T_go rfl ?_; refine G_false rfl rfl ?_) <;> refine T_ch 4 rfl ?_ <;> (refine T_go rfl ?_; refine G_false (O_call rfl rfl rfl rfl (by assumption)) rfl ?_) <;> refine T_ch 2 rfl ?_ <;> apply T_nil) | refine W_region (id := 22) rfl rfl ?_ | apply W_skip | apply W_block | apply W_ret | apply W_exit | refine W_true rfl (by assumption) ?_ | refine W_false rfl (by assumption) ?_ | refine W_cond rfl (fun _ => ?_) (fun _ => ?_)))
              exact ⟨.inl rfl, rfl⟩
          · rw [hs1] at hsb
            rw [hw1] at hw
            obtain ⟨q1, q2⟩ := hstep y hy v f hs1 hfF hfv
            have hless : i = 0 → roomL (y.set v.toNat (orI (y.getD v.toNat 0) f)) < roomL y := fun e => way_less hyB ⟨hvr.1, by omega⟩ hfF (by rw [hy0 e]; exact hnx)
            have hj : 0 ≤ v ∧ v.toNat < m := ⟨hvr.1, by omega⟩
            have g1 : (HF h y (.map (mapC tg)) tl)[h.length]? = some (.cells 3 (ic y)) := by simp [HF]
            have l1 : 0 + m * 1 = (ic y).length := by rw [ic_len]; omega
            have p1 : (ic y)[0 + v.toNat * 1]? = some (.int .i64 (y.getD v.toNat 0)) := by
              rw [show 0 + v.toNat * 1 = v.toNat by omega]
              refine ic_get ?_
              rw [List.getD_eq_getElem?_getD, List.getElem?_eq_getElem (by omega)]; rfl
            have hs : h.length ≤ h.length ∧ (ic y).length = (ic y).length ∧ 1 = 1 ∧ (0 + v.toNat * 1) + 1 ≤ (ic y).length := ⟨Nat.le_refl _, rfl, rfl, by rw [ic_len]; omega⟩
            have hset : (HF h y (.map (mapC tg)) tl).set h.length (.cells 3 (setCells (ic y) (0 + v.toNat * 1) [.int .i64 (orI (y.getD v.toNat 0) f)])) = HF h (y.set v.toNat (orI (y.getD v.toNat 0) f)) (.map (mapC tg)) tl := by
              rw [show 0 + v.toNat * 1 = v.toNat by omega, ic_set _ (by omega)]
              simp [HF, List.set_append]
            (repeat' (first | apply W_seq | refine W_true rfl rfl ?_ | refine W_false rfl rfl ?_ | (refine W_ops (id := 18) rfl ?_ <;> (refine T_go rfl ?_; refine G_true rfl (by with_reducible assumption) ?_) <;> apply T_nil) | (refine W_ops (id := 19) rfl ?_ <;> (refine T_go rfl ?_; refine G_op (O_index rfl rfl rfl rfl rfl (by assumption)) ?_) <;> (refine T_go rfl ?_; refine G_op rfl ?_) <;> refine T_ch 2 rfl ?_ <;> apply T_nil) | (refine W_ops (id := 20) rfl ?_ <;> refine T_ch 3 rfl ?_ <;> (refine T_go rfl ?_; refine G_op (O_lookI rfl rfl ⟨_, _, _, rfl⟩ rfl rfl rfl rfl (by assumption) (by assumption)) ?_) <;> refine T_ch 2 rfl ?_ <;> (refine T_go rfl ?_; refine G_true rfl rfl ?_) <;> refine T_ch 2 rfl ?_ <;> apply T_nil) | (refine W_ops (id := 21) rfl ?_ <;> refine T_ch 5 rfl ?_ <;> (refine T_go rfl ?_; refine G_op (O_indexI rfl rfl rfl rfl rfl (by assumption)) ?_) <;> (refine T_go rfl ?_; refine G_false rfl rfl ?_) <;> refine T_ch 4 rfl ?_ <;> (refine T_go rfl ?_; refine G_true (O_call rfl rfl rfl rfl (by assumption)) rfl ?_) <;> refine T_ch 2 rfl ?_ <;> apply T_nil) | (refine W_dops (id := 23) (bs := [0, 0, 3, 7, 0, 16, 63, 127, 255]) rfl (by decide +kernel) ?_ <;> (refine U_go rfl ?_; refine H_free (by decide +kernel) rfl rfl rfl rfl rfl ?_) <;> (refine U_go rfl ?_; refine H_free (by decide +kernel) rfl rfl rfl rfl rfl ?_) <;> (refine U_go rfl ?_; refine H_free (by decide +kernel) rfl (O_indexHI rfl rfl rfl rfl rfl (by assumption) (by assumption) (by assumption)) rfl rfl rfl ?_) <;> (refine U_go rfl ?_; refine H_free (by decide +kernel) rfl (O_loadH rfl rfl rfl (by assumption) rfl (by assumption)) rfl rfl rfl ?_) <;> (refine U_go rfl ?_; refine H_free (by decide +kernel) rfl rfl rfl rfl rfl ?_) <;> (refine U_go rfl ?_; refine H_free (by decide +kernel) rfl rfl rfl rfl rfl ?_) <;> (refine U_go rfl ?_; refine H_op (by decide +kernel) rfl ?_) <;> (refine U_go rfl ?_; refine H_op (by decide +kernel) (O_indexHI rfl rfl rfl rfl rfl (by assumption) (by assumption) (by assumption)) ?_) <;> (refine U_go rfl ?_; refine H_op (by decide +kernel) (O_storeH rfl rfl rfl rfl (by assumption) (by assumption)) ?_) <;> apply U_nil) | refine W_region (id := 24) rfl rfl ?_ | apply W_skip | apply W_block | apply W_ret | apply W_exit | refine W_true rfl (by assumption) ?_ | refine W_false rfl (by assumption) ?_ | refine W_cond rfl (fun _ => ?_) (fun _ => ?_)))
            exact ⟨(y.set v.toNat (orI (y.getD v.toNat 0) f), _), rfl, q1, hset, fun e => by omega, fun _ => by
              show roomL (y.set v.toNat (orI (y.getD v.toNat 0) f)) < roomL x
              by_cases e : i = 0
              · have := hless e; rw [hy0 e] at this ⊢; exact this
              · have := hy1 (by omega); omega⟩
      · intro a hJ
        obtain ⟨y, yH⟩ := a
        obtain ⟨hy, hyH, hy0, hy1⟩ := hJ
        dsimp only at hy hyH hy0 hy1
        subst hyH
        have hlt : decide ((rows.length : Int) < (rows.length : Int)) = false := decide_eq_false (by omega)
        (repeat' (first | apply W_seq | refine W_true rfl rfl ?_ | refine W_false rfl rfl ?_ | (refine W_ops (id := 18) rfl ?_ <;> (refine T_go rfl ?_; refine G_false rfl (by with_reducible assumption) ?_) <;> apply T_nil) | apply W_skip | apply W_block | apply W_ret | apply W_exit | refine W_true rfl (by assumption) ?_ | refine W_false rfl (by assumption) ?_ | refine W_cond rfl (fun _ => ?_) (fun _ => ?_)))
        exact ⟨(y, HF h y (.map (mapC tg)) tl), rfl, ⟨hy, rfl⟩, hy1 hpos⟩
end Go.Proofs.Ytelobnllkhnpaaa.L
/- How deep a call may go, out of Fits. -/
open Go Go.Proofs Go.Ev Go.Proofs.Ytelobnllkhnpaaa.E
namespace Go.Proofs.Ytelobnllkhnpaaa.L
set_option linter.unusedVariables false
set_option linter.unusedSimpArgs false
set_option maxHeartbeats 2000000
set_option maxRecDepth 100000

theorem wrap_pred {m : Int} (h1 : 0 < m) (h2 : m ≤ 10000) : IntKind.i64.wrap (m - 1) = m - 1 := Go.Ev.wrap_small (by omega) (by omega)
mutual
theorem leftE_low : ∀ (e : Ex') (m : Int), m ≤ 10000 → leftE e m ≤ m ∨ leftE e m ≤ 0
  | .mk op n c l, m, hm => by
    rw [leftE]
    split
    · exact .inr (by omega)
    · rw [wrap_pred (by omega) hm]
      rcases leftEs_low l (m - 1) (by omega) with h | h
      · exact .inl (by omega)
      · exact .inr h
theorem leftEs_low : ∀ (l : List Ex') (m : Int), m ≤ 10000 → leftEs l m ≤ m ∨ leftEs l m ≤ 0
  | [], m, _ => by rw [leftEs]; exact .inl (Int.le_refl _)
  | e :: l, m, hm => by
    rw [leftEs]
    rcases leftE_low e m hm with h | h
    · rcases leftEs_low l (leftE e m) (by omega) with h' | h'
      · exact .inl (by omega)
      · exact .inr h'
    · rcases leftEs_low l (leftE e m) (by omega) with h' | h'
      · exact .inr (by omega)
      · exact .inr h'
end
mutual
theorem leftE_K : ∀ (e : Ex') (m : Int), m ≤ 10000 → 0 < leftE e m → (exK e : Int) + 2 * leftE e m ≤ 2 * m
  | .mk op n c l, m, hm, h => by
    rw [leftE] at h ⊢
    split at h
    · omega
    · rename_i hc
      rw [if_neg hc]
      rw [wrap_pred (by omega) hm] at h ⊢
      have := leftEs_K l (m - 1) (by omega) h
      rw [exK]; omega
theorem leftEs_K : ∀ (l : List Ex') (m : Int), m ≤ 10000 → 0 < leftEs l m → (exsK l : Int) + 2 * leftEs l m ≤ 2 * m + 1
  | [], m, _, _ => by rw [leftEs, exsK]; omega
  | e :: l, m, hm, h => by
    rw [leftEs] at h ⊢
    have h0 : 0 < leftE e m := by
      rcases Int.lt_or_le 0 (leftE e m) with h' | h'
      · exact h'
      · rcases leftEs_low l (leftE e m) (by omega) with h'' | h'' <;> omega
    have h1 := leftE_K e m hm h0
    have h2 := leftEs_K l (leftE e m) (by have := exK_pos e; omega) h
    rw [exsK]; omega
end
mutual
theorem leftS1_low : ∀ (s : Sm') (m : Int), 0 < m → m ≤ 10000 → leftS1 s m ≤ m ∨ leftS1 s m ≤ 0
  | .mk op n a t e, m, h0, hm => by
    rw [leftS1, wrap_pred h0 hm]
    have h1 := leftEs_low a (m - 1) (by omega)
    have h2 := leftSs_low t (leftEs a (m - 1)) (by omega)
    have h3 := leftSs_low e (leftSs t (leftEs a (m - 1))) (by omega)
    omega
theorem leftSs_low : ∀ (l : List Sm') (m : Int), m ≤ 10000 → leftSs l m ≤ m ∨ leftSs l m ≤ 0
  | [], m, _ => by rw [leftSs]; exact .inl (Int.le_refl _)
  | s :: l, m, hm => by
    rw [leftSs]
    split
    · rename_i h0
      have h1 := leftS1_low s m h0 hm
      have h2 := leftSs_low l (leftS1 s m) (by omega)
      omega
    · exact .inl (Int.le_refl _)
end
mutual
theorem leftS1_K : ∀ (s : Sm') (m : Int), 0 < m → m ≤ 10000 → 0 < leftS1 s m → (smK s : Int) + 10 * leftS1 s m ≤ 10 * m
  | .mk op n a t e, m, h0, hm, h => by
    rw [leftS1, wrap_pred h0 hm] at h ⊢
    have l1 := leftEs_low a (m - 1) (by omega)
    have l2 := leftSs_low t (leftEs a (m - 1)) (by omega)
    have l3 := leftSs_low e (leftSs t (leftEs a (m - 1))) (by omega)
    have k3 := leftSs_K e _ (by omega) h
    have k2 := leftSs_K t (leftEs a (m - 1)) (by omega) (by omega)
    have k1 := leftEs_K a (m - 1) (by omega) (by omega)
    rw [smK]; omega
theorem leftSs_K : ∀ (l : List Sm') (m : Int), m ≤ 10000 → 0 < leftSs l m → (smsK l : Int) + 10 * leftSs l m ≤ 10 * m + 2
  | [], m, _, _ => by rw [leftSs, smsK]; omega
  | s :: l, m, hm, h => by
    rw [leftSs] at h ⊢
    split at h
    · rename_i h0
      rw [if_pos h0]
      have l1 := leftS1_low s m h0 hm
      have l2 := leftSs_low l (leftS1 s m) (by omega)
      have k1 := leftS1_K s m h0 hm (by omega)
      have k2 := leftSs_K l (leftS1 s m) (by omega) h
      rw [smsK]; omega
    · rename_i h0; omega
end
theorem fits_K {l : List Sm'} (h : fitsS l 600 = true) : smsK l ≤ 6100 := by
  have h1 : 0 < leftSs l 601 := of_decide_eq_true h
  have := leftSs_K l 601 (by omega) h1
  omega
end Go.Proofs.Ytelobnllkhnpaaa.L
/- The law LevelInfers. -/
open Go Go.Proofs Go.Ev Go.Proofs.Ytelobnllkhnpaaa.E
namespace Go.Proofs.Ytelobnllkhnpaaa.E
set_option linter.unusedVariables false
set_option linter.unusedSimpArgs false
set_option maxHeartbeats 2000000
/-- The laws that reach Infer are walked over both configurations. -/
def lawL (n : Nat) : Bool := [7, 9, 10].contains n
def infL (n : Nat) : Bool := [31, 32].contains n
noncomputable def orcL (K lo : Nat) (g : Fn) (vs : List AV) (h : Heap) : Option (AV × Heap) :=
  match g with
  | .func f => match lawL f with
    | true => none
    | false => match infL f with
      | true => call Try.prog (cfgI K) K lo (.func f) vs h
      | false => call Try.prog cfg K lo (.func f) vs h
  | _ => none
theorem orcL_sound (K : Nat) : SoundK Try.prog (orcL K) := by
  intro lo g vs h r h' hk
  unfold orcL at hk
  split at hk
  · rename_i f
    split at hk
    · cases hk
    · split at hk
      · exact (soundI K).all K lo (.func f) vs h r h' hk
      · exact sound.all K lo (.func f) vs h r h' hk
  · cases hk
def frL (f r : Nat) : List Nat := match Nat.beq f 10 && Nat.beq r 10 with
  | true => [12]
  | false => []
noncomputable def cfgL (K : Nat) : Cfg := { cfg with orc := orcL K, fr := frL }
theorem soundL (K : Nat) : Sound Try.prog (cfgL K) := ⟨sound0.tab, cfg_ok, orcL_sound K⟩
theorem viaL {K f k lo : Nat} {vs : List AV} {h : Heap} {r : AV × Heap} (ho : lawL f = false) (hi : infL f = false) (hc : call Try.prog cfg K lo (.func f) vs h = some r) (hk : 1 ≤ k) : call Try.prog (cfgL K) k lo (.func f) vs h = some r := by
  obtain ⟨k, rfl⟩ : ∃ k', k = k' + 1 := ⟨k - 1, by omega⟩
  have : (cfgL K).orc lo (.func f) vs h = some r := by
    show orcL K lo (.func f) vs h = some r
    unfold orcL
    dsimp only
    rw [ho, hi]
    exact hc
  simp only [call, this]
theorem viaF {K f k lo : Nat} {vs : List AV} {h : Heap} {r : AV × Heap} (ho : lawL f = false) (hi : infL f = true) (hc : call Try.prog (cfgI K) K lo (.func f) vs h = some r) (hk : 1 ≤ k) : call Try.prog (cfgL K) k lo (.func f) vs h = some r := by
  obtain ⟨k, rfl⟩ : ∃ k', k = k' + 1 := ⟨k - 1, by omega⟩
  have : (cfgL K).orc lo (.func f) vs h = some r := by
    show orcL K lo (.func f) vs h = some r
    unfold orcL
    dsimp only
    rw [ho, hi]
    exact hc
  simp only [call, this]
end Go.Proofs.Ytelobnllkhnpaaa.E
namespace Go.Proofs.Ytelobnllkhnpaaa.L
set_option linter.unusedVariables false
set_option linter.unusedSimpArgs false
set_option maxHeartbeats 2000000
set_option maxRecDepth 100000

/-- Infer's error. -/
theorem inferP_bad (p : Pr') (st : List Bool) (hN : smsN p.body ≤ 600) (hf : faultI p ≠ 0) (k : Nat) (hk : 10 ≤ k) (K : Nat) (hK : smsK p.body + p.vars.length + 2000 ≤ K) (hb : prB p) (h : Heap) (lo : Nat) :
    call Try.prog (cfgI K) (k + 1) lo (.func 31) [.agg (prC p), .vs 1 (boolsC st)] h = some (.tup [.nils, .bool false, .int .i64 (faultI p)], h) := by
  obtain ⟨K, rfl⟩ : ∃ K', K = K' + 1 := ⟨K - 1, by omega⟩
  have hC := viaI (k := k) rfl (levcheck_run p K (by omega) hb h h.length) (by omega)
  rw [chk_eq p hN] at hC
  rcases faultI_cases p with ⟨h0, _, _⟩ | h1 | h1
  · exact absurd h0 hf
  · rw [h1] at hC ⊢
    obtain ⟨w, vs, body⟩ := p
    apply W_call Try.func31 rfl (Nat.le_of_ble_eq_true rfl) rfl rfl
    (repeat' (first | apply W_seq | refine W_true rfl rfl ?_ | refine W_false rfl rfl ?_ | refine W_region (id := 0) rfl rfl ?_ | (refine W_ops (id := 1) rfl ?_ <;> refine T_ch 1 rfl ?_ <;> (refine T_go rfl ?_; refine G_op (O_call rfl rfl rfl rfl (by assumption)) ?_) <;> refine T_ch 1 rfl ?_ <;> apply T_nil) | (refine W_ops (id := 2) rfl ?_ <;> refine T_ch 1 rfl ?_ <;> (refine T_go rfl ?_; refine G_true rfl rfl ?_) <;> apply T_nil) | refine W_region (id := 3) rfl rfl ?_ | apply W_skip | apply W_block | apply W_ret | apply W_exit | refine W_true rfl (by assumption) ?_ | refine W_false rfl (by assumption) ?_ | refine W_cond rfl (fun _ => ?_) (fun _ => ?_)))
    exact ⟨.inl rfl, rfl⟩
  · rw [h1] at hC ⊢
    obtain ⟨w, vs, body⟩ := p
    apply W_call Try.func31 rfl (Nat.le_of_ble_eq_true rfl) rfl rfl
    (repeat' (first | apply W_seq | refine W_true rfl rfl ?_ | refine W_false rfl rfl ?_ | refine W_region (id := 0) rfl rfl ?_ | (refine W_ops (id := 1) rfl ?_ <;> refine T_ch 1 rfl ?_ <;> (refine T_go rfl ?_; refine G_op (O_call rfl rfl rfl rfl (by assumption)) ?_) <;> refine T_ch 1 rfl ?_ <;> apply T_nil) | (refine W_ops (id := 2) rfl ?_ <;> refine T_ch 1 rfl ?_ <;> (refine T_go rfl ?_; refine G_true rfl rfl ?_) <;> apply T_nil) | refine W_region (id := 3) rfl rfl ?_ | apply W_skip | apply W_block | apply W_ret | apply W_exit | refine W_true rfl (by assumption) ?_ | refine W_false rfl (by assumption) ?_ | refine W_cond rfl (fun _ => ?_) (fun _ => ?_)))
    exact ⟨.inl rfl, rfl⟩
theorem inferP_arg (p : Pr') (st : List Bool) (hN : smsN p.body ≤ 600) (hf : faultI p = 0) (hst : st.length ≠ p.vars.length) (k : Nat) (hk : 10 ≤ k) (K : Nat) (hK : smsK p.body + p.vars.length + 2000 ≤ K) (hb : prB p) (h : Heap) (lo : Nat) :
    call Try.prog (cfgI K) (k + 1) lo (.func 31) [.agg (prC p), .vs 1 (boolsC st)] h = some (.tup [.nils, .bool false, .int .i64 1], h) := by
  obtain ⟨K, rfl⟩ : ∃ K', K = K' + 1 := ⟨K - 1, by omega⟩
  have hC := viaI (k := k) rfl (levcheck_run p K (by omega) hb h h.length) (by omega)
  rw [chk_eq p hN, hf] at hC
  have hne0 : (((boolsC st).length : Int) != ((vsC p.vars).length : Int)) = true := by rw [boolsC_len, vsC_len]; simp; omega
  obtain ⟨w, vs, body⟩ := p
  dsimp only at hne0
  apply W_call Try.func31 rfl (Nat.le_of_ble_eq_true rfl) rfl rfl
  (repeat' (first | apply W_seq | refine W_true rfl rfl ?_ | refine W_false rfl rfl ?_ | refine W_region (id := 0) rfl rfl ?_ | (refine W_ops (id := 1) rfl ?_ <;> refine T_ch 1 rfl ?_ <;> (refine T_go rfl ?_; refine G_op (O_call rfl rfl rfl rfl (by assumption)) ?_) <;> refine T_ch 1 rfl ?_ <;> apply T_nil) | (refine W_ops (id := 2) rfl ?_ <;> refine T_ch 1 rfl ?_ <;> (refine T_go rfl ?_; refine G_false rfl rfl ?_) <;> apply T_nil) | (refine W_ops (id := 4) rfl ?_ <;> refine T_ch 5 rfl ?_ <;> (refine T_go rfl ?_; refine G_true rfl (by assumption) ?_) <;> apply T_nil) | refine W_region (id := 5) rfl rfl ?_ | apply W_skip | apply W_block | apply W_ret | apply W_exit | refine W_true rfl (by assumption) ?_ | refine W_false rfl (by assumption) ?_ | refine W_cond rfl (fun _ => ?_) (fun _ => ?_)))
  exact ⟨.inl rfl, rfl⟩
theorem wsame_nil (k : Nat) (hk : 3 < k) (h : Heap) (lo : Nat) : call Try.prog cfg (k + 1) lo (.func 25) [.nils, .nils] h = some (.bool true, h) := by
  apply W_call Try.func25 rfl (Nat.le_of_ble_eq_true rfl) rfl rfl
  (repeat' (first | apply W_seq | refine W_true rfl rfl ?_ | refine W_false rfl rfl ?_ | refine W_region (id := 0) rfl rfl ?_ | (refine W_ops (id := 1) rfl ?_ <;> refine T_ch 4 rfl ?_ <;> (refine T_go rfl ?_; refine G_false rfl rfl ?_) <;> apply T_nil) | refine W_region (id := 3) rfl rfl ?_ | apply W_skip | apply W_block | apply W_ret | apply W_exit | refine W_true rfl (by assumption) ?_ | refine W_false rfl (by assumption) ?_ | refine W_cond rfl (fun _ => ?_) (fun _ => ?_)))
  apply W_iter (S := wsS h .nils .nils) (l := ([] : List Nat)) (a0 := ()) (fun _ _ => True) (by simp) (by simp; omega) rfl trivial
  · intro i v rest a hi; simp at hi
  · intro a hJ
    (repeat' (first | apply W_seq | refine W_true rfl rfl ?_ | refine W_false rfl rfl ?_ | (refine W_ops (id := 4) rfl ?_ <;> refine T_ch 3 rfl ?_ <;> (refine T_go rfl ?_; refine G_false rfl rfl ?_) <;> apply T_nil) | refine W_region (id := 8) rfl rfl ?_ | apply W_skip | apply W_block | apply W_ret | apply W_exit | refine W_true rfl (by assumption) ?_ | refine W_false rfl (by assumption) ?_ | refine W_cond rfl (fun _ => ?_) (fun _ => ?_)))
    exact ⟨.inl rfl, rfl⟩
theorem infV_cases (p : Pr') (st : List Bool) : infV p st = (.vs 1 (intsC (lfpR p st)), true) ∨ infV p st = (.nils, false) := by
  unfold infV
  split
  · exact .inl rfl
  · exact .inr rfl
theorem levelInfers_run (p : Pr') (st : List Bool) (K : Nat) (hK : K = smsK p.body + p.vars.length + st.length + 12000) (k : Nat) (hk : 5000 ≤ k) (hb : prB p) (hsl : st.length < 9223372036854775808) (h : Heap) (lo : Nat) :
    call Try.prog (cfgL K) (k + 1) lo (.func 7) [.agg (prC p), .vs 1 (boolsC st)] h = some (.bool true, h) := by
  obtain ⟨K, rfl⟩ : ∃ K', K = K' + 1 := ⟨K - 1, by omega⟩
  have hA := viaL (K := K + 1) (k := k) rfl rfl (awake_run (K + 1) h.length h (by omega)) (by omega)
  have h1 := viaL (K := K + 1) (k := k) rfl rfl (fitsS_run K h h.length p.body (by omega) hb.2.1 hb.2.2 600) (by omega)
  cases hf : fitsS p.body 600 with
  | false =>
    rw [hf] at h1
    obtain ⟨w, vs, body⟩ := p
    apply W_call Try.func7 rfl (Nat.le_of_ble_eq_true rfl) rfl rfl
    (repeat' (first | apply W_seq | refine W_true rfl rfl ?_ | refine W_false rfl rfl ?_ | refine W_region (id := 0) rfl rfl ?_ | (refine W_ops (id := 1) rfl ?_ <;> refine T_ch 2 rfl ?_ <;> (refine T_go rfl ?_; refine G_false (O_call rfl rfl rfl rfl (by assumption)) rfl ?_) <;> refine T_ch 1 rfl ?_ <;> apply T_nil) | (refine W_ops (id := 2) rfl ?_ <;> (refine T_go rfl ?_; refine G_true (O_call rfl rfl rfl rfl (by assumption)) rfl ?_) <;> refine T_ch 1 rfl ?_ <;> apply T_nil) | apply W_skip | apply W_block | apply W_ret | apply W_exit | refine W_true rfl (by assumption) ?_ | refine W_false rfl (by assumption) ?_ | refine W_cond rfl (fun _ => ?_) (fun _ => ?_)))
    all_goals exact ⟨.inl rfl, rfl⟩
  | true =>
  rw [hf] at h1
  have hfK := fits_K hf
  have hN : smsN p.body ≤ 600 := by
    rw [fitsS_eq _ _ (by omega) (by omega)] at hf
    have := of_decide_eq_true hf
    omega
  have hF := viaL (K := K + 1) (k := k) rfl rfl (fault_run p K (by omega) hb h h.length) (by omega)
  have hvl := vsC_len p.vars
  have hbl := boolsC_len st
  rcases faultI_cases p with ⟨hf, hP, hS⟩ | hf | hf
  · obtain ⟨_, hv1, hv2⟩ := isP_head hP
    rw [hf] at hF
    by_cases hst : st.length = p.vars.length
    · have hvm := rows_vm _ (isP_rows hP)
      have hB := levs_B hP hS
      have hI := viaF (K := K + 1) (k := k) rfl rfl (inferP_run p st hP hS hst K (by omega) (K + 1) (by omega) (by omega) hN hb h h.length) (by omega)
      have hR := viaF (K := K + 1) (k := k) rfl rfl (inferR_run p st hst K (by omega) (K + 1) (by omega) hN hb hv1 hv2 hvm hB h h.length) (by omega)
      have hne : (((boolsC st).length : Int) != ((vsC p.vars).length : Int)) = false := by rw [hvl, hbl, hst]; simp
      rcases infV_cases p st with e | e
      · rw [e] at hI hR
        have hlen := (lfp_ok (st := st) hP hS).len
        have hW := viaL (K := K + 1) (k := k) rfl rfl (wsame_run (lfpR p st) (lfpR p st) (by omega) K (by omega) h h.length) (by omega)
        rw [decide_eq_true rfl] at hW
        generalize intsC (lfpR p st) = M at hI hR hW
        obtain ⟨w, vs, body⟩ := p
        apply W_call Try.func7 rfl (Nat.le_of_ble_eq_true rfl) rfl rfl
        (repeat' (first | apply W_seq | refine W_true rfl rfl ?_ | refine W_false rfl rfl ?_ | refine W_region (id := 0) rfl rfl ?_ | (refine W_ops (id := 1) rfl ?_ <;> refine T_ch 2 rfl ?_ <;> (refine T_go rfl ?_; refine G_true (O_call rfl rfl rfl rfl (by assumption)) rfl ?_) <;> refine T_ch 1 rfl ?_ <;> apply T_nil) | (refine W_ops (id := 3) rfl ?_ <;> refine T_ch 2 rfl ?_ <;> (refine T_go rfl ?_; refine G_op (O_call rfl rfl rfl rfl (by assumption)) ?_) <;> refine T_ch 2 rfl ?_ <;> (refine T_go rfl ?_; refine G_true rfl rfl ?_) <;> refine T_ch 4 rfl ?_ <;> apply T_nil) | (refine W_ops (id := 4) rfl ?_ <;> refine T_ch 1 rfl ?_ <;> (refine T_go rfl ?_; refine G_op (O_call rfl rfl rfl rfl (by assumption)) ?_) <;> refine T_ch 1 rfl ?_ <;> apply T_nil) | (refine W_ops (id := 5) rfl ?_ <;> refine T_ch 1 rfl ?_ <;> (refine T_go rfl ?_; refine G_true rfl rfl ?_) <;> refine T_ch 6 rfl ?_ <;> (refine T_go rfl ?_; refine G_false rfl (by assumption) ?_) <;> refine T_ch 1 rfl ?_ <;> apply T_nil) | (refine W_ops (id := 7) rfl ?_ <;> refine T_ch 1 rfl ?_ <;> (refine T_go rfl ?_; refine G_false rfl rfl ?_) <;> apply T_nil) | (refine W_ops (id := 9) rfl ?_ <;> refine T_ch 2 rfl ?_ <;> (refine T_go rfl ?_; refine G_op (O_call rfl rfl rfl rfl (by assumption)) ?_) <;> refine T_ch 2 rfl ?_ <;> (refine T_go rfl ?_; refine G_true rfl rfl ?_) <;> refine T_ch 2 rfl ?_ <;> apply T_nil) | (refine W_ops (id := 10) rfl ?_ <;> refine T_ch 1 rfl ?_ <;> (refine T_go rfl ?_; refine G_true rfl rfl ?_) <;> refine T_ch 3 rfl ?_ <;> (refine T_go rfl ?_; refine G_true rfl rfl ?_) <;> refine T_ch 4 rfl ?_ <;> (refine T_go rfl ?_; refine G_true (O_call rfl rfl rfl rfl (by assumption)) rfl ?_) <;> refine T_ch 2 rfl ?_ <;> (refine T_go rfl ?_; refine G_true (O_call rfl rfl rfl rfl (by assumption)) rfl ?_) <;> refine T_ch 2 rfl ?_ <;> apply T_nil) | apply W_skip | apply W_block | apply W_ret | apply W_exit | refine W_true rfl (by assumption) ?_ | refine W_false rfl (by assumption) ?_ | refine W_cond rfl (fun _ => ?_) (fun _ => ?_)))
        all_goals exact ⟨.inl rfl, rfl⟩
      · rw [e] at hI hR
        have hW := viaL (K := K + 1) (k := k) rfl rfl (wsame_nil K (by omega) h h.length) (by omega)
        obtain ⟨w, vs, body⟩ := p
        apply W_call Try.func7 rfl (Nat.le_of_ble_eq_true rfl) rfl rfl
        (repeat' (first | apply W_seq | refine W_true rfl rfl ?_ | refine W_false rfl rfl ?_ | refine W_region (id := 0) rfl rfl ?_ | (refine W_ops (id := 1) rfl ?_ <;> refine T_ch 2 rfl ?_ <;> (refine T_go rfl ?_; refine G_true (O_call rfl rfl rfl rfl (by assumption)) rfl ?_) <;> refine T_ch 1 rfl ?_ <;> apply T_nil) | (refine W_ops (id := 3) rfl ?_ <;> refine T_ch 2 rfl ?_ <;> (refine T_go rfl ?_; refine G_op (O_call rfl rfl rfl rfl (by assumption)) ?_) <;> refine T_ch 2 rfl ?_ <;> (refine T_go rfl ?_; refine G_false rfl rfl ?_) <;> refine T_ch 4 rfl ?_ <;> apply T_nil) | (refine W_ops (id := 4) rfl ?_ <;> refine T_ch 1 rfl ?_ <;> (refine T_go rfl ?_; refine G_op (O_call rfl rfl rfl rfl (by assumption)) ?_) <;> refine T_ch 1 rfl ?_ <;> apply T_nil) | (refine W_ops (id := 5) rfl ?_ <;> refine T_ch 1 rfl ?_ <;> (refine T_go rfl ?_; refine G_true rfl rfl ?_) <;> refine T_ch 6 rfl ?_ <;> (refine T_go rfl ?_; refine G_false rfl (by assumption) ?_) <;> refine T_ch 1 rfl ?_ <;> apply T_nil) | (refine W_ops (id := 7) rfl ?_ <;> refine T_ch 1 rfl ?_ <;> (refine T_go rfl ?_; refine G_false rfl rfl ?_) <;> apply T_nil) | (refine W_ops (id := 9) rfl ?_ <;> refine T_ch 2 rfl ?_ <;> (refine T_go rfl ?_; refine G_op (O_call rfl rfl rfl rfl (by assumption)) ?_) <;> refine T_ch 2 rfl ?_ <;> (refine T_go rfl ?_; refine G_false rfl rfl ?_) <;> refine T_ch 2 rfl ?_ <;> apply T_nil) | (refine W_ops (id := 10) rfl ?_ <;> refine T_ch 1 rfl ?_ <;> (refine T_go rfl ?_; refine G_true rfl rfl ?_) <;> refine T_ch 3 rfl ?_ <;> (refine T_go rfl ?_; refine G_true rfl rfl ?_) <;> refine T_ch 4 rfl ?_ <;> (refine T_go rfl ?_; refine G_true (O_call rfl rfl rfl rfl (by assumption)) rfl ?_) <;> refine T_ch 2 rfl ?_ <;> (refine T_go rfl ?_; refine G_true (O_call rfl rfl rfl rfl (by assumption)) rfl ?_) <;> refine T_ch 2 rfl ?_ <;> apply T_nil) | apply W_skip | apply W_block | apply W_ret | apply W_exit | refine W_true rfl (by assumption) ?_ | refine W_false rfl (by assumption) ?_ | refine W_cond rfl (fun _ => ?_) (fun _ => ?_)))
        all_goals exact ⟨.inl rfl, rfl⟩
    · have hI := viaF (K := K + 1) (k := k) rfl rfl (inferP_arg p st hN hf hst K (by omega) (K + 1) (by omega) hb h h.length) (by omega)
      have hne : (((boolsC st).length : Int) != ((vsC p.vars).length : Int)) = true := by rw [hvl, hbl]; simp; omega
      obtain ⟨w, vs, body⟩ := p
      apply W_call Try.func7 rfl (Nat.le_of_ble_eq_true rfl) rfl rfl
      (repeat' (first | apply W_seq | refine W_true rfl rfl ?_ | refine W_false rfl rfl ?_ | refine W_region (id := 0) rfl rfl ?_ | (refine W_ops (id := 1) rfl ?_ <;> refine T_ch 2 rfl ?_ <;> (refine T_go rfl ?_; refine G_true (O_call rfl rfl rfl rfl (by assumption)) rfl ?_) <;> refine T_ch 1 rfl ?_ <;> apply T_nil) | (refine W_ops (id := 3) rfl ?_ <;> refine T_ch 2 rfl ?_ <;> (refine T_go rfl ?_; refine G_op (O_call rfl rfl rfl rfl (by assumption)) ?_) <;> refine T_ch 2 rfl ?_ <;> (refine T_go rfl ?_; refine G_false rfl rfl ?_) <;> refine T_ch 4 rfl ?_ <;> apply T_nil) | (refine W_ops (id := 4) rfl ?_ <;> refine T_ch 1 rfl ?_ <;> (refine T_go rfl ?_; refine G_op (O_call rfl rfl rfl rfl (by assumption)) ?_) <;> refine T_ch 1 rfl ?_ <;> apply T_nil) | (refine W_ops (id := 5) rfl ?_ <;> refine T_ch 1 rfl ?_ <;> (refine T_go rfl ?_; refine G_true rfl rfl ?_) <;> refine T_ch 6 rfl ?_ <;> (refine T_go rfl ?_; refine G_true rfl (by assumption) ?_) <;> refine T_ch 1 rfl ?_ <;> apply T_nil) | refine W_region (id := 6) rfl rfl ?_ | (refine W_ops (id := 7) rfl ?_ <;> refine T_ch 1 rfl ?_ <;> (refine T_go rfl ?_; refine G_true rfl rfl ?_) <;> apply T_nil) | (refine W_ops (id := 8) rfl ?_ <;> refine T_ch 2 rfl ?_ <;> (refine T_go rfl ?_; refine G_true rfl rfl ?_) <;> refine T_ch 7 rfl ?_ <;> (refine T_go rfl ?_; refine G_true rfl rfl ?_) <;> refine T_ch 2 rfl ?_ <;> (refine T_go rfl ?_; refine G_true (O_call rfl rfl rfl rfl (by assumption)) rfl ?_) <;> refine T_ch 2 rfl ?_ <;> apply T_nil) | apply W_skip | apply W_block | apply W_ret | apply W_exit | refine W_true rfl (by assumption) ?_ | refine W_false rfl (by assumption) ?_ | refine W_cond rfl (fun _ => ?_) (fun _ => ?_)))
      all_goals exact ⟨.inl rfl, rfl⟩
  · have hI := viaF (K := K + 1) (k := k) rfl rfl (inferP_bad p st hN (by omega) K (by omega) (K + 1) (by omega) hb h h.length) (by omega)
    rw [hf] at hF hI
    obtain ⟨w, vs, body⟩ := p
    apply W_call Try.func7 rfl (Nat.le_of_ble_eq_true rfl) rfl rfl
    (repeat' (first | apply W_seq | refine W_true rfl rfl ?_ | refine W_false rfl rfl ?_ | refine W_region (id := 0) rfl rfl ?_ | (refine W_ops (id := 1) rfl ?_ <;> refine T_ch 2 rfl ?_ <;> (refine T_go rfl ?_; refine G_true (O_call rfl rfl rfl rfl (by assumption)) rfl ?_) <;> refine T_ch 1 rfl ?_ <;> apply T_nil) | (refine W_ops (id := 3) rfl ?_ <;> refine T_ch 2 rfl ?_ <;> (refine T_go rfl ?_; refine G_op (O_call rfl rfl rfl rfl (by assumption)) ?_) <;> refine T_ch 2 rfl ?_ <;> (refine T_go rfl ?_; refine G_false rfl rfl ?_) <;> refine T_ch 4 rfl ?_ <;> apply T_nil) | (refine W_ops (id := 4) rfl ?_ <;> refine T_ch 1 rfl ?_ <;> (refine T_go rfl ?_; refine G_op (O_call rfl rfl rfl rfl (by assumption)) ?_) <;> refine T_ch 1 rfl ?_ <;> apply T_nil) | (refine W_ops (id := 5) rfl ?_ <;> refine T_ch 1 rfl ?_ <;> (refine T_go rfl ?_; refine G_false rfl rfl ?_) <;> refine T_ch 6 rfl ?_ <;> refine T_skip rfl ?_ <;> refine T_ch 1 rfl ?_ <;> apply T_nil) | (refine W_ops (id := 7) rfl ?_ <;> refine T_ch 1 rfl ?_ <;> (refine T_go rfl ?_; refine G_true rfl rfl ?_) <;> apply T_nil) | (refine W_ops (id := 8) rfl ?_ <;> refine T_ch 2 rfl ?_ <;> (refine T_go rfl ?_; refine G_true rfl rfl ?_) <;> refine T_ch 7 rfl ?_ <;> (refine T_go rfl ?_; refine G_true rfl rfl ?_) <;> refine T_ch 2 rfl ?_ <;> (refine T_go rfl ?_; refine G_true (O_call rfl rfl rfl rfl (by assumption)) rfl ?_) <;> refine T_ch 2 rfl ?_ <;> apply T_nil) | apply W_skip | apply W_block | apply W_ret | apply W_exit | refine W_true rfl (by assumption) ?_ | refine W_false rfl (by assumption) ?_ | refine W_cond rfl (fun _ => ?_) (fun _ => ?_)))
    all_goals exact ⟨.inl rfl, rfl⟩
  · have hI := viaF (K := K + 1) (k := k) rfl rfl (inferP_bad p st hN (by omega) K (by omega) (K + 1) (by omega) hb h h.length) (by omega)
    rw [hf] at hF hI
    obtain ⟨w, vs, body⟩ := p
    apply W_call Try.func7 rfl (Nat.le_of_ble_eq_true rfl) rfl rfl
    (repeat' (first | apply W_seq | refine W_true rfl rfl ?_ | refine W_false rfl rfl ?_ | refine W_region (id := 0) rfl rfl ?_ | (refine W_ops (id := 1) rfl ?_ <;> refine T_ch 2 rfl ?_ <;> (refine T_go rfl ?_; refine G_true (O_call rfl rfl rfl rfl (by assumption)) rfl ?_) <;> refine T_ch 1 rfl ?_ <;> apply T_nil) | (refine W_ops (id := 3) rfl ?_ <;> refine T_ch 2 rfl ?_ <;> (refine T_go rfl ?_; refine G_op (O_call rfl rfl rfl rfl (by assumption)) ?_) <;> refine T_ch 2 rfl ?_ <;> (refine T_go rfl ?_; refine G_false rfl rfl ?_) <;> refine T_ch 4 rfl ?_ <;> apply T_nil) | (refine W_ops (id := 4) rfl ?_ <;> refine T_ch 1 rfl ?_ <;> (refine T_go rfl ?_; refine G_op (O_call rfl rfl rfl rfl (by assumption)) ?_) <;> refine T_ch 1 rfl ?_ <;> apply T_nil) | (refine W_ops (id := 5) rfl ?_ <;> refine T_ch 1 rfl ?_ <;> (refine T_go rfl ?_; refine G_false rfl rfl ?_) <;> refine T_ch 6 rfl ?_ <;> refine T_skip rfl ?_ <;> refine T_ch 1 rfl ?_ <;> apply T_nil) | (refine W_ops (id := 7) rfl ?_ <;> refine T_ch 1 rfl ?_ <;> (refine T_go rfl ?_; refine G_true rfl rfl ?_) <;> apply T_nil) | (refine W_ops (id := 8) rfl ?_ <;> refine T_ch 2 rfl ?_ <;> (refine T_go rfl ?_; refine G_true rfl rfl ?_) <;> refine T_ch 7 rfl ?_ <;> (refine T_go rfl ?_; refine G_true rfl rfl ?_) <;> refine T_ch 2 rfl ?_ <;> (refine T_go rfl ?_; refine G_true (O_call rfl rfl rfl rfl (by assumption)) rfl ?_) <;> refine T_ch 2 rfl ?_ <;> apply T_nil) | apply W_skip | apply W_block | apply W_ret | apply W_exit | refine W_true rfl (by assumption) ?_ | refine W_false rfl (by assumption) ?_ | refine W_cond rfl (fun _ => ?_) (fun _ => ?_)))
    all_goals exact ⟨.inl rfl, rfl⟩
end Go.Proofs.Ytelobnllkhnpaaa.L
/- The law LevelMore. -/
open Go Go.Proofs Go.Ev Go.Proofs.Ytelobnllkhnpaaa.E
namespace Go.Proofs.Ytelobnllkhnpaaa.L
set_option linter.unusedVariables false
set_option linter.unusedSimpArgs false
set_option maxHeartbeats 2000000
set_option maxRecDepth 100000

theorem accV_len (A : List (List AV)) : lenOf (accV 3 A) = some A.length := by cases A <;> rfl
/-- Check, of a program that is one. -/
theorem check_good {p : Pr'} (hP : isP p = true) (hS : singleR p = true) (hN : smsN p.body ≤ 600) (k : Nat) (hk : smsK p.body + p.vars.length + 100 ≤ k) (hb : prB p) (h : Heap) (lo : Nat) :
    call Try.prog cfg (k + 1) lo (.func 19) [.agg (prC p)] h = some (.tup [accV 3 (fixRL (levs p) p.body 0 0), .int .i64 0], h) := by
  have hf : faultI p = 0 := by unfold faultI; rw [hP, hS]; rfl
  have := Fcheck_run p hN k hk hb (fun _ => vmL_rd (rows_vm _ (isP_rows hP))) h lo
  unfold chkFl at this
  rw [hf, if_pos rfl, flP_eq p (levs p) hP hN] at this
  exact this
/-- Relabel, with levels that may be. -/
theorem relabel_good {p : Pr'} (hP : isP p = true) (hS : singleR p = true) (hN : smsN p.body ≤ 600) {l : List Int} (hl : l.length = p.vars.length) (hF : lvsF l) (k : Nat) (hk : smsK p.body + p.vars.length + l.length + 100 ≤ k) (hK : smsK p.body ≤ 1000000) (hb : prB p) (h : Heap) (lo : Nat) :
    call Try.prog cfg (k + 1) lo (.func 26) [.agg (prC p), .vs 1 (intsC l)] h = some (.tup [.agg (prC (relP p l)), .int .i64 0], h) := by
  obtain ⟨_, hv1, hv2⟩ := isP_head hP
  have hf : faultI p = 0 := by unfold faultI; rw [hP, hS]; rfl
  have hc : chkI p = 0 := by rw [chk_eq p hN, hf]
  have := relabel_run p l k hk hK (fun _ => ⟨fun e => by rw [e] at hv1; simp at hv1, by omega⟩) (by omega) hb h lo
  unfold relabF at this
  rw [if_pos hc, if_pos (range_F hl hF)] at this
  exact this
theorem levs_relP {p : Pr'} {l : List Int} (hl : l.length = p.vars.length) : levs (relP p l) = l := levs_rel hl
def mreS (h : Heap) (p : Pr') (st : List Bool) (A last : AV) (i : Int) (_ : Unit) : St :=
  { env := [(1, .v (.vs 1 (boolsC st))), (2, .p 2 0), (5, .v A), (7, .v last), (10, .v (.int .i64 i))], loc := [(2, prC p)], heap := h, inRound := false, lo := h.length }
set_option maxHeartbeats 2000000 in
theorem levelMore_run (p : Pr') (st : List Bool) (K : Nat) (hK : K = smsK p.body + p.vars.length + st.length + 12000) (k : Nat) (hk : 5000 ≤ k) (hb : prB p) (hsl : st.length < 9223372036854775808) (h : Heap) (lo : Nat) :
    call Try.prog (cfgL K) (k + 1) lo (.func 9) [.agg (prC p), .vs 1 (boolsC st)] h = some (.bool true, h) := by
  obtain ⟨K, rfl⟩ : ∃ K', K = K' + 1 := ⟨K - 1, by omega⟩
  have hA := viaL (K := K + 1) (k := k) rfl rfl (awake_run (K + 1) h.length h (by omega)) (by omega)
  have h1 := viaL (K := K + 1) (k := k) rfl rfl (fitsS_run K h h.length p.body (by omega) hb.2.1 hb.2.2 600) (by omega)
  cases hf : fitsS p.body 600 with
  | false =>
    rw [hf] at h1
    obtain ⟨w, vs, body⟩ := p
    apply W_call Try.func9 rfl (Nat.le_of_ble_eq_true rfl) rfl rfl
    (repeat' (first | apply W_seq | refine W_true rfl rfl ?_ | refine W_false rfl rfl ?_ | refine W_region (id := 0) rfl rfl ?_ | (refine W_ops (id := 1) rfl ?_ <;> refine T_ch 2 rfl ?_ <;> (refine T_go rfl ?_; refine G_false (O_call rfl rfl rfl rfl (by assumption)) rfl ?_) <;> refine T_ch 3 rfl ?_ <;> refine T_skip rfl ?_ <;> refine T_skip rfl ?_ <;> refine T_ch 7 rfl ?_ <;> refine T_skip rfl ?_ <;> refine T_ch 1 rfl ?_ <;> apply T_nil) | (refine W_ops (id := 2) rfl ?_ <;> (refine T_go rfl ?_; refine G_true (O_call rfl rfl rfl rfl (by assumption)) rfl ?_) <;> refine T_ch 1 rfl ?_ <;> apply T_nil) | apply W_skip | apply W_block | apply W_ret | apply W_exit | refine W_true rfl (by assumption) ?_ | refine W_false rfl (by assumption) ?_ | refine W_cond rfl (fun _ => ?_) (fun _ => ?_)))
    all_goals exact ⟨.inl rfl, rfl⟩
  | true =>
  rw [hf] at h1
  have hfK := fits_K hf
  have hN : smsN p.body ≤ 600 := by
    rw [fitsS_eq _ _ (by omega) (by omega)] at hf
    have := of_decide_eq_true hf
    omega
  have hF := viaL (K := K + 1) (k := k) rfl rfl (fault_run p K (by omega) hb h h.length) (by omega)
  have hvl := vsC_len p.vars
  have hbl := boolsC_len st
  rcases faultI_cases p with ⟨hf, hP, hS⟩ | hf | hf
  · obtain ⟨_, hv1, hv2⟩ := isP_head hP
    rw [hf] at hF
    by_cases hst : st.length = p.vars.length
    · have hrows := isP_rows hP
      have hvm := rows_vm _ hrows
      have hB := levs_B hP hS
      have hne : (((boolsC st).length : Int) != ((vsC p.vars).length : Int)) = false := by rw [hvl, hbl, hst]; simp
      have hC := viaL (K := K + 1) (k := k) rfl rfl (check_good hP hS hN K (by omega) hb h h.length) (by omega)
      have hM := viaL (K := K + 1) (k := k) rfl rfl (movedP_run p hP hS hN K (by omega) hb h h.length) (by omega)
      have e1 : lastP p = lastR p := mvL_eq p.body (levs p) 0 hrows (levs_len p) hB lvB0
      have e2 : flsP p = (plsR p).flatMap flPl := by
        unfold flsP plsR
        rw [plL_eq p.body (levs p) 0 0 hrows (levs_len p) hB lvB0]
      rw [e1, e2] at hM
      have hlast := mvL_ok (mvR_ok p.vars p.vars.length) p.body (levs p) 0 (levs_len p) hB lvB0 hvm
      have hlast1 : (lastR p).length = p.vars.length := hlast.1
      have hlastB : lvsB (lastR p) := hlast.2
      have hmore := more_moved hP hS
      have hI := viaF (K := K + 1) (k := k) rfl rfl (inferP_run p st hP hS hst K (by omega) (K + 1) (by omega) (by omega) hN hb h h.length) (by omega)
      have hlf := lfp_ok (st := st) hP hS
      have hRl := viaL (K := K + 1) (k := k) rfl rfl (relabel_good hP hS hN hlf.len hlf.in15 K (by rw [hlf.len]; omega) (by omega) hb h h.length) (by omega)
      have hlq : (relP p (lfpR p st)).vars.length = p.vars.length := relV_len hlf.len
      have hCq := viaL (K := K + 1) (k := k) rfl rfl (check_good (isP_rel hP hlf.len hlf.in15) (singleR_rel hS hlf.in15) hN K (by show smsK p.body + (relP p (lfpR p st)).vars.length + 100 ≤ K; rw [hlq]; omega) (relP_B hb hlf.len) h h.length) (by omega)
      rw [levs_relP hlf.len] at hCq
      have hq0 : (relP p (lfpR p st)).body = p.body := rfl
      rw [hq0] at hCq
      have hne2 : (((intsC (lastR p)).length : Int) != ((vsC p.vars).length : Int)) = false := by rw [hvl, intsC_len, hlast1]; simp
      have hWn : ∀ i x, call Try.prog (cfgL (K + 1)) k h.length (.func 37) [.int .i64 i, .int .i64 x] h = some (.bool (withinB i x), h) := fun i x => viaL (K := K + 1) (k := k) rfl rfl (withinR_run i x K h.length h) (by omega)
      have hVc : infV p st = if fixRL (lfpR p st) p.body 0 0 = [] then (.vs 1 (intsC (lfpR p st)), true) else (.nils, false) := rfl
      generalize hfl : fixRL (levs p) p.body 0 0 = A at hC hmore
      generalize (plsR p).flatMap flPl = Bf at hM hmore
      generalize hql : relP p (lfpR p st) = q at hRl hCq
      generalize hG : fixRL (lfpR p st) p.body 0 0 = G at hCq hVc
      generalize infV p st = V at hI hVc
      have hlevs : ∀ i : Nat, ∀ v : Vr', p.vars[i]? = some v → (levs p).getD i 0 = v.level := fun i v hv => by
        unfold levs
        rw [List.getD_eq_getElem?_getD, List.getElem?_map, hv]; rfl
      generalize levs p = lv at *
      generalize lastR p = la at *
      generalize lfpR p st = lf at *
      obtain ⟨w, vs, body⟩ := p
      obtain ⟨w', vs', body'⟩ := q
      dsimp only at hlevs hlast1 hv1 hv2 hvl
      cases A with
      | nil =>
        obtain ⟨m1, m2⟩ := hmore rfl
        subst m2
        have hlB := hB
        apply W_call Try.func9 rfl (Nat.le_of_ble_eq_true rfl) rfl rfl
        (repeat' (first | apply W_seq | refine W_true rfl rfl ?_ | refine W_false rfl rfl ?_ | refine W_region (id := 0) rfl rfl ?_ | (refine W_ops (id := 1) rfl ?_ <;> refine T_ch 2 rfl ?_ <;> (refine T_go rfl ?_; refine G_true (O_call rfl rfl rfl rfl (by assumption)) rfl ?_) <;> refine T_ch 3 rfl ?_ <;> (refine T_go rfl ?_; refine G_op (O_call rfl rfl rfl rfl (by assumption)) ?_) <;> (refine T_go rfl ?_; refine G_false rfl rfl ?_) <;> refine T_ch 7 rfl ?_ <;> (refine T_go rfl ?_; refine G_false rfl (by assumption) ?_) <;> refine T_ch 1 rfl ?_ <;> apply T_nil) | (refine W_ops (id := 3) rfl ?_ <;> refine T_ch 1 rfl ?_ <;> (refine T_go rfl ?_; refine G_op (O_call rfl rfl rfl rfl (by assumption)) ?_) <;> refine T_ch 5 rfl ?_ <;> apply T_nil) | (refine W_ops (id := 4) rfl ?_ <;> refine T_ch 1 rfl ?_ <;> (refine T_go rfl ?_; refine G_op (O_call rfl rfl rfl rfl (by assumption)) ?_) <;> refine T_ch 7 rfl ?_ <;> apply T_nil) | (refine W_ops (id := 5) rfl ?_ <;> refine T_ch 1 rfl ?_ <;> (refine T_go rfl ?_; refine G_false rfl rfl ?_) <;> refine T_ch 2 rfl ?_ <;> (refine T_go rfl ?_; refine G_false rfl rfl ?_) <;> refine T_ch 7 rfl ?_ <;> (refine T_go rfl ?_; refine G_false rfl (by assumption) ?_) <;> refine T_ch 4 rfl ?_ <;> (refine T_go rfl ?_; refine G_true rfl rfl ?_) <;> refine T_ch 3 rfl ?_ <;> (refine T_go rfl ?_; refine G_false rfl rfl ?_) <;> refine T_ch 2 rfl ?_ <;> apply T_nil) | refine W_region (id := 7) rfl rfl ?_ | apply W_skip | apply W_block | apply W_ret | apply W_exit | refine W_true rfl (by assumption) ?_ | refine W_false rfl (by assumption) ?_ | refine W_cond rfl (fun _ => ?_) (fun _ => ?_)))
        apply W_iterI (S := mreS h ⟨w, vs, body⟩ st .nils (.vs 1 (intsC la))) (l := la) (a0 := ()) (fun _ _ _ => True) (by omega) (by omega) rfl trivial
        · intro i x rest _ hi hd hil _
          have hlt := lt_intsL hil
          have hrow := intsC_get' hi
          have hiv : i < vs.length := by omega
          have hv : vs[i]? = some vs[i] := List.getElem?_eq_getElem hiv
          have hrow2 := vsC_get hv
          have hle := m1.2 i
          rw [hlevs i _ hv, List.getD_eq_getElem?_getD, hi] at hle
          have hxB : lvB x := hlastB x (List.mem_of_getElem? hi)
          have hyB : lvB vs[i].level := by
            have := lvsB_getD hlB i
            rw [hlevs i _ hv] at this
            exact this
          have hW := hWn x vs[i].level
          rw [(within_iff hxB hyB).2 hle] at hW
          generalize vs[i] = y at *
          obtain ⟨nm, level, cells⟩ := y
          dsimp only at hW
          (repeat' (first | apply W_seq | refine W_true rfl rfl ?_ | refine W_false rfl rfl ?_ | (refine W_ops (id := 8) rfl ?_ <;> refine T_ch 3 rfl ?_ <;> (refine T_go rfl ?_; refine G_true rfl (by with_reducible assumption) ?_) <;> refine T_ch 3 rfl ?_ <;> (refine T_go rfl ?_; refine G_true rfl rfl ?_) <;> refine T_ch 1 rfl ?_ <;> apply T_nil) | refine W_region (id := 9) rfl rfl ?_ | (refine W_dops (id := 10) (bs := [0, 0, 3, 7, 0, 16, 0, 112, 240, 496, 1023, 2047]) rfl (by decide +kernel) ?_ <;> (refine U_go rfl ?_; refine H_free (by decide +kernel) rfl rfl rfl rfl rfl ?_) <;> (refine U_go rfl ?_; refine H_free (by decide +kernel) rfl rfl rfl rfl rfl ?_) <;> (refine U_go rfl ?_; refine H_free (by decide +kernel) rfl (O_index rfl rfl rfl rfl rfl (by assumption)) rfl rfl rfl ?_) <;> (refine U_go rfl ?_; refine H_free (by decide +kernel) rfl rfl rfl rfl rfl ?_) <;> (refine U_go rfl ?_; refine H_free (by decide +kernel) rfl rfl rfl rfl rfl ?_) <;> (refine U_go rfl ?_; refine H_free (by decide +kernel) rfl rfl rfl rfl rfl ?_) <;> (refine U_go rfl ?_; refine H_free (by decide +kernel) rfl rfl rfl rfl rfl ?_) <;> (refine U_go rfl ?_; refine H_free (by decide +kernel) rfl (O_index rfl rfl rfl rfl rfl (by assumption)) rfl rfl rfl ?_) <;> (refine U_go rfl ?_; refine H_free (by decide +kernel) rfl rfl rfl rfl rfl ?_) <;> (refine U_go rfl ?_; refine H_free (by decide +kernel) rfl rfl rfl rfl rfl ?_) <;> (refine U_go rfl ?_; refine H_true (by decide +kernel) (O_call rfl rfl rfl rfl (by assumption)) rfl ?_) <;> (refine U_go rfl ?_; refine H_op (by decide +kernel) rfl ?_) <;> apply U_nil) | apply W_skip | apply W_block | apply W_ret | apply W_exit | refine W_true rfl (by assumption) ?_ | refine W_false rfl (by assumption) ?_ | refine W_cond rfl (fun _ => ?_) (fun _ => ?_)))
          exact ⟨(), rfl, trivial⟩
        · intro _ _
          have hlt := ge_intsL (l := la)
          cases G with
          | nil =>
            rw [if_pos rfl] at hVc
            subst hVc
            (repeat' (first | apply W_seq | refine W_true rfl rfl ?_ | refine W_false rfl rfl ?_ | (refine W_ops (id := 8) rfl ?_ <;> refine T_ch 3 rfl ?_ <;> (refine T_go rfl ?_; refine G_false rfl (by with_reducible assumption) ?_) <;> refine T_ch 3 rfl ?_ <;> refine T_skip rfl ?_ <;> refine T_ch 1 rfl ?_ <;> apply T_nil) | (refine W_ops (id := 12) rfl ?_ <;> refine T_ch 2 rfl ?_ <;> (refine T_go rfl ?_; refine G_op (O_call rfl rfl rfl rfl (by assumption)) ?_) <;> refine T_ch 2 rfl ?_ <;> (refine T_go rfl ?_; refine G_true rfl rfl ?_) <;> refine T_ch 4 rfl ?_ <;> apply T_nil) | (refine W_ops (id := 13) rfl ?_ <;> refine T_ch 1 rfl ?_ <;> (refine T_go rfl ?_; refine G_false rfl rfl ?_) <;> refine T_ch 4 rfl ?_ <;> apply T_nil) | (refine W_ops (id := 15) rfl ?_ <;> refine T_ch 2 rfl ?_ <;> (refine T_go rfl ?_; refine G_op (O_call rfl rfl rfl rfl (by assumption)) ?_) <;> refine T_ch 6 rfl ?_ <;> apply T_nil) | (refine W_ops (id := 16) rfl ?_ <;> refine T_ch 1 rfl ?_ <;> (refine T_go rfl ?_; refine G_op (O_call rfl rfl rfl rfl (by assumption)) ?_) <;> refine T_ch 5 rfl ?_ <;> apply T_nil) | (refine W_ops (id := 17) rfl ?_ <;> refine T_ch 1 rfl ?_ <;> (refine T_go rfl ?_; refine G_true rfl rfl ?_) <;> refine T_ch 2 rfl ?_ <;> (refine T_go rfl ?_; refine G_true rfl rfl ?_) <;> refine T_ch 4 rfl ?_ <;> (refine T_go rfl ?_; refine G_true rfl rfl ?_) <;> refine T_ch 2 rfl ?_ <;> (refine T_go rfl ?_; refine G_true (O_call rfl rfl rfl rfl (by assumption)) rfl ?_) <;> refine T_ch 2 rfl ?_ <;> apply T_nil) | apply W_skip | apply W_block | apply W_ret | apply W_exit | refine W_true rfl (by assumption) ?_ | refine W_false rfl (by assumption) ?_ | refine W_cond rfl (fun _ => ?_) (fun _ => ?_)))
            all_goals exact ⟨.inl rfl, rfl⟩
          | cons g0 G =>
            rw [if_neg (by simp)] at hVc
            subst hVc
            (repeat' (first | apply W_seq | refine W_true rfl rfl ?_ | refine W_false rfl rfl ?_ | (refine W_ops (id := 8) rfl ?_ <;> refine T_ch 3 rfl ?_ <;> (refine T_go rfl ?_; refine G_false rfl (by with_reducible assumption) ?_) <;> refine T_ch 3 rfl ?_ <;> refine T_skip rfl ?_ <;> refine T_ch 1 rfl ?_ <;> apply T_nil) | (refine W_ops (id := 12) rfl ?_ <;> refine T_ch 2 rfl ?_ <;> (refine T_go rfl ?_; refine G_op (O_call rfl rfl rfl rfl (by assumption)) ?_) <;> refine T_ch 2 rfl ?_ <;> (refine T_go rfl ?_; refine G_false rfl rfl ?_) <;> refine T_ch 4 rfl ?_ <;> apply T_nil) | (refine W_ops (id := 13) rfl ?_ <;> refine T_ch 1 rfl ?_ <;> (refine T_go rfl ?_; refine G_false rfl rfl ?_) <;> refine T_ch 4 rfl ?_ <;> apply T_nil) | (refine W_ops (id := 14) rfl ?_ <;> refine T_ch 1 rfl ?_ <;> (refine T_go rfl ?_; refine G_true rfl rfl ?_) <;> refine T_ch 1 rfl ?_ <;> (refine T_go rfl ?_; refine G_true (O_call rfl rfl rfl rfl (by assumption)) rfl ?_) <;> refine T_ch 2 rfl ?_ <;> apply T_nil) | apply W_skip | apply W_block | apply W_ret | apply W_exit | refine W_true rfl (by assumption) ?_ | refine W_false rfl (by assumption) ?_ | refine W_cond rfl (fun _ => ?_) (fun _ => ?_)))
            all_goals exact ⟨.inl rfl, rfl⟩
      | cons a0 A =>
        have hn0 : ((((a0 :: A).length : Nat) : Int) == 0) = false := beq_eq_false_iff_ne.2 (by simp; omega)
        have hlt : decide (((([] : List Nat).length : Nat) : Int) < ((intsC la).length : Int)) = true := decide_eq_true (by rw [intsC_len]; simp; omega)
        apply W_call Try.func9 rfl (Nat.le_of_ble_eq_true rfl) rfl rfl
        (repeat' (first | apply W_seq | refine W_true rfl rfl ?_ | refine W_false rfl rfl ?_ | refine W_region (id := 0) rfl rfl ?_ | (refine W_ops (id := 1) rfl ?_ <;> refine T_ch 2 rfl ?_ <;> (refine T_go rfl ?_; refine G_true (O_call rfl rfl rfl rfl (by assumption)) rfl ?_) <;> refine T_ch 3 rfl ?_ <;> (refine T_go rfl ?_; refine G_op (O_call rfl rfl rfl rfl (by assumption)) ?_) <;> (refine T_go rfl ?_; refine G_false rfl rfl ?_) <;> refine T_ch 7 rfl ?_ <;> (refine T_go rfl ?_; refine G_false rfl (by assumption) ?_) <;> refine T_ch 1 rfl ?_ <;> apply T_nil) | (refine W_ops (id := 3) rfl ?_ <;> refine T_ch 1 rfl ?_ <;> (refine T_go rfl ?_; refine G_op (O_call rfl rfl rfl rfl (by assumption)) ?_) <;> refine T_ch 5 rfl ?_ <;> apply T_nil) | (refine W_ops (id := 4) rfl ?_ <;> refine T_ch 1 rfl ?_ <;> (refine T_go rfl ?_; refine G_op (O_call rfl rfl rfl rfl (by assumption)) ?_) <;> refine T_ch 7 rfl ?_ <;> apply T_nil) | (refine W_ops (id := 5) rfl ?_ <;> refine T_ch 1 rfl ?_ <;> (refine T_go rfl ?_; refine G_false rfl rfl ?_) <;> refine T_ch 2 rfl ?_ <;> (refine T_go rfl ?_; refine G_false rfl rfl ?_) <;> refine T_ch 7 rfl ?_ <;> (refine T_go rfl ?_; refine G_false rfl (by assumption) ?_) <;> refine T_ch 4 rfl ?_ <;> (refine T_go rfl ?_; refine G_false rfl rfl ?_) <;> refine T_ch 3 rfl ?_ <;> refine T_skip rfl ?_ <;> refine T_ch 2 rfl ?_ <;> apply T_nil) | refine W_region (id := 7) rfl rfl ?_ | apply W_skip | apply W_block | apply W_ret | apply W_exit | refine W_true rfl (by assumption) ?_ | refine W_false rfl (by assumption) ?_ | refine W_cond rfl (fun _ => ?_) (fun _ => ?_)))
        apply W_iter (S := mreS h ⟨w, vs, body⟩ st (.vs 3 (a0 :: A)) (.vs 1 (intsC la))) (l := ([] : List Nat)) (a0 := ()) (fun _ _ => True) (by simp) (by simp; omega) rfl trivial
        · intro i x rest _ hi; simp at hi
        · intro _ _
          cases G with
          | nil =>
            rw [if_pos rfl] at hVc
            subst hVc
            (repeat' (first | apply W_seq | refine W_true rfl rfl ?_ | refine W_false rfl rfl ?_ | (refine W_ops (id := 8) rfl ?_ <;> refine T_ch 3 rfl ?_ <;> (refine T_go rfl ?_; refine G_true rfl (by with_reducible assumption) ?_) <;> refine T_ch 3 rfl ?_ <;> (refine T_go rfl ?_; refine G_false rfl rfl ?_) <;> refine T_ch 1 rfl ?_ <;> apply T_nil) | (refine W_ops (id := 12) rfl ?_ <;> refine T_ch 2 rfl ?_ <;> (refine T_go rfl ?_; refine G_op (O_call rfl rfl rfl rfl (by assumption)) ?_) <;> refine T_ch 2 rfl ?_ <;> (refine T_go rfl ?_; refine G_true rfl rfl ?_) <;> refine T_ch 4 rfl ?_ <;> apply T_nil) | (refine W_ops (id := 13) rfl ?_ <;> refine T_ch 1 rfl ?_ <;> (refine T_go rfl ?_; refine G_false rfl rfl ?_) <;> refine T_ch 4 rfl ?_ <;> apply T_nil) | (refine W_ops (id := 15) rfl ?_ <;> refine T_ch 2 rfl ?_ <;> (refine T_go rfl ?_; refine G_op (O_call rfl rfl rfl rfl (by assumption)) ?_) <;> refine T_ch 6 rfl ?_ <;> apply T_nil) | (refine W_ops (id := 16) rfl ?_ <;> refine T_ch 1 rfl ?_ <;> (refine T_go rfl ?_; refine G_op (O_call rfl rfl rfl rfl (by assumption)) ?_) <;> refine T_ch 5 rfl ?_ <;> apply T_nil) | (refine W_ops (id := 17) rfl ?_ <;> refine T_ch 1 rfl ?_ <;> (refine T_go rfl ?_; refine G_true rfl rfl ?_) <;> refine T_ch 2 rfl ?_ <;> (refine T_go rfl ?_; refine G_true rfl rfl ?_) <;> refine T_ch 4 rfl ?_ <;> (refine T_go rfl ?_; refine G_true rfl rfl ?_) <;> refine T_ch 2 rfl ?_ <;> (refine T_go rfl ?_; refine G_true (O_call rfl rfl rfl rfl (by assumption)) rfl ?_) <;> refine T_ch 2 rfl ?_ <;> apply T_nil) | apply W_skip | apply W_block | apply W_ret | apply W_exit | refine W_true rfl (by assumption) ?_ | refine W_false rfl (by assumption) ?_ | refine W_cond rfl (fun _ => ?_) (fun _ => ?_)))
            all_goals exact ⟨.inl rfl, rfl⟩
          | cons g0 G =>
            rw [if_neg (by simp)] at hVc
            subst hVc
            (repeat' (first | apply W_seq | refine W_true rfl rfl ?_ | refine W_false rfl rfl ?_ | (refine W_ops (id := 8) rfl ?_ <;> refine T_ch 3 rfl ?_ <;> (refine T_go rfl ?_; refine G_true rfl (by with_reducible assumption) ?_) <;> refine T_ch 3 rfl ?_ <;> (refine T_go rfl ?_; refine G_false rfl rfl ?_) <;> refine T_ch 1 rfl ?_ <;> apply T_nil) | (refine W_ops (id := 12) rfl ?_ <;> refine T_ch 2 rfl ?_ <;> (refine T_go rfl ?_; refine G_op (O_call rfl rfl rfl rfl (by assumption)) ?_) <;> refine T_ch 2 rfl ?_ <;> (refine T_go rfl ?_; refine G_false rfl rfl ?_) <;> refine T_ch 4 rfl ?_ <;> apply T_nil) | (refine W_ops (id := 13) rfl ?_ <;> refine T_ch 1 rfl ?_ <;> (refine T_go rfl ?_; refine G_false rfl rfl ?_) <;> refine T_ch 4 rfl ?_ <;> apply T_nil) | (refine W_ops (id := 14) rfl ?_ <;> refine T_ch 1 rfl ?_ <;> (refine T_go rfl ?_; refine G_true rfl rfl ?_) <;> refine T_ch 1 rfl ?_ <;> (refine T_go rfl ?_; refine G_true (O_call rfl rfl rfl rfl (by assumption)) rfl ?_) <;> refine T_ch 2 rfl ?_ <;> apply T_nil) | apply W_skip | apply W_block | apply W_ret | apply W_exit | refine W_true rfl (by assumption) ?_ | refine W_false rfl (by assumption) ?_ | refine W_cond rfl (fun _ => ?_) (fun _ => ?_)))
            all_goals exact ⟨.inl rfl, rfl⟩
    · have hne : (((boolsC st).length : Int) != ((vsC p.vars).length : Int)) = true := by rw [hvl, hbl]; simp; omega
      obtain ⟨w, vs, body⟩ := p
      apply W_call Try.func9 rfl (Nat.le_of_ble_eq_true rfl) rfl rfl
      (repeat' (first | apply W_seq | refine W_true rfl rfl ?_ | refine W_false rfl rfl ?_ | refine W_region (id := 0) rfl rfl ?_ | (refine W_ops (id := 1) rfl ?_ <;> refine T_ch 2 rfl ?_ <;> (refine T_go rfl ?_; refine G_true (O_call rfl rfl rfl rfl (by assumption)) rfl ?_) <;> refine T_ch 3 rfl ?_ <;> (refine T_go rfl ?_; refine G_op (O_call rfl rfl rfl rfl (by assumption)) ?_) <;> (refine T_go rfl ?_; refine G_false rfl rfl ?_) <;> refine T_ch 7 rfl ?_ <;> (refine T_go rfl ?_; refine G_true rfl (by assumption) ?_) <;> refine T_ch 1 rfl ?_ <;> apply T_nil) | (refine W_ops (id := 2) rfl ?_ <;> (refine T_go rfl ?_; refine G_true (O_call rfl rfl rfl rfl (by assumption)) rfl ?_) <;> refine T_ch 1 rfl ?_ <;> apply T_nil) | apply W_skip | apply W_block | apply W_ret | apply W_exit | refine W_true rfl (by assumption) ?_ | refine W_false rfl (by assumption) ?_ | refine W_cond rfl (fun _ => ?_) (fun _ => ?_)))
      all_goals exact ⟨.inl rfl, rfl⟩
  · rw [hf] at hF
    obtain ⟨w, vs, body⟩ := p
    apply W_call Try.func9 rfl (Nat.le_of_ble_eq_true rfl) rfl rfl
    (repeat' (first | apply W_seq | refine W_true rfl rfl ?_ | refine W_false rfl rfl ?_ | refine W_region (id := 0) rfl rfl ?_ | (refine W_ops (id := 1) rfl ?_ <;> refine T_ch 2 rfl ?_ <;> (refine T_go rfl ?_; refine G_true (O_call rfl rfl rfl rfl (by assumption)) rfl ?_) <;> refine T_ch 3 rfl ?_ <;> (refine T_go rfl ?_; refine G_op (O_call rfl rfl rfl rfl (by assumption)) ?_) <;> (refine T_go rfl ?_; refine G_true rfl rfl ?_) <;> refine T_ch 7 rfl ?_ <;> refine T_skip rfl ?_ <;> refine T_ch 1 rfl ?_ <;> apply T_nil) | (refine W_ops (id := 2) rfl ?_ <;> (refine T_go rfl ?_; refine G_true (O_call rfl rfl rfl rfl (by assumption)) rfl ?_) <;> refine T_ch 1 rfl ?_ <;> apply T_nil) | apply W_skip | apply W_block | apply W_ret | apply W_exit | refine W_true rfl (by assumption) ?_ | refine W_false rfl (by assumption) ?_ | refine W_cond rfl (fun _ => ?_) (fun _ => ?_)))
    all_goals exact ⟨.inl rfl, rfl⟩
  · rw [hf] at hF
    obtain ⟨w, vs, body⟩ := p
    apply W_call Try.func9 rfl (Nat.le_of_ble_eq_true rfl) rfl rfl
    (repeat' (first | apply W_seq | refine W_true rfl rfl ?_ | refine W_false rfl rfl ?_ | refine W_region (id := 0) rfl rfl ?_ | (refine W_ops (id := 1) rfl ?_ <;> refine T_ch 2 rfl ?_ <;> (refine T_go rfl ?_; refine G_true (O_call rfl rfl rfl rfl (by assumption)) rfl ?_) <;> refine T_ch 3 rfl ?_ <;> (refine T_go rfl ?_; refine G_op (O_call rfl rfl rfl rfl (by assumption)) ?_) <;> (refine T_go rfl ?_; refine G_true rfl rfl ?_) <;> refine T_ch 7 rfl ?_ <;> refine T_skip rfl ?_ <;> refine T_ch 1 rfl ?_ <;> apply T_nil) | (refine W_ops (id := 2) rfl ?_ <;> (refine T_go rfl ?_; refine G_true (O_call rfl rfl rfl rfl (by assumption)) rfl ?_) <;> refine T_ch 1 rfl ?_ <;> apply T_nil) | apply W_skip | apply W_block | apply W_ret | apply W_exit | refine W_true rfl (by assumption) ?_ | refine W_false rfl (by assumption) ?_ | refine W_cond rfl (fun _ => ?_) (fun _ => ?_)))
    all_goals exact ⟨.inl rfl, rfl⟩
end Go.Proofs.Ytelobnllkhnpaaa.L
/- The law LevelLess. -/
open Go Go.Proofs Go.Ev Go.Proofs.Ytelobnllkhnpaaa.E
namespace Go.Proofs.Ytelobnllkhnpaaa.L
set_option linter.unusedVariables false
set_option linter.unusedSimpArgs false
set_option maxHeartbeats 2000000
set_option maxRecDepth 100000

theorem frz_one {s : St} {t id sz len T : Nat} {xs : List AV} {rows : List (List AV)} (hl : Go.Ev.look s.env t = some (.v (.sl id sz 0 len))) (hh : s.heap[id]? = some (.cells T xs)) (hc : s.lo ≤ id ∧ 0 + len * sz = xs.length ∧ xs.all static = true ∧ chunks sz len xs = rows) :
    frzSlots [t] s = { s with env := (t, .v (.vs sz rows)) :: s.env, heap := s.heap.set id .dead } := by
  obtain ⟨c1, c2, c3, c4⟩ := hc
  rw [frzSlots, frzSlots]
  unfold frzSlot
  rw [hl]
  dsimp only
  rw [hh]
  dsimp only
  rw [if_pos ⟨c1, c2, c3⟩, List.drop_zero, c4]
/-- A level without a bit. -/
def dI (x b : Int) : Int := IntKind.i64.wrap ((BitVec.ofInt 64 x) &&& ~~~(BitVec.ofInt 64 (IntKind.i64.wrap (1 * 2 ^ (min (IntKind.u64.wrap (b.tmod 4)).toNat IntKind.i64.bits))))).toNat
def dJ (x r : Int) : Int := IntKind.i64.wrap ((BitVec.ofInt 64 x) &&& ~~~(BitVec.ofInt 64 (IntKind.i64.wrap (1 * 2 ^ (min (IntKind.u64.wrap r).toNat IntKind.i64.bits))))).toNat
theorem dJ_all : ∀ x : Fin 16, ∀ r : Fin 7, 0 ≤ dJ x.val (r.val - 3) ∧ dJ x.val (r.val - 3) < 16 ∧ orI (dJ x.val (r.val - 3)) x.val = x.val := by decide +kernel
theorem u64_ge : ∀ r : Fin 7, 0 ≤ IntKind.u64.wrap (r.val - 3 : Int) := by decide +kernel
theorem tmod4 (b : Int) : -3 ≤ b.tmod 4 ∧ b.tmod 4 ≤ 3 := by
  rw [Int.tmod_eq_emod]
  split <;> omega
theorem dI_F {x : Int} (hx : lvF x) (b : Int) : lvF (dI x b) ∧ leI (dI x b) x := by
  have h := tmod4 b
  have := dJ_all ⟨x.toNat, by have := hx.1; have := hx.2; omega⟩ ⟨(b.tmod 4 + 3).toNat, by omega⟩
  dsimp only at this
  rw [Int.toNat_of_nonneg hx.1, Int.toNat_of_nonneg (by omega), show b.tmod 4 + 3 - 3 = b.tmod 4 by omega] at this
  exact ⟨⟨this.1, this.2.1⟩, this.2.2⟩
theorem u64_tmod (b : Int) : 0 ≤ IntKind.u64.wrap (b.tmod 4) := by
  have h := tmod4 b
  have := u64_ge ⟨(b.tmod 4 + 3).toNat, by omega⟩
  dsimp only at this
  rw [Int.toNat_of_nonneg (by omega), show b.tmod 4 + 3 - 3 = b.tmod 4 by omega] at this
  exact this
set_option maxHeartbeats 4000000 in
theorem levelLess_run (p : Pr') (st : List Bool) (v b : Int) (K : Nat) (hK : K = smsK p.body + p.vars.length + st.length + 12000) (k : Nat) (hk : 5000 ≤ k) (hb : prB p) (hsl : st.length < 9223372036854775808) (h : Heap) (lo : Nat) :
    call Try.prog (cfgL K) (k + 1) lo (.func 10) [.agg (prC p), .vs 1 (boolsC st), .int .i64 v, .int .u8 b] h = some (.bool true, h) := by
  obtain ⟨K, rfl⟩ : ∃ K', K = K' + 1 := ⟨K - 1, by omega⟩
  have hA := viaL (K := K + 1) (k := k) rfl rfl (awake_run (K + 1) h.length h (by omega)) (by omega)
  have h1 := viaL (K := K + 1) (k := k) rfl rfl (fitsS_run K h h.length p.body (by omega) hb.2.1 hb.2.2 600) (by omega)
  cases hf : fitsS p.body 600 with
  | false =>
    rw [hf] at h1
    obtain ⟨w, vs, body⟩ := p
    apply W_call Try.func10 rfl (Nat.le_of_ble_eq_true rfl) rfl rfl
    (repeat' (first | apply W_seq | refine W_true rfl rfl ?_ | refine W_false rfl rfl ?_ | refine W_region (id := 0) rfl rfl ?_ | (refine W_ops (id := 1) rfl ?_ <;> refine T_ch 2 rfl ?_ <;> (refine T_go rfl ?_; refine G_false (O_call rfl rfl rfl rfl (by assumption)) rfl ?_) <;> refine T_ch 3 rfl ?_ <;> refine T_skip rfl ?_ <;> refine T_skip rfl ?_ <;> refine T_ch 7 rfl ?_ <;> refine T_skip rfl ?_ <;> refine T_ch 3 rfl ?_ <;> refine T_skip rfl ?_ <;> refine T_ch 6 rfl ?_ <;> refine T_skip rfl ?_ <;> refine T_ch 4 rfl ?_ <;> refine T_skip rfl ?_ <;> refine T_skip rfl ?_ <;> refine T_ch 1 rfl ?_ <;> apply T_nil) | (refine W_ops (id := 2) rfl ?_ <;> (refine T_go rfl ?_; refine G_true (O_call rfl rfl rfl rfl (by assumption)) rfl ?_) <;> refine T_ch 1 rfl ?_ <;> apply T_nil) | apply W_skip | apply W_block | apply W_ret | apply W_exit | refine W_true rfl (by assumption) ?_ | refine W_false rfl (by assumption) ?_ | refine W_cond rfl (fun _ => ?_) (fun _ => ?_)))
    all_goals exact ⟨.inl rfl, rfl⟩
  | true =>
  rw [hf] at h1
  have hfK := fits_K hf
  have hN : smsN p.body ≤ 600 := by
    rw [fitsS_eq _ _ (by omega) (by omega)] at hf
    have := of_decide_eq_true hf
    omega
  have hF := viaL (K := K + 1) (k := k) rfl rfl (fault_run p K (by omega) hb h h.length) (by omega)
  have hvl := vsC_len p.vars
  have hbl := boolsC_len st
  rcases faultI_cases p with ⟨hf, hP, hS⟩ | hf | hf
  · obtain ⟨_, hv1, hv2⟩ := isP_head hP
    rw [hf] at hF
    by_cases hst : st.length = p.vars.length
    · have hne : (((boolsC st).length : Int) != ((vsC p.vars).length : Int)) = false := by rw [hvl, hbl, hst]; simp
      by_cases hv0 : v < 0
      · have d0 : decide (v < 0) = true := decide_eq_true hv0
        obtain ⟨w, vs, body⟩ := p
        apply W_call Try.func10 rfl (Nat.le_of_ble_eq_true rfl) rfl rfl
        (repeat' (first | apply W_seq | refine W_true rfl rfl ?_ | refine W_false rfl rfl ?_ | refine W_region (id := 0) rfl rfl ?_ | (refine W_ops (id := 1) rfl ?_ <;> refine T_ch 2 rfl ?_ <;> (refine T_go rfl ?_; refine G_true (O_call rfl rfl rfl rfl (by assumption)) rfl ?_) <;> refine T_ch 3 rfl ?_ <;> (refine T_go rfl ?_; refine G_op (O_call rfl rfl rfl rfl (by assumption)) ?_) <;> (refine T_go rfl ?_; refine G_false rfl rfl ?_) <;> refine T_ch 7 rfl ?_ <;> (refine T_go rfl ?_; refine G_false rfl (by assumption) ?_) <;> refine T_ch 3 rfl ?_ <;> (refine T_go rfl ?_; refine G_true rfl (by with_reducible assumption) ?_) <;> refine T_ch 6 rfl ?_ <;> refine T_skip rfl ?_ <;> refine T_ch 4 rfl ?_ <;> refine T_skip rfl ?_ <;> refine T_skip rfl ?_ <;> refine T_ch 1 rfl ?_ <;> apply T_nil) | (refine W_ops (id := 2) rfl ?_ <;> (refine T_go rfl ?_; refine G_true (O_call rfl rfl rfl rfl (by assumption)) rfl ?_) <;> refine T_ch 1 rfl ?_ <;> apply T_nil) | apply W_skip | apply W_block | apply W_ret | apply W_exit | refine W_true rfl (by assumption) ?_ | refine W_false rfl (by assumption) ?_ | refine W_cond rfl (fun _ => ?_) (fun _ => ?_)))
        all_goals exact ⟨.inl rfl, rfl⟩
      have d0 : decide (v < 0) = false := decide_eq_false hv0
      by_cases hvm : v ≥ p.vars.length
      · have d1 : decide (v ≥ ((vsC p.vars).length : Int)) = true := decide_eq_true (by rw [hvl]; exact hvm)
        obtain ⟨w, vs, body⟩ := p
        apply W_call Try.func10 rfl (Nat.le_of_ble_eq_true rfl) rfl rfl
        (repeat' (first | apply W_seq | refine W_true rfl rfl ?_ | refine W_false rfl rfl ?_ | refine W_region (id := 0) rfl rfl ?_ | (refine W_ops (id := 1) rfl ?_ <;> refine T_ch 2 rfl ?_ <;> (refine T_go rfl ?_; refine G_true (O_call rfl rfl rfl rfl (by assumption)) rfl ?_) <;> refine T_ch 3 rfl ?_ <;> (refine T_go rfl ?_; refine G_op (O_call rfl rfl rfl rfl (by assumption)) ?_) <;> (refine T_go rfl ?_; refine G_false rfl rfl ?_) <;> refine T_ch 7 rfl ?_ <;> (refine T_go rfl ?_; refine G_false rfl (by assumption) ?_) <;> refine T_ch 3 rfl ?_ <;> (refine T_go rfl ?_; refine G_false rfl (by with_reducible assumption) ?_) <;> refine T_ch 6 rfl ?_ <;> (refine T_go rfl ?_; refine G_true rfl (by assumption) ?_) <;> refine T_ch 4 rfl ?_ <;> refine T_skip rfl ?_ <;> refine T_skip rfl ?_ <;> refine T_ch 1 rfl ?_ <;> apply T_nil) | (refine W_ops (id := 2) rfl ?_ <;> (refine T_go rfl ?_; refine G_true (O_call rfl rfl rfl rfl (by assumption)) rfl ?_) <;> refine T_ch 1 rfl ?_ <;> apply T_nil) | apply W_skip | apply W_block | apply W_ret | apply W_exit | refine W_true rfl (by assumption) ?_ | refine W_false rfl (by assumption) ?_ | refine W_cond rfl (fun _ => ?_) (fun _ => ?_)))
        all_goals exact ⟨.inl rfl, rfl⟩
      have d1 : decide (v ≥ ((vsC p.vars).length : Int)) = false := decide_eq_false (by rw [hvl]; exact hvm)
      have hsb := boolsC_at (l := st) (n := v) (by omega)
      cases hsv : st.getD v.toNat false with
      | true =>
        rw [hsv] at hsb
        obtain ⟨w, vs, body⟩ := p
        apply W_call Try.func10 rfl (Nat.le_of_ble_eq_true rfl) rfl rfl
        (repeat' (first | apply W_seq | refine W_true rfl rfl ?_ | refine W_false rfl rfl ?_ | refine W_region (id := 0) rfl rfl ?_ | (refine W_ops (id := 1) rfl ?_ <;> refine T_ch 2 rfl ?_ <;> (refine T_go rfl ?_; refine G_true (O_call rfl rfl rfl rfl (by assumption)) rfl ?_) <;> refine T_ch 3 rfl ?_ <;> (refine T_go rfl ?_; refine G_op (O_call rfl rfl rfl rfl (by assumption)) ?_) <;> (refine T_go rfl ?_; refine G_false rfl rfl ?_) <;> refine T_ch 7 rfl ?_ <;> (refine T_go rfl ?_; refine G_false rfl (by assumption) ?_) <;> refine T_ch 3 rfl ?_ <;> (refine T_go rfl ?_; refine G_false rfl (by with_reducible assumption) ?_) <;> refine T_ch 6 rfl ?_ <;> (refine T_go rfl ?_; refine G_false rfl (by assumption) ?_) <;> refine T_ch 4 rfl ?_ <;> (refine T_go rfl ?_; refine G_op (O_indexI rfl rfl rfl rfl rfl (by assumption)) ?_) <;> (refine T_go rfl ?_; refine G_true rfl rfl ?_) <;> refine T_ch 1 rfl ?_ <;> apply T_nil) | (refine W_ops (id := 2) rfl ?_ <;> (refine T_go rfl ?_; refine G_true (O_call rfl rfl rfl rfl (by assumption)) rfl ?_) <;> refine T_ch 1 rfl ?_ <;> apply T_nil) | apply W_skip | apply W_block | apply W_ret | apply W_exit | refine W_true rfl (by assumption) ?_ | refine W_false rfl (by assumption) ?_ | refine W_cond rfl (fun _ => ?_) (fun _ => ?_)))
        all_goals exact ⟨.inl rfl, rfl⟩
      | false =>
      rw [hsv] at hsb
      have hI := viaF (K := K + 1) (k := k) rfl rfl (inferP_run p st hP hS hst K (by omega) (K + 1) (by omega) (by omega) hN hb h h.length) (by omega)
      have hlf := lfp_ok (st := st) hP hS
      have hVc : infV p st = if fixRL (lfpR p st) p.body 0 0 = [] then (.vs 1 (intsC (lfpR p st)), true) else (.nils, false) := rfl
      by_cases hG : fixRL (lfpR p st) p.body 0 0 = []
      · rw [if_pos hG] at hVc
        rw [hVc] at hI
        have hless := fun d (hd : lvF d) => less_flows hP hS hst (v := v.toNat) (by omega) hsv hd
        have hlen := hlf.len
        have hlF := hlf.in15
        generalize lfpR p st = l at *
        have hlv := lvsF_getD hlF v.toNat
        obtain ⟨dF, dle⟩ := dI_F hlv b
        have hj : 0 ≤ v ∧ v.toNat < l.length := ⟨by omega, by omega⟩
        have hne0 : l ≠ [] := fun e => by subst e; simp at hlen; omega
        have hcp := viaL (K := K + 1) (k := k) rfl rfl (wcopy_run l (by omega) K (by omega) h h.length (Nat.le_refl _)) (by omega)
        rw [intsC_accA hne0, intsC_accH hne0] at hcp
        have hl2 : (((intsC l).length : Int) != ((vsC p.vars).length : Int)) = false := by rw [hvl, intsC_len, hlen]; simp
        have hu := u64_tmod b
        have g1 : (h ++ [HObj.cells 3 (ic l)])[h.length]? = some (.cells 3 (ic l)) := by simp
        have l1 : 0 + l.length * 1 = (ic l).length := by rw [ic_len]; omega
        have p1 : (ic l)[0 + v.toNat * 1]? = some (.int .i64 (l.getD v.toNat 0)) := by
          rw [show 0 + v.toNat * 1 = v.toNat by omega]
          refine ic_get ?_
          rw [List.getD_eq_getElem?_getD, List.getElem?_eq_getElem hj.2]; rfl
        have hs : h.length ≤ h.length ∧ (ic l).length = (ic l).length ∧ 1 = 1 ∧ (0 + v.toNat * 1) + 1 ≤ (ic l).length := ⟨Nat.le_refl _, rfl, rfl, by rw [ic_len]; omega⟩
        have hZ : setCells (ic l) (0 + v.toNat * 1) [.int .i64 (dI (l.getD v.toNat 0) b)] = ic (l.set v.toNat (dI (l.getD v.toNat 0) b)) := by rw [show 0 + v.toNat * 1 = v.toNat by omega, ic_set _ hj.2]
        have g2 : ((h ++ [HObj.cells 3 (ic l)]).set h.length (.cells 3 (setCells (ic l) (0 + v.toNat * 1) [.int .i64 (dI (l.getD v.toNat 0) b)])))[h.length]? = some (.cells 3 (setCells (ic l) (0 + v.toNat * 1) [.int .i64 (dI (l.getD v.toNat 0) b)])) := List.getElem?_set_self (by simp)
        have l2 : 0 + l.length * 1 = (setCells (ic l) (0 + v.toNat * 1) [.int .i64 (dI (l.getD v.toNat 0) b)]).length := by rw [hZ, ic_len, List.length_set]; omega
        have p2 : (setCells (ic l) (0 + v.toNat * 1) [.int .i64 (dI (l.getD v.toNat 0) b)])[0 + v.toNat * 1]? = some (.int .i64 (dI (l.getD v.toNat 0) b)) := by
          rw [hZ, show 0 + v.toNat * 1 = v.toNat by omega]
          exact ic_get (List.getElem?_set_self hj.2)
        have hr2 := intsC_at (l := l) (n := v) ⟨by omega, by omega⟩
        by_cases he : dI (l.getD v.toNat 0) b = l.getD v.toNat 0
        · have ce : (dI (l.getD v.toNat 0) b == l.getD v.toNat 0) = true := beq_iff_eq.2 he
          have hA2 := viaL (K := K + 1) (k := k) rfl rfl (awake_run (K + 1) h.length ((h ++ [HObj.cells 3 (ic l)]).set h.length (.cells 3 (setCells (ic l) (0 + v.toNat * 1) [.int .i64 (dI (l.getD v.toNat 0) b)]))) (by omega)) (by omega)
          clear hless hVc hlf hZ
          obtain ⟨w, vs, body⟩ := p
          apply W_call Try.func10 rfl (Nat.le_of_ble_eq_true rfl) rfl rfl
          (repeat' (first | apply W_seq | refine W_true rfl rfl ?_ | refine W_false rfl rfl ?_ | refine W_region (id := 0) rfl rfl ?_ | (refine W_ops (id := 1) rfl ?_ <;> refine T_ch 2 rfl ?_ <;> (refine T_go rfl ?_; refine G_true (O_call rfl rfl rfl rfl (by assumption)) rfl ?_) <;> refine T_ch 3 rfl ?_ <;> (refine T_go rfl ?_; refine G_op (O_call rfl rfl rfl rfl (by assumption)) ?_) <;> (refine T_go rfl ?_; refine G_false rfl rfl ?_) <;> refine T_ch 7 rfl ?_ <;> (refine T_go rfl ?_; refine G_false rfl (by assumption) ?_) <;> refine T_ch 3 rfl ?_ <;> (refine T_go rfl ?_; refine G_false rfl (by with_reducible assumption) ?_) <;> refine T_ch 6 rfl ?_ <;> (refine T_go rfl ?_; refine G_false rfl (by assumption) ?_) <;> refine T_ch 4 rfl ?_ <;> (refine T_go rfl ?_; refine G_op (O_indexI rfl rfl rfl rfl rfl (by assumption)) ?_) <;> (refine T_go rfl ?_; refine G_false rfl rfl ?_) <;> refine T_ch 1 rfl ?_ <;> apply T_nil) | (refine W_ops (id := 3) rfl ?_ <;> refine T_ch 2 rfl ?_ <;> (refine T_go rfl ?_; refine G_op (O_call rfl rfl rfl rfl (by assumption)) ?_) <;> refine T_ch 2 rfl ?_ <;> (refine T_go rfl ?_; refine G_true rfl rfl ?_) <;> refine T_ch 4 rfl ?_ <;> apply T_nil) | (refine W_ops (id := 4) rfl ?_ <;> refine T_ch 1 rfl ?_ <;> (refine T_go rfl ?_; refine G_false rfl rfl ?_) <;> refine T_ch 10 rfl ?_ <;> (refine T_go rfl ?_; refine G_false rfl (by assumption) ?_) <;> refine T_ch 1 rfl ?_ <;> apply T_nil) | (refine W_ops (id := 6) rfl ?_ <;> refine T_ch 1 rfl ?_ <;> (refine T_go rfl ?_; refine G_op (O_call rfl rfl rfl rfl (by assumption)) ?_) <;> refine T_ch 1 rfl ?_ <;> apply T_nil) | (refine W_ops (id := 7) rfl ?_ <;> refine T_ch 4 rfl ?_ <;> (refine T_go rfl ?_; refine G_op (O_indexHI rfl rfl rfl rfl rfl (by assumption) (by assumption) (by assumption)) ?_) <;> (refine T_go rfl ?_; refine G_op (O_loadH rfl rfl rfl (by assumption) rfl (by assumption)) ?_) <;> refine T_ch 3 rfl ?_ <;> (refine T_go rfl ?_; refine G_op (O_shl rfl rfl rfl (by assumption)) ?_) <;> refine T_ch 1 rfl ?_ <;> (refine T_go rfl ?_; refine G_op (O_indexHI rfl rfl rfl rfl rfl (by assumption) (by assumption) (by assumption)) ?_) <;> (refine T_go rfl ?_; refine G_op (O_storeH rfl rfl rfl rfl (by assumption) (by assumption)) ?_) <;> apply T_nil) | (refine W_dops (id := 8) (bs := [0, 0, 3, 7, 0, 0, 48, 112, 255]) rfl (by decide +kernel) ?_ <;> (refine U_go rfl ?_; refine H_free (by decide +kernel) rfl rfl rfl rfl rfl ?_) <;> (refine U_go rfl ?_; refine H_free (by decide +kernel) rfl rfl rfl rfl rfl ?_) <;> (refine U_go rfl ?_; refine H_free (by decide +kernel) rfl (O_indexHI rfl rfl rfl rfl rfl (by assumption) (by assumption) (by assumption)) rfl rfl rfl ?_) <;> (refine U_go rfl ?_; refine H_free (by decide +kernel) rfl (O_loadH rfl rfl rfl (by assumption) rfl (by assumption)) rfl rfl rfl ?_) <;> (refine U_go rfl ?_; refine H_free (by decide +kernel) rfl rfl rfl rfl rfl ?_) <;> (refine U_go rfl ?_; refine H_free (by decide +kernel) rfl rfl rfl rfl rfl ?_) <;> (refine U_go rfl ?_; refine H_free (by decide +kernel) rfl (O_indexI rfl rfl rfl rfl rfl (by assumption)) rfl rfl rfl ?_) <;> (refine U_go rfl ?_; refine H_free (by decide +kernel) rfl rfl rfl rfl rfl ?_) <;> (refine U_go rfl ?_; refine H_true (by decide +kernel) rfl (by with_reducible assumption) ?_) <;> apply U_nil) | (refine W_ops (id := 9) rfl ?_ <;> (refine T_go rfl ?_; refine G_true (O_call rfl rfl rfl rfl (by assumption)) rfl ?_) <;> refine T_ch 1 rfl ?_ <;> apply T_nil) | apply W_skip | apply W_block | apply W_ret | apply W_exit | refine W_true rfl (by assumption) ?_ | refine W_false rfl (by assumption) ?_ | refine W_cond rfl (fun _ => ?_) (fun _ => ?_)))
          all_goals exact ⟨.inl rfl, rfl⟩
        · have ce : (dI (l.getD v.toNat 0) b == l.getD v.toNat 0) = false := beq_eq_false_iff_ne.2 he
          have hnf := hless _ dF dle he
          have hc4 : h.length ≤ h.length ∧ 0 + l.length * 1 = (setCells (ic l) (0 + v.toNat * 1) [.int .i64 (dI (l.getD v.toNat 0) b)]).length ∧ (setCells (ic l) (0 + v.toNat * 1) [.int .i64 (dI (l.getD v.toNat 0) b)]).all static = true ∧ chunks 1 l.length (setCells (ic l) (0 + v.toNat * 1) [.int .i64 (dI (l.getD v.toNat 0) b)]) = intsC (l.set v.toNat (dI (l.getD v.toNat 0) b)) := by
            refine ⟨Nat.le_refl _, l2, by rw [hZ]; exact ic_static _, ?_⟩
            have := chunks_ic (l.set v.toNat (dI (l.getD v.toNat 0) b))
            rw [List.length_set] at this
            rw [hZ, this]
          have hl3 : (l.set v.toNat (dI (l.getD v.toNat 0) b)).length = p.vars.length := by simpa using hlen
          have hF3 := lvsF_set hlF dF v.toNat
          have hRl := viaL (K := K + 1) (k := k) rfl rfl (relabel_good hP hS hN hl3 hF3 K (by rw [hl3]; omega) (by omega) hb (((h ++ [HObj.cells 3 (ic l)]).set h.length (.cells 3 (setCells (ic l) (0 + v.toNat * 1) [.int .i64 (dI (l.getD v.toNat 0) b)]))).set h.length .dead) h.length) (by omega)
          have hlq : (relP p (l.set v.toNat (dI (l.getD v.toNat 0) b))).vars.length = p.vars.length := relV_len hl3
          have hCq := viaL (K := K + 1) (k := k) rfl rfl (check_good (isP_rel hP hl3 hF3) (singleR_rel hS hF3) hN K (by show smsK p.body + (relP p (l.set v.toNat (dI (l.getD v.toNat 0) b))).vars.length + 100 ≤ K; rw [hlq]; omega) (relP_B hb hl3) (((h ++ [HObj.cells 3 (ic l)]).set h.length (.cells 3 (setCells (ic l) (0 + v.toNat * 1) [.int .i64 (dI (l.getD v.toNat 0) b)]))).set h.length .dead) h.length) (by omega)
          rw [levs_relP hl3] at hCq
          have hq0 : (relP p (l.set v.toNat (dI (l.getD v.toNat 0) b))).body = p.body := rfl
          rw [hq0] at hCq
          generalize fixRL (l.set v.toNat (dI (l.getD v.toNat 0) b)) p.body 0 0 = R at hCq hnf
          generalize relP p (l.set v.toNat (dI (l.getD v.toNat 0) b)) = q at hRl hCq
          cases R with
          | nil => exact absurd rfl hnf
          | cons r R =>
          have hA2 := viaL (K := K + 1) (k := k) rfl rfl (awake_run (K + 1) h.length (((h ++ [HObj.cells 3 (ic l)]).set h.length (.cells 3 (setCells (ic l) (0 + v.toNat * 1) [.int .i64 (dI (l.getD v.toNat 0) b)]))).set h.length .dead) (by omega)) (by omega)
          have hgt : decide ((((r :: R).length : Nat) : Int) > 0) = true := decide_eq_true (by simp)
          clear hless hVc hlf hZ
          obtain ⟨w, vs, body⟩ := p
          obtain ⟨w', vs', body'⟩ := q
          apply W_call Try.func10 rfl (Nat.le_of_ble_eq_true rfl) rfl rfl
          (repeat' (first | apply W_seq | refine W_true rfl rfl ?_ | refine W_false rfl rfl ?_ | refine W_region (id := 0) rfl rfl ?_ | (refine W_ops (id := 1) rfl ?_ <;> refine T_ch 2 rfl ?_ <;> (refine T_go rfl ?_; refine G_true (O_call rfl rfl rfl rfl (by assumption)) rfl ?_) <;> refine T_ch 3 rfl ?_ <;> (refine T_go rfl ?_; refine G_op (O_call rfl rfl rfl rfl (by assumption)) ?_) <;> (refine T_go rfl ?_; refine G_false rfl rfl ?_) <;> refine T_ch 7 rfl ?_ <;> (refine T_go rfl ?_; refine G_false rfl (by assumption) ?_) <;> refine T_ch 3 rfl ?_ <;> (refine T_go rfl ?_; refine G_false rfl (by with_reducible assumption) ?_) <;> refine T_ch 6 rfl ?_ <;> (refine T_go rfl ?_; refine G_false rfl (by assumption) ?_) <;> refine T_ch 4 rfl ?_ <;> (refine T_go rfl ?_; refine G_op (O_indexI rfl rfl rfl rfl rfl (by assumption)) ?_) <;> (refine T_go rfl ?_; refine G_false rfl rfl ?_) <;> refine T_ch 1 rfl ?_ <;> apply T_nil) | (refine W_ops (id := 3) rfl ?_ <;> refine T_ch 2 rfl ?_ <;> (refine T_go rfl ?_; refine G_op (O_call rfl rfl rfl rfl (by assumption)) ?_) <;> refine T_ch 2 rfl ?_ <;> (refine T_go rfl ?_; refine G_true rfl rfl ?_) <;> refine T_ch 4 rfl ?_ <;> apply T_nil) | (refine W_ops (id := 4) rfl ?_ <;> refine T_ch 1 rfl ?_ <;> (refine T_go rfl ?_; refine G_false rfl rfl ?_) <;> refine T_ch 10 rfl ?_ <;> (refine T_go rfl ?_; refine G_false rfl (by assumption) ?_) <;> refine T_ch 1 rfl ?_ <;> apply T_nil) | (refine W_ops (id := 6) rfl ?_ <;> refine T_ch 1 rfl ?_ <;> (refine T_go rfl ?_; refine G_op (O_call rfl rfl rfl rfl (by assumption)) ?_) <;> refine T_ch 1 rfl ?_ <;> apply T_nil) | (refine W_ops (id := 7) rfl ?_ <;> refine T_ch 4 rfl ?_ <;> (refine T_go rfl ?_; refine G_op (O_indexHI rfl rfl rfl rfl rfl (by assumption) (by assumption) (by assumption)) ?_) <;> (refine T_go rfl ?_; refine G_op (O_loadH rfl rfl rfl (by assumption) rfl (by assumption)) ?_) <;> refine T_ch 3 rfl ?_ <;> (refine T_go rfl ?_; refine G_op (O_shl rfl rfl rfl (by assumption)) ?_) <;> refine T_ch 1 rfl ?_ <;> (refine T_go rfl ?_; refine G_op (O_indexHI rfl rfl rfl rfl rfl (by assumption) (by assumption) (by assumption)) ?_) <;> (refine T_go rfl ?_; refine G_op (O_storeH rfl rfl rfl rfl (by assumption) (by assumption)) ?_) <;> apply T_nil) | (refine W_dops (id := 8) (bs := [0, 0, 3, 7, 0, 0, 48, 112, 255]) rfl (by decide +kernel) ?_ <;> (refine U_go rfl ?_; refine H_free (by decide +kernel) rfl rfl rfl rfl rfl ?_) <;> (refine U_go rfl ?_; refine H_free (by decide +kernel) rfl rfl rfl rfl rfl ?_) <;> (refine U_go rfl ?_; refine H_free (by decide +kernel) rfl (O_indexHI rfl rfl rfl rfl rfl (by assumption) (by assumption) (by assumption)) rfl rfl rfl ?_) <;> (refine U_go rfl ?_; refine H_free (by decide +kernel) rfl (O_loadH rfl rfl rfl (by assumption) rfl (by assumption)) rfl rfl rfl ?_) <;> (refine U_go rfl ?_; refine H_free (by decide +kernel) rfl rfl rfl rfl rfl ?_) <;> (refine U_go rfl ?_; refine H_free (by decide +kernel) rfl rfl rfl rfl rfl ?_) <;> (refine U_go rfl ?_; refine H_free (by decide +kernel) rfl (O_indexI rfl rfl rfl rfl rfl (by assumption)) rfl rfl rfl ?_) <;> (refine U_go rfl ?_; refine H_free (by decide +kernel) rfl rfl rfl rfl rfl ?_) <;> (refine U_go rfl ?_; refine H_false (by decide +kernel) rfl (by with_reducible assumption) ?_) <;> apply U_nil) | (refine W_opsF (id := 10) (by first | assumption | exact frz_one rfl (by assumption) (by assumption)) ?_ <;> refine T_ch 2 rfl ?_ <;> (refine T_go rfl ?_; refine G_op (O_call rfl rfl rfl rfl (by assumption)) ?_) <;> refine T_ch 6 rfl ?_ <;> apply T_nil) | (refine W_ops (id := 11) rfl ?_ <;> refine T_ch 1 rfl ?_ <;> (refine T_go rfl ?_; refine G_op (O_call rfl rfl rfl rfl (by assumption)) ?_) <;> refine T_ch 5 rfl ?_ <;> apply T_nil) | (refine W_ops (id := 12) rfl ?_ <;> refine T_ch 1 rfl ?_ <;> (refine T_go rfl ?_; refine G_true rfl rfl ?_) <;> refine T_ch 2 rfl ?_ <;> (refine T_go rfl ?_; refine G_true rfl rfl ?_) <;> refine T_ch 4 rfl ?_ <;> (refine T_go rfl ?_; refine G_true rfl (by with_reducible assumption) ?_) <;> refine T_ch 2 rfl ?_ <;> (refine T_go rfl ?_; refine G_true (O_call rfl rfl rfl rfl (by assumption)) rfl ?_) <;> refine T_ch 2 rfl ?_ <;> apply T_nil) | apply W_skip | apply W_block | apply W_ret | apply W_exit | refine W_true rfl (by assumption) ?_ | refine W_false rfl (by assumption) ?_ | refine W_cond rfl (fun _ => ?_) (fun _ => ?_)))
          all_goals exact ⟨.inl rfl, rfl⟩
      · rw [if_neg hG] at hVc
        rw [hVc] at hI
        obtain ⟨w, vs, body⟩ := p
        apply W_call Try.func10 rfl (Nat.le_of_ble_eq_true rfl) rfl rfl
        (repeat' (first | apply W_seq | refine W_true rfl rfl ?_ | refine W_false rfl rfl ?_ | refine W_region (id := 0) rfl rfl ?_ | (refine W_ops (id := 1) rfl ?_ <;> refine T_ch 2 rfl ?_ <;> (refine T_go rfl ?_; refine G_true (O_call rfl rfl rfl rfl (by assumption)) rfl ?_) <;> refine T_ch 3 rfl ?_ <;> (refine T_go rfl ?_; refine G_op (O_call rfl rfl rfl rfl (by assumption)) ?_) <;> (refine T_go rfl ?_; refine G_false rfl rfl ?_) <;> refine T_ch 7 rfl ?_ <;> (refine T_go rfl ?_; refine G_false rfl (by assumption) ?_) <;> refine T_ch 3 rfl ?_ <;> (refine T_go rfl ?_; refine G_false rfl (by with_reducible assumption) ?_) <;> refine T_ch 6 rfl ?_ <;> (refine T_go rfl ?_; refine G_false rfl (by assumption) ?_) <;> refine T_ch 4 rfl ?_ <;> (refine T_go rfl ?_; refine G_op (O_indexI rfl rfl rfl rfl rfl (by assumption)) ?_) <;> (refine T_go rfl ?_; refine G_false rfl rfl ?_) <;> refine T_ch 1 rfl ?_ <;> apply T_nil) | (refine W_ops (id := 3) rfl ?_ <;> refine T_ch 2 rfl ?_ <;> (refine T_go rfl ?_; refine G_op (O_call rfl rfl rfl rfl (by assumption)) ?_) <;> refine T_ch 2 rfl ?_ <;> (refine T_go rfl ?_; refine G_false rfl rfl ?_) <;> refine T_ch 4 rfl ?_ <;> apply T_nil) | (refine W_ops (id := 4) rfl ?_ <;> refine T_ch 1 rfl ?_ <;> (refine T_go rfl ?_; refine G_false rfl rfl ?_) <;> refine T_ch 10 rfl ?_ <;> refine T_skip rfl ?_ <;> refine T_ch 1 rfl ?_ <;> apply T_nil) | (refine W_ops (id := 5) rfl ?_ <;> refine T_ch 1 rfl ?_ <;> (refine T_go rfl ?_; refine G_true rfl rfl ?_) <;> refine T_ch 5 rfl ?_ <;> (refine T_go rfl ?_; refine G_true (O_call rfl rfl rfl rfl (by assumption)) rfl ?_) <;> refine T_ch 2 rfl ?_ <;> apply T_nil) | apply W_skip | apply W_block | apply W_ret | apply W_exit | refine W_true rfl (by assumption) ?_ | refine W_false rfl (by assumption) ?_ | refine W_cond rfl (fun _ => ?_) (fun _ => ?_)))
        all_goals exact ⟨.inl rfl, rfl⟩
    · have hne : (((boolsC st).length : Int) != ((vsC p.vars).length : Int)) = true := by rw [hvl, hbl]; simp; omega
      obtain ⟨w, vs, body⟩ := p
      apply W_call Try.func10 rfl (Nat.le_of_ble_eq_true rfl) rfl rfl
      (repeat' (first | apply W_seq | refine W_true rfl rfl ?_ | refine W_false rfl rfl ?_ | refine W_region (id := 0) rfl rfl ?_ | (refine W_ops (id := 1) rfl ?_ <;> refine T_ch 2 rfl ?_ <;> (refine T_go rfl ?_; refine G_true (O_call rfl rfl rfl rfl (by assumption)) rfl ?_) <;> refine T_ch 3 rfl ?_ <;> (refine T_go rfl ?_; refine G_op (O_call rfl rfl rfl rfl (by assumption)) ?_) <;> (refine T_go rfl ?_; refine G_false rfl rfl ?_) <;> refine T_ch 7 rfl ?_ <;> (refine T_go rfl ?_; refine G_true rfl (by assumption) ?_) <;> refine T_ch 3 rfl ?_ <;> refine T_skip rfl ?_ <;> refine T_ch 6 rfl ?_ <;> refine T_skip rfl ?_ <;> refine T_ch 4 rfl ?_ <;> refine T_skip rfl ?_ <;> refine T_skip rfl ?_ <;> refine T_ch 1 rfl ?_ <;> apply T_nil) | (refine W_ops (id := 2) rfl ?_ <;> (refine T_go rfl ?_; refine G_true (O_call rfl rfl rfl rfl (by assumption)) rfl ?_) <;> refine T_ch 1 rfl ?_ <;> apply T_nil) | apply W_skip | apply W_block | apply W_ret | apply W_exit | refine W_true rfl (by assumption) ?_ | refine W_false rfl (by assumption) ?_ | refine W_cond rfl (fun _ => ?_) (fun _ => ?_)))
      all_goals exact ⟨.inl rfl, rfl⟩
  · rw [hf] at hF
    obtain ⟨w, vs, body⟩ := p
    apply W_call Try.func10 rfl (Nat.le_of_ble_eq_true rfl) rfl rfl
    (repeat' (first | apply W_seq | refine W_true rfl rfl ?_ | refine W_false rfl rfl ?_ | refine W_region (id := 0) rfl rfl ?_ | (refine W_ops (id := 1) rfl ?_ <;> refine T_ch 2 rfl ?_ <;> (refine T_go rfl ?_; refine G_true (O_call rfl rfl rfl rfl (by assumption)) rfl ?_) <;> refine T_ch 3 rfl ?_ <;> (refine T_go rfl ?_; refine G_op (O_call rfl rfl rfl rfl (by assumption)) ?_) <;> (refine T_go rfl ?_; refine G_true rfl rfl ?_) <;> refine T_ch 7 rfl ?_ <;> refine T_skip rfl ?_ <;> refine T_ch 3 rfl ?_ <;> refine T_skip rfl ?_ <;> refine T_ch 6 rfl ?_ <;> refine T_skip rfl ?_ <;> refine T_ch 4 rfl ?_ <;> refine T_skip rfl ?_ <;> refine T_skip rfl ?_ <;> refine T_ch 1 rfl ?_ <;> apply T_nil) | (refine W_ops (id := 2) rfl ?_ <;> (refine T_go rfl ?_; refine G_true (O_call rfl rfl rfl rfl (by assumption)) rfl ?_) <;> refine T_ch 1 rfl ?_ <;> apply T_nil) | apply W_skip | apply W_block | apply W_ret | apply W_exit | refine W_true rfl (by assumption) ?_ | refine W_false rfl (by assumption) ?_ | refine W_cond rfl (fun _ => ?_) (fun _ => ?_)))
    all_goals exact ⟨.inl rfl, rfl⟩
  · rw [hf] at hF
    obtain ⟨w, vs, body⟩ := p
    apply W_call Try.func10 rfl (Nat.le_of_ble_eq_true rfl) rfl rfl
    (repeat' (first | apply W_seq | refine W_true rfl rfl ?_ | refine W_false rfl rfl ?_ | refine W_region (id := 0) rfl rfl ?_ | (refine W_ops (id := 1) rfl ?_ <;> refine T_ch 2 rfl ?_ <;> (refine T_go rfl ?_; refine G_true (O_call rfl rfl rfl rfl (by assumption)) rfl ?_) <;> refine T_ch 3 rfl ?_ <;> (refine T_go rfl ?_; refine G_op (O_call rfl rfl rfl rfl (by assumption)) ?_) <;> (refine T_go rfl ?_; refine G_true rfl rfl ?_) <;> refine T_ch 7 rfl ?_ <;> refine T_skip rfl ?_ <;> refine T_ch 3 rfl ?_ <;> refine T_skip rfl ?_ <;> refine T_ch 6 rfl ?_ <;> refine T_skip rfl ?_ <;> refine T_ch 4 rfl ?_ <;> refine T_skip rfl ?_ <;> refine T_skip rfl ?_ <;> refine T_ch 1 rfl ?_ <;> apply T_nil) | (refine W_ops (id := 2) rfl ?_ <;> (refine T_go rfl ?_; refine G_true (O_call rfl rfl rfl rfl (by assumption)) rfl ?_) <;> refine T_ch 1 rfl ?_ <;> apply T_nil) | apply W_skip | apply W_block | apply W_ret | apply W_exit | refine W_true rfl (by assumption) ?_ | refine W_false rfl (by assumption) ?_ | refine W_cond rfl (fun _ => ?_) (fun _ => ?_)))
    all_goals exact ⟨.inl rfl, rfl⟩
end Go.Proofs.Ytelobnllkhnpaaa.L
