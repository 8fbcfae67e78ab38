/- Plain laws: a program is one for both. -/
import Derived.Test.YtelobnllkhnpaaaGreatK5
set_option linter.unusedVariables false
set_option linter.unusedSimpArgs false
set_option maxHeartbeats 2000000
set_option maxRecDepth 100000
open Go Go.Proofs Go.Ev
namespace Go.Proofs.YtelobnllkhnpaaaGreat.L
mutual
theorem fine1_iff {w : Int} {vs : List Vr'} (hh : headPB w vs = true) (hc : ∀ v, v ∈ vs → 1 ≤ v.cells) : ∀ (s : Sm') (deep st nd : Int), 1 ≤ deep → deep ≤ 16 → 0 ≤ nd → nd + smN s < 1000000 →
    ((fine1 w vs s deep st nd).1 = true ↔ deep + smD s ≤ 17 ∧ rowB w vs s = true ∧ nd + smN s ≤ 400) ∧ ((fine1 w vs s deep st nd).1 = true → (fine1 w vs s deep st nd).2.2 = nd + smN s)
  | .mk op n a t e, deep, st, nd, d0, d1, n0, n1 => by
    rw [smN] at n1
    rw [fine1_eq, smD, smN, rowB, wsm (n := nd + 1) (by omega) (by omega), wsm (n := deep + 1) (by omega) (by omega), headS_eq hc]
    generalize IntKind.i64.wrap (st + 1) = st1
    by_cases hb : nd + 1 > 400
    · rw [decide_eq_true hb, Bool.true_or, if_pos rfl]
      refine ⟨⟨fun h => (by cases h), fun ⟨_, _, h⟩ => by omega⟩, fun h => (by cases h)⟩
    rw [decide_eq_false hb, Bool.false_or]
    cases hH : headB vs (.mk op n a t e) with
    | false => simp
    | true =>
      rw [Bool.not_true, if_neg (by simp)]
      obtain ⟨a1, a2⟩ := argsF_eq w vs hh a (nd + 1) (by omega) (by omega)
      generalize argsF w vs a (nd + 1) = q at a1 a2
      unfold aftA
      cases hq : q.1 with
      | false =>
        rw [hq] at a1
        rw [if_neg (by simp), ← a1]; simp
      | true =>
        rw [hq] at a1
        rw [if_pos rfl, ← a1, a2 hq]
        unfold thenElse
        obtain ⟨t1, t2⟩ := fineG_iff hh hc t (deep + 1) st1 (nd + 1 + exsN a) (by omega) (by omega) (by omega) (by omega)
        generalize fineG w vs t (deep + 1) st1 (nd + 1 + exsN a) = T at t1 t2
        cases hT : T.1 with
        | false =>
          rw [if_neg (by simp)]
          refine ⟨⟨fun h => (by rw [hT] at h; cases h), fun ⟨g1, g2, g3⟩ => ?_⟩, fun h => (by rw [hT] at h; cases h)⟩
          have : T.1 = true := t1.2 ⟨by omega, by simp only [Bool.and_eq_true] at g2; exact g2.1.1.2, by omega⟩
          rw [hT] at this; cases this
        | true =>
          rw [if_pos rfl, t2 hT]
          obtain ⟨g1, g2, g3⟩ := t1.1 hT
          obtain ⟨e1, e2⟩ := fineG_iff hh hc e (deep + 1) T.2.1 (nd + 1 + exsN a + smsN t) (by omega) (by omega) (by omega) (by omega)
          refine ⟨?_, fun h => by rw [e2 h]; omega⟩
          rw [e1]
          simp only [g2, Bool.true_and, Bool.and_true]
          constructor
          · rintro ⟨k1, k2, k3⟩; exact ⟨by omega, k2, by omega⟩
          · rintro ⟨k1, k2, k3⟩; exact ⟨by omega, k2, by omega⟩
theorem fineL_iff {w : Int} {vs : List Vr'} (hh : headPB w vs = true) (hc : ∀ v, v ∈ vs → 1 ≤ v.cells) : ∀ (l : List Sm') (deep st nd : Int), 1 ≤ deep → deep ≤ 16 → 0 ≤ nd → nd + smsN l < 1000000 →
    ((fineL w vs l deep st nd).1 = true ↔ deep + smsD l ≤ 17 ∧ rowsB w vs l = true ∧ nd + smsN l ≤ 400) ∧ ((fineL w vs l deep st nd).1 = true → (fineL w vs l deep st nd).2.2 = nd + smsN l)
  | [], deep, st, nd, d0, d1, n0, n1 => by
    rw [fineL, smsD, rowsB, smsN]
    simp only [decide_eq_true_eq]
    refine ⟨⟨fun h => ⟨by omega, by trivial, by omega⟩, fun ⟨_, _, h⟩ => by omega⟩, fun _ => by omega⟩
  | s :: l, deep, st, nd, d0, d1, n0, n1 => by
    rw [smsN] at n1
    rw [fineL_cons, smsD, rowsB, smsN]
    obtain ⟨t1, t2⟩ := fine1_iff hh hc s deep st nd d0 d1 n0 (by omega)
    generalize fine1 w vs s deep st nd = T at t1 t2
    unfold nxtL
    cases hT : T.1 with
    | false =>
      rw [if_neg (by simp)]
      refine ⟨⟨fun h => (by rw [hT] at h; cases h), fun ⟨g1, g2, g3⟩ => ?_⟩, fun h => (by rw [hT] at h; cases h)⟩
      have : T.1 = true := t1.2 ⟨by omega, by simp only [Bool.and_eq_true] at g2; exact g2.1, by omega⟩
      rw [hT] at this; cases this
    | true =>
      rw [if_pos rfl, t2 hT]
      obtain ⟨g1, g2, g3⟩ := t1.1 hT
      obtain ⟨e1, e2⟩ := fineL_iff hh hc l deep T.2.1 (nd + smN s) d0 d1 (by omega) (by omega)
      refine ⟨?_, fun h => by rw [e2 h]; omega⟩
      rw [e1, g2, Bool.true_and]
      constructor
      · rintro ⟨k1, k2, k3⟩; exact ⟨by omega, k2, by omega⟩
      · rintro ⟨k1, k2, k3⟩; exact ⟨by omega, k2, by omega⟩
theorem fineG_iff {w : Int} {vs : List Vr'} (hh : headPB w vs = true) (hc : ∀ v, v ∈ vs → 1 ≤ v.cells) : ∀ (l : List Sm') (deep st nd : Int), 1 ≤ deep → deep ≤ 17 → 0 ≤ nd → nd + smsN l < 1000000 →
    ((fineG w vs l deep st nd).1 = true ↔ deep + smsD l ≤ 17 ∧ rowsB w vs l = true ∧ nd + smsN l ≤ 400) ∧ ((fineG w vs l deep st nd).1 = true → (fineG w vs l deep st nd).2.2 = nd + smsN l)
  | [], deep, st, nd, d0, d1, n0, n1 => by
    unfold fineG guardS
    simp only [List.length_nil, smsD, rowsB, smsN, fineL]
    rw [if_neg (by simp)]
    simp only [decide_eq_true_eq]
    refine ⟨⟨fun h => ⟨by omega, by trivial, by omega⟩, fun ⟨_, _, h⟩ => by omega⟩, fun _ => by omega⟩
  | s :: l, deep, st, nd, d0, d1, n0, n1 => by
    by_cases hd : deep > 16
    · unfold fineG guardS
      rw [if_pos (by rw [decide_eq_true hd]; simp)]
      refine ⟨⟨fun h => (by cases h), fun ⟨g, _, _⟩ => ?_⟩, fun h => (by cases h)⟩
      rw [smsD] at g
      have : 1 ≤ smD s := by cases s; rw [smD]; omega
      omega
    · have hg : fineG w vs (s :: l) deep st nd = fineL w vs (s :: l) deep st nd := by
        unfold fineG guardS
        rw [if_neg (by rw [decide_eq_false hd]; simp)]
      rw [hg]
      rw [smsN] at n1
      rw [fineL_cons, smsD, rowsB, smsN]
      obtain ⟨t1, t2⟩ := fine1_iff hh hc s deep st nd d0 (by omega) n0 (by omega)
      generalize fine1 w vs s deep st nd = T at t1 t2
      unfold nxtL
      cases hT : T.1 with
      | false =>
        rw [if_neg (by simp)]
        refine ⟨⟨fun h => (by rw [hT] at h; cases h), fun ⟨g1, g2, g3⟩ => ?_⟩, fun h => (by rw [hT] at h; cases h)⟩
        have : T.1 = true := t1.2 ⟨by omega, by simp only [Bool.and_eq_true] at g2; exact g2.1, by omega⟩
        rw [hT] at this; cases this
      | true =>
        rw [if_pos rfl, t2 hT]
        obtain ⟨g1, g2, g3⟩ := t1.1 hT
        obtain ⟨e1, e2⟩ := fineL_iff hh hc l deep T.2.1 (nd + smN s) d0 (by omega) (by omega) (by omega)
        refine ⟨?_, fun h => by rw [e2 h]; omega⟩
        rw [e1, g2, Bool.true_and]
        constructor
        · rintro ⟨k1, k2, k3⟩; exact ⟨by omega, k2, by omega⟩
        · rintro ⟨k1, k2, k3⟩; exact ⟨by omega, k2, by omega⟩
end
theorem okP_eq (p : Pr') (hN : smsN p.body ≤ 600) : okP p = isP p := by
  unfold okP isP
  rw [← head_eq]
  cases hh : headPB p.width p.vars with
  | false => simp
  | true =>
    have hc : ∀ v, v ∈ p.vars → 1 ≤ v.cells := by
      have := hh
      rw [head_eq] at this
      unfold headRB at this
      simp only [Bool.and_eq_true] at this
      exact varB_cells this.2
    obtain ⟨g1, _⟩ := fineG_iff hh hc p.body 1 0 0 (by omega) (by omega) (by omega) (by omega)
    have hD := smsD_le p.body
    rw [fitsS_eq _ _ (by omega) (by omega), depSs_eq _ _ (by omega) (by omega) (by omega)]
    rw [Bool.eq_iff_iff, Bool.true_and, Bool.true_and, g1]
    simp only [Bool.and_eq_true, decide_eq_true_eq]
    constructor
    · rintro ⟨k1, k2, k3⟩; exact ⟨⟨by omega, by omega⟩, k2⟩
    · rintro ⟨⟨k1, k2⟩, k3⟩; exact ⟨by omega, k3, by omega⟩
mutual
theorem form_rd {w c : Int} {vs : List Vr'} : ∀ (e : Ex'), formE w vs c e = true → rdE vs.length e
  | .mk op n cp es, h => by
    rw [formE, Bool.and_eq_true] at h
    rw [rdE]
    refine ⟨fun ho => ?_, forms_rd es h.2⟩
    have := h.1
    unfold nodeB at this
    dsimp only at this
    rw [if_pos ho] at this
    simp only [Bool.and_eq_true, decide_eq_true_eq] at this
    exact ⟨this.1.1.1.1, this.1.1.1.2⟩
theorem forms_rd {w c : Int} {vs : List Vr'} : ∀ (es : List Ex'), formEs w vs c es = true → rdEs vs.length es
  | [], _ => trivial
  | e :: es, h => by
    rw [formEs, Bool.and_eq_true] at h
    exact ⟨form_rd e h.1, forms_rd es h.2⟩
end
theorem isE_rd {w c : Int} {vs : List Vr'} {e : Ex'} (h : isE w vs c e = true) : rdE vs.length e := by
  unfold isE at h
  simp only [Bool.and_eq_true] at h
  exact form_rd e h.2
theorem chk_eq (p : Pr') (hN : smsN p.body ≤ 600) : chkI p = faultI p := by
  unfold chkI faultI singleP
  rw [okP_eq p hN]
  cases isP p <;> simp
theorem isP_head {p : Pr'} (h : isP p = true) : headPB p.width p.vars = true ∧ 1 ≤ p.vars.length ∧ p.vars.length ≤ 18 := by
  unfold isP at h
  simp only [Bool.and_eq_true] at h
  have := h.1.1.1
  rw [head_eq]
  refine ⟨this, ?_⟩
  unfold headRB at this
  simp only [Bool.and_eq_true, Bool.not_eq_true', decide_eq_false_iff_not] at this
  omega
end Go.Proofs.YtelobnllkhnpaaaGreat.L
/- Claims: the expressions that a claim is made of. -/
open Go Go.Proofs Go.Ev Go.Proofs.YtelobnllkhnpaaaGreat.E
namespace Go.Proofs.YtelobnllkhnpaaaGreat.L
def cE (n : Int) : Ex' := .mk 0 n 0 []
def cellE (i w W s : Int) : Ex' := .mk 1 i s (if decide (W > 1) then [cE w] else [])
def eqE (i w W : Int) : Ex' := .mk 13 0 0 [cellE i w W 0, cellE i w W 1]
def bothE (a b : Ex') : Ex' := .mk 7 0 0 [a, b]
variable (k : Nat) (h : Heap) (lo : Nat)
theorem constR_run (n : Int) : call Tryz.prog cfg (k + 1) lo (.func 23) [.int .i64 n] h = some (.agg (exC (cE n)), h) := by
  apply W_call Tryz.func23 rfl (Nat.le_of_ble_eq_true rfl) rfl rfl
  (repeat' (first | apply W_seq | refine W_region (id := 0) rfl rfl ?_ | refine W_region (id := 1) rfl rfl ?_ | apply W_ret))
  exact ⟨.inl rfl, rfl⟩
theorem readR_run (n s : Int) : call Tryz.prog cfg (k + 1) lo (.func 22) [.int .i64 n, .int .i64 s] h = some (.agg (exC (.mk 1 n s [])), h) := by
  apply W_call Tryz.func22 rfl (Nat.le_of_ble_eq_true rfl) rfl rfl
  (repeat' (first | apply W_seq | refine W_region (id := 0) rfl rfl ?_ | refine W_region (id := 1) rfl rfl ?_ | apply W_ret))
  exact ⟨.inl rfl, rfl⟩
theorem ofR2_run (op : Int) (a : List (List AV)) : call Tryz.prog cfg (k + 1) lo (.func 25) [.int .i64 op, .vs 4 a] h = some (.agg [.int .i64 op, .int .i64 0, .int .i64 0, .vs 4 a], h) := by
  apply W_call Tryz.func25 rfl (Nat.le_of_ble_eq_true rfl) rfl rfl
  (repeat' (first | apply W_seq | refine W_region (id := 0) rfl rfl ?_ | refine W_region (id := 1) rfl rfl ?_ | apply W_ret))
  exact ⟨.inl rfl, rfl⟩
theorem cellP_run (i w W s : Int) : call Tryz.prog cfg (k + 1) lo (.func 123) [.int .i64 i, .int .i64 w, .int .i64 W, .int .i64 s] h = some (.agg (exC (cellE i w W s)), h) := by
  cases hc : decide (W > 1)
  · have e : exC (cellE i w W s) = exC (.mk 1 i s []) := by unfold cellE; rw [hc]; rfl
    rw [e]
    apply W_call Tryz.func123 rfl (Nat.le_of_ble_eq_true rfl) rfl rfl
    (repeat' (first | apply W_seq | refine W_false rfl rfl ?_ | refine W_region (id := 0) rfl rfl ?_ | refine W_region (id := 1) rfl rfl ?_ | (refine W_ops (id := 2) rfl ?_ <;> refine T_ch 1 rfl ?_ <;> (refine T_go rfl ?_; refine G_false rfl (by with_reducible assumption) ?_) <;> apply T_nil) | refine W_region (id := 4) rfl rfl ?_ | apply W_skip | apply W_ret))
    exact ⟨.inl rfl, rfl⟩
  · have e : exC (cellE i w W s) = exC (.mk 1 i s [cE w]) := by unfold cellE; rw [hc]; rfl
    rw [e]
    apply W_call Tryz.func123 rfl (Nat.le_of_ble_eq_true rfl) rfl rfl
    (repeat' (first | apply W_seq | refine W_true rfl rfl ?_ | refine W_region (id := 0) rfl rfl ?_ | refine W_region (id := 1) rfl rfl ?_ | (refine W_ops (id := 2) rfl ?_ <;> refine T_ch 1 rfl ?_ <;> (refine T_go rfl ?_; refine G_true rfl (by with_reducible assumption) ?_) <;> apply T_nil) | refine W_region (id := 3) rfl rfl ?_ | refine W_region (id := 4) rfl rfl ?_ | apply W_ret))
    exact ⟨.inl rfl, rfl⟩
theorem equalP_run (a b : Ex') : call Tryz.prog cfg (k + 1) lo (.func 38) [.agg (exC a), .agg (exC b)] h = some (.agg (exC (.mk 13 0 0 [a, b])), h) := by
  obtain ⟨o1, n1, c1, l1⟩ := a
  obtain ⟨o2, n2, c2, l2⟩ := b
  apply W_call Tryz.func38 rfl (Nat.le_of_ble_eq_true rfl) rfl rfl
  (repeat' (first | apply W_seq | refine W_region (id := 0) rfl rfl ?_ | refine W_region (id := 1) rfl rfl ?_ | apply W_ret))
  exact ⟨.inl rfl, rfl⟩
theorem bothR_run (a b : Ex') : call Tryz.prog cfg (k + 2) lo (.func 53) [.agg (exC a), .agg (exC b)] h = some (.agg (exC (bothE a b)), h) := by
  have hO := ofR2_run k h h.length 7 [exC a, exC b]
  obtain ⟨o1, n1, c1, l1⟩ := a
  obtain ⟨o2, n2, c2, l2⟩ := b
  apply W_call Tryz.func53 rfl (Nat.le_of_ble_eq_true rfl) rfl rfl
  (repeat' (first | apply W_seq | refine W_region (id := 0) rfl rfl ?_ | (refine W_ops (id := 1) rfl ?_ <;> refine T_ch 3 rfl ?_ <;> (refine T_go rfl ?_; refine G_op (O_call rfl rfl rfl rfl ‹_›) ?_) <;> refine T_ch 1 rfl ?_ <;> apply T_nil) | apply W_ret))
  exact ⟨.inl rfl, rfl⟩
theorem cellR_run (vs : List Vr') (i : Nat) (v : Vr') (hi : vs[i]? = some v) (w s : Int) : call Tryz.prog cfg (k + 2) lo (.func 156) [.vs 3 (vsC vs), .int .i64 i, .int .i64 w, .int .i64 s] h = some (.agg (exC (cellE i w v.cells s)), h) := by
  have hrow := vsC_get hi
  have hR := readR_run k h h.length i s
  have hC := constR_run k h h.length w
  obtain ⟨nm, level, cells⟩ := v
  cases hc : decide (cells > 1)
  · have e : exC (cellE i w cells s) = exC (.mk 1 i s []) := by unfold cellE; rw [hc]; rfl
    rw [e]
    apply W_call Tryz.func156 rfl (Nat.le_of_ble_eq_true rfl) rfl rfl
    (repeat' (first | apply W_seq | refine W_false rfl rfl ?_ | refine W_region (id := 0) rfl rfl ?_ | (refine W_ops (id := 1) rfl ?_ <;> refine T_ch 2 rfl ?_ <;> (refine T_go rfl ?_; refine G_op (O_call rfl rfl rfl rfl ‹_›) ?_) <;> refine T_ch 2 rfl ?_ <;> apply T_nil) | (refine W_ops (id := 2) rfl ?_ <;> refine T_ch 2 rfl ?_ <;> (refine T_go rfl ?_; refine G_op (O_index rfl rfl rfl rfl rfl ‹_›) ?_) <;> refine T_ch 1 rfl ?_ <;> (refine T_go rfl ?_; refine G_op rfl ?_) <;> (refine T_go rfl ?_; refine G_false rfl (by with_reducible assumption) ?_) <;> apply T_nil) | refine W_region (id := 4) rfl rfl ?_ | apply W_skip | apply W_ret))
    exact ⟨.inl rfl, rfl⟩
  · have e : exC (cellE i w cells s) = exC (.mk 1 i s [cE w]) := by unfold cellE; rw [hc]; rfl
    rw [e]
    apply W_call Tryz.func156 rfl (Nat.le_of_ble_eq_true rfl) rfl rfl
    (repeat' (first | apply W_seq | refine W_true rfl rfl ?_ | refine W_region (id := 0) rfl rfl ?_ | (refine W_ops (id := 1) rfl ?_ <;> refine T_ch 2 rfl ?_ <;> (refine T_go rfl ?_; refine G_op (O_call rfl rfl rfl rfl ‹_›) ?_) <;> refine T_ch 2 rfl ?_ <;> apply T_nil) | (refine W_ops (id := 2) rfl ?_ <;> refine T_ch 2 rfl ?_ <;> (refine T_go rfl ?_; refine G_op (O_index rfl rfl rfl rfl rfl ‹_›) ?_) <;> refine T_ch 1 rfl ?_ <;> (refine T_go rfl ?_; refine G_op rfl ?_) <;> (refine T_go rfl ?_; refine G_true rfl (by with_reducible assumption) ?_) <;> apply T_nil) | (refine W_ops (id := 3) rfl ?_ <;> refine T_ch 1 rfl ?_ <;> (refine T_go rfl ?_; refine G_op (O_call rfl rfl rfl rfl ‹_›) ?_) <;> refine T_ch 3 rfl ?_ <;> apply T_nil) | refine W_region (id := 4) rfl rfl ?_ | apply W_ret))
    exact ⟨.inl rfl, rfl⟩
theorem equalR_run (vs : List Vr') (i : Nat) (v : Vr') (hi : vs[i]? = some v) (w : Int) : call Tryz.prog cfg (k + 3) lo (.func 132) [.vs 3 (vsC vs), .int .i64 i, .int .i64 w, .int .i64 0, .int .i64 1] h = some (.agg (exC (eqE i w v.cells)), h) := by
  have h1 := cellR_run k h h.length vs i v hi w 0
  have h2 := cellR_run k h h.length vs i v hi w 1
  have hO := ofR2_run (k + 1) h h.length 13 [exC (cellE i w v.cells 0), exC (cellE i w v.cells 1)]
  have e : exC (eqE i w v.cells) = [.int .i64 13, .int .i64 0, .int .i64 0, .vs 4 [exC (cellE i w v.cells 0), exC (cellE i w v.cells 1)]] := rfl
  rw [e]
  unfold cellE at h1 h2 hO ⊢
  generalize (if decide (v.cells > 1) then [cE w] else []) = l at h1 h2 hO ⊢
  apply W_call Tryz.func132 rfl (Nat.le_of_ble_eq_true rfl) rfl rfl
  (repeat' (first | apply W_seq | refine W_region (id := 0) rfl rfl ?_ | (refine W_ops (id := 1) rfl ?_ <;> refine T_ch 4 rfl ?_ <;> (refine T_go rfl ?_; refine G_op (O_call rfl rfl rfl rfl ‹_›) ?_) <;> refine T_ch 4 rfl ?_ <;> (refine T_go rfl ?_; refine G_op (O_call rfl rfl rfl rfl ‹_›) ?_) <;> refine T_ch 1 rfl ?_ <;> (refine T_go rfl ?_; refine G_op (O_call rfl rfl rfl rfl ‹_›) ?_) <;> refine T_ch 1 rfl ?_ <;> apply T_nil) | apply W_ret))
  exact ⟨.inl rfl, rfl⟩
/- Claims: which cells of two runs are the same: level.same, ref20.Agree. -/
def stE (i W : Int) (acc : Option Ex') (w : Nat) : Option Ex' := some (match acc with | none => eqE i w W | some a => bothE a (eqE i w W))
def agF (g : Nat → Bool) : List Vr' → Nat → Option Ex' → Option Ex'
  | [], _, acc => acc
  | v :: l, i, acc => agF g l (i + 1) (if g i then (List.range v.cells.toNat).foldl (stE i v.cells) acc else acc)
def accC : Option Ex' → List AV
  | none => [.int .i64 0, .int .i64 0, .int .i64 0, .nils]
  | some e => exC e
def samS (h : Heap) (vs : List Vr') (cl : AV) (i : Int) (a : Option Ex' × Heap) : St :=
  { env := [(1, .v cl), (4, .p 4 0), (6, .p 6 0), (7, .v (.bool a.1.isSome)), (13, .v (.vs 3 (vsC vs))), (14, .v (.int .i64 (vsC vs).length)), (15, .v (.int .i64 i))], loc := [(4, accC none), (6, accC a.1)], heap := a.2, inRound := false, lo := h.length }
def samI (h : Heap) (vs : List Vr') (cl : AV) (i : Int) (v : Vr') (w : Int) (a : Option Ex' × Heap) : St :=
  { env := [(1, .v cl), (4, .p 4 0), (6, .p 6 0), (7, .v (.bool a.1.isSome)), (8, .v (.int .i64 i)), (9, .p 9 0), (13, .v (.vs 3 (vsC vs))), (14, .v (.int .i64 (vsC vs).length)), (15, .v (.int .i64 i)), (25, .v (.int .i64 v.cells)), (26, .v (.int .i64 w))], loc := [(4, accC none), (6, accC a.1), (9, vrC v)], heap := a.2, inRound := false, lo := h.length }
/-- What a claim's half is, where nothing agrees. -/
def agC (o : Option Ex') : Ex' := o.getD (.mk 0 0 0 [])
theorem lsame_run (w0 : Int) (vs : List Vr') (body : List Sm') (g : Nat → Bool) (fid : Nat) (caps : List AV) (k : Nat) (hk : vs.length + 3 < k) (hv : vs.length < 1000) (hc : ∀ v, v ∈ vs → v.cells.toNat + 3 < k ∧ v.cells ≤ 1000) (h : Heap) (lo : Nat)
    (hf : ∀ (i : Nat), i < vs.length → ∀ js, call Tryz.prog cfg k h.length (.func fid) ([.int .i64 (i : Int)] ++ caps) (h ++ js) = some (.bool (g i), h ++ js)) :
    call Tryz.prog cfg (k + 1) lo (.func 81) [.agg (prC ⟨w0, vs, body⟩), .fn (.func fid) caps] h = some (.tup [.agg (exC (agC (agF g vs 0 none))), .bool (agF g vs 0 none).isSome], h) := by
  apply W_call Tryz.func81 rfl (Nat.le_of_ble_eq_true rfl) rfl rfl
  (repeat' (first | apply W_seq | refine W_region (id := 0) rfl rfl ?_ | refine W_region (id := 1) rfl rfl ?_ | refine W_region (id := 2) rfl rfl ?_ | refine W_region (id := 3) rfl rfl ?_ | apply W_block))
  apply W_iterI (S := samS h vs (.fn (.func fid) caps)) (l := vs) (a0 := (none, h)) (fun i rest a => agF g rest i a.1 = agF g vs 0 none ∧ ∃ js, a.2 = h ++ js) (by omega) (by omega) rfl ⟨rfl, [], by simp⟩
  · intro i v rest a hi hd hil hJ
    obtain ⟨acc, H⟩ := a
    obtain ⟨hJ1, js, hH⟩ := hJ
    dsimp only at hJ1 hH
    subst hH
    have hrow := vsC_get hi
    have hlt := lt_vsC hil
    have hfi := hf i hil js
    have hcv := hc v (List.mem_of_getElem? hi)
    rw [agF] at hJ1
    cases hg : g i
    · rw [hg] at hfi hJ1
      rw [if_neg (by simp)] at hJ1
      obtain ⟨nm, level, cells⟩ := v
      (repeat' (first | apply W_seq | refine W_true rfl rfl ?_ | (refine W_ops (id := 4) rfl ?_ <;> (refine T_go rfl ?_; refine G_true rfl (by with_reducible assumption) ?_) <;> apply T_nil) | (refine W_ops (id := 5) rfl ?_ <;> refine T_ch 1 rfl ?_ <;> (refine T_go rfl ?_; refine G_op (O_index rfl rfl rfl rfl rfl ‹_›) ?_) <;> (refine T_go rfl ?_; refine G_op rfl ?_) <;> refine T_ch 3 rfl ?_ <;> apply T_nil) | (refine W_ops (id := 6) rfl ?_ <;> refine T_ch 2 rfl ?_ <;> (refine T_go rfl ?_; refine G_false (O_call rfl rfl rfl rfl ‹_›) rfl ?_) <;> refine T_ch 1 rfl ?_ <;> apply T_nil) | refine W_region (id := 15) rfl rfl ?_ | apply W_skip | apply W_block | apply W_exit))
      exact ⟨(acc, h ++ js), rfl, hJ1, js, rfl⟩
    · rw [hg] at hfi hJ1
      rw [if_pos rfl] at hJ1
      obtain ⟨nm, level, cells⟩ := v
      dsimp only at hcv hJ1
      (repeat' (first | apply W_seq | refine W_true rfl rfl ?_ | refine W_false rfl rfl ?_ | (refine W_ops (id := 4) rfl ?_ <;> (refine T_go rfl ?_; refine G_true rfl (by with_reducible assumption) ?_) <;> apply T_nil) | (refine W_ops (id := 5) rfl ?_ <;> refine T_ch 1 rfl ?_ <;> (refine T_go rfl ?_; refine G_op (O_index rfl rfl rfl rfl rfl ‹_›) ?_) <;> (refine T_go rfl ?_; refine G_op rfl ?_) <;> refine T_ch 3 rfl ?_ <;> apply T_nil) | (refine W_ops (id := 6) rfl ?_ <;> refine T_ch 2 rfl ?_ <;> (refine T_go rfl ?_; refine G_true (O_call rfl rfl rfl rfl ‹_›) rfl ?_) <;> refine T_ch 1 rfl ?_ <;> apply T_nil) | refine W_region (id := 7) rfl rfl ?_ | apply W_skip | apply W_block))
      apply W_iterI (S := samI h vs (.fn (.func fid) caps) i ⟨nm, level, cells⟩) (l := List.range cells.toNat) (a0 := (acc, h ++ js))
        (fun w ws a => agF g rest (i + 1) (ws.foldl (stE i cells) a.1) = agF g vs 0 none ∧ ∃ js, a.2 = h ++ js) (by simp; omega) (by simp; omega) rfl ⟨hJ1, js, rfl⟩
      · intro w x ws a hw hdw hwl hJw
        obtain ⟨a1, H⟩ := a
        obtain ⟨hJ2, js2, hH⟩ := hJw
        dsimp only at hJ2 hH
        have hx : x = w := by
          have := List.getElem?_range (n := cells.toNat) (i := w) (by simpa using hwl)
          rw [this] at hw; injection hw with hw; exact hw.symm
        subst hx
        have hlw : decide ((x : Int) < cells) = true := decide_eq_true (by simp at hwl; omega)
        have hc0 := cellP_run (k - 1) H H.length i x cells 0
        have hc1 := cellP_run (k - 1) H H.length i x cells 1
        have heq := equalP_run (k - 1) H H.length (cellE i x cells 0) (cellE i x cells 1)
        rw [show k - 1 + 1 = k by omega] at hc0 hc1 heq
        have g1 : (H ++ [HObj.cells 31 [.int .i64 0, .int .i64 0, .int .i64 0, .nils]])[H.length]? = some (.cells 31 [.int .i64 0, .int .i64 0, .int .i64 0, .nils]) := by simp
        have g2 : h.length ≤ H.length := by rw [hH]; simp
        have g3 : H.length < (H ++ [HObj.cells 31 [.int .i64 0, .int .i64 0, .int .i64 0, .nils]]).length := by simp
        rw [List.foldl_cons] at hJ2
        cases a1 with
        | none =>
          (repeat' (first | apply W_seq | refine W_true rfl rfl ?_ | refine W_false rfl rfl ?_ | (refine W_ops (id := 8) rfl ?_ <;> (refine T_go rfl ?_; refine G_true rfl (by with_reducible assumption) ?_) <;> apply T_nil) | refine W_region (id := 9) rfl rfl ?_ | (refine W_dops (id := 10) (bs := [0, 0, 0, 4, 15, 0, 0, 0, 128, 511, 1023, 0, 4095]) rfl (by decide +kernel) (by decide +kernel) ?_ <;> (refine U_go rfl ?_; refine H_free (by decide +kernel) rfl rfl rfl rfl rfl ?_) <;> (refine U_go rfl ?_; refine H_free (by decide +kernel) rfl rfl rfl rfl rfl ?_) <;> (refine U_go rfl ?_; refine H_free (by decide +kernel) rfl rfl rfl rfl rfl ?_) <;> (refine U_go rfl ?_; refine H_free (by decide +kernel) rfl rfl rfl rfl rfl ?_) <;> (refine U_go rfl ?_; refine H_free (by decide +kernel) rfl (O_call rfl rfl rfl rfl ‹_›) rfl rfl rfl ?_) <;> (refine U_go rfl ?_; refine H_free (by decide +kernel) rfl rfl rfl rfl rfl ?_) <;> (refine U_go rfl ?_; refine H_free (by decide +kernel) rfl rfl rfl rfl rfl ?_) <;> (refine U_go rfl ?_; refine H_free (by decide +kernel) rfl rfl rfl rfl rfl ?_) <;> (refine U_go rfl ?_; refine H_free (by decide +kernel) rfl rfl rfl rfl rfl ?_) <;> (refine U_go rfl ?_; refine H_free (by decide +kernel) rfl (O_call rfl rfl rfl rfl ‹_›) rfl rfl rfl ?_) <;> (refine U_go rfl ?_; refine H_free (by decide +kernel) rfl (O_call rfl rfl rfl rfl ‹_›) rfl rfl rfl ?_) <;> (refine U_go rfl ?_; refine H_make (by decide +kernel) rfl rfl rfl rfl rfl ?_) <;> (refine U_go rfl ?_; refine H_op (by decide +kernel) (O_storeH rfl rfl rfl rfl ‹_› ⟨by assumption, rfl, rfl, Nat.le_of_ble_eq_true rfl⟩) ?_) <;> apply U_nil) | refine W_region (id := 11) rfl rfl ?_ | (refine W_ops (id := 13) rfl ?_ <;> (refine T_go rfl ?_; refine G_op (O_loadS rfl rfl rfl rfl ‹_› rfl rfl) ?_) <;> refine T_ch 2 rfl ?_ <;> apply T_nil) | refine W_region (id := 14) rfl rfl ?_ | apply W_skip | apply W_block))
          exact ⟨(some (eqE i x cells), (H ++ [HObj.cells 31 [.int .i64 0, .int .i64 0, .int .i64 0, .nils]]).set H.length (.cells 31 (exC (eqE i x cells)))), rfl, hJ2, js2 ++ [.cells 31 (exC (eqE i x cells))], by rw [hH]; simp [List.set_append]⟩
        | some e =>
          obtain ⟨o, n, c, l⟩ := e
          (repeat' (first | apply W_seq | refine W_true rfl rfl ?_ | (refine W_ops (id := 8) rfl ?_ <;> (refine T_go rfl ?_; refine G_true rfl (by with_reducible assumption) ?_) <;> apply T_nil) | refine W_region (id := 9) rfl rfl ?_ | (refine W_dops (id := 10) (bs := [0, 0, 0, 4, 15, 0, 0, 0, 128, 511, 1023, 0, 4095]) rfl (by decide +kernel) (by decide +kernel) ?_ <;> (refine U_go rfl ?_; refine H_free (by decide +kernel) rfl rfl rfl rfl rfl ?_) <;> (refine U_go rfl ?_; refine H_free (by decide +kernel) rfl rfl rfl rfl rfl ?_) <;> (refine U_go rfl ?_; refine H_free (by decide +kernel) rfl rfl rfl rfl rfl ?_) <;> (refine U_go rfl ?_; refine H_free (by decide +kernel) rfl rfl rfl rfl rfl ?_) <;> (refine U_go rfl ?_; refine H_free (by decide +kernel) rfl (O_call rfl rfl rfl rfl ‹_›) rfl rfl rfl ?_) <;> (refine U_go rfl ?_; refine H_free (by decide +kernel) rfl rfl rfl rfl rfl ?_) <;> (refine U_go rfl ?_; refine H_free (by decide +kernel) rfl rfl rfl rfl rfl ?_) <;> (refine U_go rfl ?_; refine H_free (by decide +kernel) rfl rfl rfl rfl rfl ?_) <;> (refine U_go rfl ?_; refine H_free (by decide +kernel) rfl rfl rfl rfl rfl ?_) <;> (refine U_go rfl ?_; refine H_free (by decide +kernel) rfl (O_call rfl rfl rfl rfl ‹_›) rfl rfl rfl ?_) <;> (refine U_go rfl ?_; refine H_free (by decide +kernel) rfl (O_call rfl rfl rfl rfl ‹_›) rfl rfl rfl ?_) <;> (refine U_go rfl ?_; refine H_make (by decide +kernel) rfl rfl rfl rfl rfl ?_) <;> (refine U_go rfl ?_; refine H_op (by decide +kernel) (O_storeH rfl rfl rfl rfl ‹_› ⟨by assumption, rfl, rfl, Nat.le_of_ble_eq_true rfl⟩) ?_) <;> apply U_nil) | refine W_region (id := 11) rfl rfl ?_ | (refine W_ops (id := 12) rfl ?_ <;> refine T_ch 1 rfl ?_ <;> (refine T_go rfl ?_; refine G_op (O_loadS rfl rfl rfl rfl ‹_› rfl rfl) ?_) <;> refine T_ch 2 rfl ?_ <;> (refine T_go rfl ?_; refine G_op (O_storeS rfl rfl rfl rfl rfl ‹_› ‹_› ⟨rfl, rfl, Nat.le_of_ble_eq_true rfl⟩ rfl) ?_) <;> apply T_nil) | (refine W_ops (id := 13) rfl ?_ <;> (refine T_go rfl ?_; refine G_op (O_loadS rfl rfl rfl rfl ‹_› rfl rfl) ?_) <;> refine T_ch 2 rfl ?_ <;> apply T_nil) | refine W_region (id := 14) rfl rfl ?_ | apply W_skip | apply W_block))
          exact ⟨(some (bothE (.mk o n c l) (eqE i x cells)), (H ++ [HObj.cells 31 [.int .i64 0, .int .i64 0, .int .i64 0, .nils]]).set H.length (.cells 31 (exC (bothE (.mk o n c l) (eqE i x cells))))), rfl, hJ2, js2 ++ [.cells 31 (exC (bothE (.mk o n c l) (eqE i x cells)))], by rw [hH]; simp [List.set_append]⟩
      · intro a hJ
        obtain ⟨a1, H⟩ := a
        obtain ⟨hJ2, js2, hH⟩ := hJ
        have hlw : decide (((List.range cells.toNat).length : Int) < cells) = false := decide_eq_false (by simp; omega)
        (repeat' (first | apply W_seq | refine W_false rfl rfl ?_ | (refine W_ops (id := 8) rfl ?_ <;> (refine T_go rfl ?_; refine G_false rfl (by with_reducible assumption) ?_) <;> apply T_nil) | refine W_region (id := 15) rfl rfl ?_ | apply W_exit))
        exact ⟨(a1, H), rfl, hJ2, js2, hH⟩
  · intro a hJ
    obtain ⟨a1, H⟩ := a
    obtain ⟨hJ1, js, hH⟩ := hJ
    dsimp only at hJ1 hH
    rw [agF] at hJ1
    have hlt := ge_vsC (l := vs)
    rw [← hJ1]
    cases a1 with
    | none =>
      (repeat' (first | apply W_seq | refine W_false rfl rfl ?_ | (refine W_ops (id := 4) rfl ?_ <;> (refine T_go rfl ?_; refine G_false rfl (by with_reducible assumption) ?_) <;> apply T_nil) | refine W_region (id := 16) rfl rfl ?_ | apply W_ret | apply W_exit))
      exact ⟨.inl rfl, rfl⟩
    | some e =>
      obtain ⟨o, n, c, l⟩ := e
      (repeat' (first | apply W_seq | refine W_false rfl rfl ?_ | (refine W_ops (id := 4) rfl ?_ <;> (refine T_go rfl ?_; refine G_false rfl (by with_reducible assumption) ?_) <;> apply T_nil) | refine W_region (id := 16) rfl rfl ?_ | apply W_ret | apply W_exit))
      exact ⟨.inl rfl, rfl⟩
def agS (h : Heap) (vs : List Vr') (gv : AV) (i : Int) (a : Option Ex') : St :=
  { env := [(0, .v (.vs 3 (vsC vs))), (1, .v gv), (2, .v (.int .i64 0)), (3, .v (.int .i64 1)), (8, .p 8 0), (10, .p 10 0), (11, .v (.bool a.isSome)), (12, .v (.int .i64 i))], loc := [(8, accC none), (10, exC (a.getD (cE 1)))], heap := h, inRound := false, lo := h.length }
def agI (h : Heap) (vs : List Vr') (gv : AV) (i w : Int) (a : Option Ex') : St :=
  { env := [(0, .v (.vs 3 (vsC vs))), (1, .v gv), (2, .v (.int .i64 0)), (3, .v (.int .i64 1)), (8, .p 8 0), (10, .p 10 0), (11, .v (.bool a.isSome)), (12, .v (.int .i64 i)), (13, .v (.int .i64 w))], loc := [(8, accC none), (10, exC (a.getD (cE 1)))], heap := h, inRound := false, lo := h.length }
def boC (g : Nat → Bool) (n : Nat) : List (List AV) := (List.range n).map fun i => [.bool (g i)]
theorem boC_get {g : Nat → Bool} {n i : Nat} (h : i < n) : (boC g n)[i]? = some [.bool (g i)] := by simp [boC, h]
theorem agree_run (vs : List Vr') (g : Nat → Bool) (k : Nat) (hk : vs.length + 5 < k) (hv : vs.length < 1000) (hc : ∀ v, v ∈ vs → v.cells.toNat + 5 < k ∧ v.cells ≤ 1000) (gv : AV) (hgv : vs.length ≠ 0 → gv = .vs 1 (boC g vs.length)) (h : Heap) (lo : Nat) :
    call Tryz.prog cfg (k + 1) lo (.func 94) [.vs 3 (vsC vs), gv, .int .i64 0, .int .i64 1] h = some (.tup [.agg (exC ((agF g vs 0 none).getD (cE 1))), .bool (agF g vs 0 none).isSome], h) := by
  have hC := constR_run (k - 1) h h.length 1
  rw [show k - 1 + 1 = k by omega] at hC
  apply W_call Tryz.func94 rfl (Nat.le_of_ble_eq_true rfl) rfl rfl
  (repeat' (first | apply W_seq | refine W_region (id := 0) rfl rfl ?_ | (refine W_ops (id := 1) rfl ?_ <;> (refine T_go rfl ?_; refine G_op (O_call rfl rfl rfl rfl ‹_›) ?_) <;> refine T_ch 3 rfl ?_ <;> apply T_nil) | refine W_region (id := 2) rfl rfl ?_ | apply W_block))
  apply W_iterI (S := agS h vs gv) (l := vs) (a0 := none) (fun i rest a => agF g rest i a = agF g vs 0 none) (by omega) (by omega) rfl rfl
  · intro i v rest a hi hd hil hJ1
    have hrow := vsC_get hi
    have hlt := lt_vsC hil
    have hcv := hc v (List.mem_of_getElem? hi)
    have hgi := boC_get (g := g) hil
    have hacc := hgv (by omega)
    subst hacc
    rw [agF] at hJ1
    obtain ⟨nm, level, cells⟩ := v
    dsimp only at hcv hJ1
    cases hg : g i
    · rw [hg] at hgi hJ1
      rw [if_neg (by simp)] at hJ1
      (repeat' (first | apply W_seq | refine W_true rfl rfl ?_ | (refine W_ops (id := 3) rfl ?_ <;> refine T_ch 3 rfl ?_ <;> (refine T_go rfl ?_; refine G_true rfl (by with_reducible assumption) ?_) <;> apply T_nil) | refine W_region (id := 5) rfl rfl ?_ | apply W_skip | apply W_block))
      apply W_iterI (S := agI h vs (.vs 1 (boC g vs.length)) i) (l := ([] : List Nat)) (a0 := a) (fun w ws b => b = a) (by simp) (by simp; omega) rfl rfl
      · intro w x ws b hw
        simp at hw
      · intro b hb
        subst hb
        (repeat' (first | apply W_seq | refine W_false rfl rfl ?_ | (refine W_ops (id := 6) rfl ?_ <;> refine T_ch 3 rfl ?_ <;> (refine T_go rfl ?_; refine G_op (O_index rfl rfl rfl rfl rfl ‹_›) ?_) <;> refine T_ch 1 rfl ?_ <;> (refine T_go rfl ?_; refine G_op rfl ?_) <;> (refine T_go rfl ?_; refine G_split rfl (fun _ => ?_) (fun _ => ?_)) <;> refine T_ch 3 rfl ?_ <;> (first | refine T_skip rfl ?_ | (refine T_go rfl ?_; refine G_op (O_index rfl rfl rfl rfl rfl ‹_›) ?_)) <;> (first | refine T_skip rfl ?_ | (refine T_go rfl ?_; refine G_false rfl rfl ?_)) <;> refine T_ch 1 rfl ?_ <;> apply T_nil) | refine W_region (id := 4) rfl rfl ?_ | apply W_exit))
        all_goals exact ⟨b, rfl, hJ1⟩
    · rw [hg] at hgi hJ1
      rw [if_pos rfl] at hJ1
      (repeat' (first | apply W_seq | refine W_true rfl rfl ?_ | (refine W_ops (id := 3) rfl ?_ <;> refine T_ch 3 rfl ?_ <;> (refine T_go rfl ?_; refine G_true rfl (by with_reducible assumption) ?_) <;> apply T_nil) | refine W_region (id := 5) rfl rfl ?_ | apply W_skip | apply W_block))
      apply W_iterI (S := agI h vs (.vs 1 (boC g vs.length)) i) (l := List.range cells.toNat) (a0 := a) (fun w ws b => agF g rest (i + 1) (ws.foldl (stE i cells) b) = agF g vs 0 none) (by simp; omega) (by simp; omega) rfl hJ1
      · intro w x ws b hw hdw hwl hJ2
        have hx : x = w := by
          have := List.getElem?_range (n := cells.toNat) (i := w) (by simpa using hwl)
          rw [this] at hw; injection hw with hw; exact hw.symm
        subst hx
        have hlw : decide ((x : Int) < cells) = true := decide_eq_true (by simp at hwl; omega)
        have hE := equalR_run (k - 3) h h.length vs i ⟨nm, level, cells⟩ hi x
        rw [show k - 3 + 3 = k by omega] at hE
        dsimp only at hE
        rw [List.foldl_cons] at hJ2
        cases b with
        | none =>
          (repeat' (first | apply W_seq | refine W_true rfl rfl ?_ | refine W_false rfl rfl ?_ | (refine W_ops (id := 6) rfl ?_ <;> refine T_ch 3 rfl ?_ <;> (refine T_go rfl ?_; refine G_op (O_index rfl rfl rfl rfl rfl ‹_›) ?_) <;> refine T_ch 1 rfl ?_ <;> (refine T_go rfl ?_; refine G_op rfl ?_) <;> (refine T_go rfl ?_; refine G_true rfl (by with_reducible assumption) ?_) <;> refine T_ch 3 rfl ?_ <;> (refine T_go rfl ?_; refine G_op (O_index rfl rfl rfl rfl rfl ‹_›) ?_) <;> (refine T_go rfl ?_; refine G_true rfl rfl ?_) <;> refine T_ch 1 rfl ?_ <;> apply T_nil) | refine W_region (id := 7) rfl rfl ?_ | (refine W_ops (id := 8) rfl ?_ <;> refine T_ch 5 rfl ?_ <;> (refine T_go rfl ?_; refine G_op (O_call rfl rfl rfl rfl ‹_›) ?_) <;> refine T_ch 2 rfl ?_ <;> apply T_nil) | refine W_region (id := 9) rfl rfl ?_ | refine W_region (id := 11) rfl rfl ?_ | apply W_skip | apply W_block))
          exact ⟨some (eqE i x cells), rfl, hJ2⟩
        | some e =>
          have hB := bothR_run (k - 2) h h.length e (eqE i x cells)
          rw [show k - 2 + 2 = k by omega] at hB
          obtain ⟨o, n, c, l⟩ := e
          (repeat' (first | apply W_seq | refine W_true rfl rfl ?_ | (refine W_ops (id := 6) rfl ?_ <;> refine T_ch 3 rfl ?_ <;> (refine T_go rfl ?_; refine G_op (O_index rfl rfl rfl rfl rfl ‹_›) ?_) <;> refine T_ch 1 rfl ?_ <;> (refine T_go rfl ?_; refine G_op rfl ?_) <;> (refine T_go rfl ?_; refine G_true rfl (by with_reducible assumption) ?_) <;> refine T_ch 3 rfl ?_ <;> (refine T_go rfl ?_; refine G_op (O_index rfl rfl rfl rfl rfl ‹_›) ?_) <;> (refine T_go rfl ?_; refine G_true rfl rfl ?_) <;> refine T_ch 1 rfl ?_ <;> apply T_nil) | refine W_region (id := 7) rfl rfl ?_ | (refine W_ops (id := 8) rfl ?_ <;> refine T_ch 5 rfl ?_ <;> (refine T_go rfl ?_; refine G_op (O_call rfl rfl rfl rfl ‹_›) ?_) <;> refine T_ch 2 rfl ?_ <;> apply T_nil) | refine W_region (id := 9) rfl rfl ?_ | (refine W_ops (id := 10) rfl ?_ <;> refine T_ch 2 rfl ?_ <;> (refine T_go rfl ?_; refine G_op (O_call rfl rfl rfl rfl ‹_›) ?_) <;> refine T_ch 1 rfl ?_ <;> apply T_nil) | refine W_region (id := 11) rfl rfl ?_ | apply W_skip | apply W_block))
          exact ⟨some (bothE (.mk o n c l) (eqE i x cells)), rfl, hJ2⟩
      · intro b hJ2
        have hlw : decide (((List.range cells.toNat).length : Int) < cells) = false := decide_eq_false (by simp; omega)
        (repeat' (first | apply W_seq | refine W_false rfl rfl ?_ | (refine W_ops (id := 6) rfl ?_ <;> refine T_ch 3 rfl ?_ <;> (refine T_go rfl ?_; refine G_op (O_index rfl rfl rfl rfl rfl ‹_›) ?_) <;> refine T_ch 1 rfl ?_ <;> (refine T_go rfl ?_; refine G_op rfl ?_) <;> (refine T_go rfl ?_; refine G_false rfl (by with_reducible assumption) ?_) <;> refine T_ch 3 rfl ?_ <;> refine T_skip rfl ?_ <;> refine T_skip rfl ?_ <;> refine T_ch 1 rfl ?_ <;> apply T_nil) | refine W_region (id := 4) rfl rfl ?_ | apply W_exit))
        all_goals exact ⟨b, rfl, hJ2⟩
  · intro a hJ1
    rw [agF] at hJ1
    have hlt := ge_vsC (l := vs)
    rw [← hJ1]
    cases a with
    | none =>
      (repeat' (first | apply W_seq | refine W_false rfl rfl ?_ | (refine W_ops (id := 3) rfl ?_ <;> refine T_ch 3 rfl ?_ <;> (refine T_go rfl ?_; refine G_false rfl (by with_reducible assumption) ?_) <;> apply T_nil) | refine W_region (id := 12) rfl rfl ?_ | apply W_ret | apply W_exit))
      exact ⟨.inl rfl, rfl⟩
    | some e =>
      obtain ⟨o, n, c, l⟩ := e
      (repeat' (first | apply W_seq | refine W_false rfl rfl ?_ | (refine W_ops (id := 3) rfl ?_ <;> refine T_ch 3 rfl ?_ <;> (refine T_go rfl ?_; refine G_false rfl (by with_reducible assumption) ?_) <;> apply T_nil) | refine W_region (id := 12) rfl rfl ?_ | apply W_ret | apply W_exit))
      exact ⟨.inl rfl, rfl⟩
/- level.Expr, and the law LevelExprs. -/
theorem accV_ne {sz : Nat} {rows : List (List AV)} (h : rows ≠ []) : accV sz rows = .vs sz rows := by
  cases rows with
  | nil => exact absurd rfl h
  | cons r l => rfl
theorem levs_len (p : Pr') : (levs p).length = p.vars.length := by simp [levs]
theorem levs_ne {p : Pr'} (h : 1 ≤ p.vars.length) : intsC (levs p) ≠ [] := fun e => by
  have := congrArg List.length e
  rw [intsC_len, levs_len, List.length_nil] at this
  omega
theorem faultI_cases (p : Pr') : (faultI p = 0 ∧ isP p = true ∧ singleR p = true) ∨ faultI p = 1 ∨ faultI p = 30 := by
  unfold faultI
  cases isP p <;> cases singleR p <;> simp
theorem awake_run (k lo : Nat) (h : Heap) (hk : 1 ≤ k) : call Tryz.prog cfg k lo (.func 6) [] h = some (.bool true, h) := by
  cases k with
  | zero => omega
  | succ k => rfl
/- Flows: small functions; items. -/
def oaS (h : Heap) (lo : Nat) (l : List Int) (es : List Ex') (j : Int) (a : Int) : St :=
  { env := [(0, .v (.vs 1 (intsC l))), (5, .v (.int .i64 a)), (8, .v (.vs 4 (exsC es))), (9, .v (.int .i64 (exsC es).length)), (10, .v (.int .i64 j))], loc := [], heap := h, inRound := false, lo := lo }
theorem ofAll_run (es : List Ex') (l : List Int) (k : Nat) (hk : exsK es ≤ k) (hl : es.length < 9223372036854775808) (hb : exsB es) (hr : rdEs l.length es) (h : Heap) (lo : Nat) : call Tryz.prog cfg (k + 1) lo (.func 61) [.vs 1 (intsC l), .vs 4 (exsC es)] h = some (.int .i64 (ofEs l 0 es), h) := by
  have hlen := exsK_len es
  apply W_call Tryz.func61 rfl (Nat.le_of_ble_eq_true rfl) rfl rfl
  (repeat' (first | apply W_seq | refine W_region (id := 0) rfl rfl ?_ | refine W_region (id := 1) rfl rfl ?_ | refine W_region (id := 2) rfl rfl ?_ | apply W_block))
  apply W_iter (S := oaS h h.length l es) (l := es) (a0 := 0) (fun rest a => ofEs l a rest = ofEs l 0 es) hl (by omega) rfl rfl
  · intro i e rest a hi hd hil hJ
    have hrow := exsC_get _ _ _ hi
    have ih := of_run k e l (by have := exsK_mem es i _ hi; omega) (exsB_mem es i _ hb hi) (rdEs_mem hr hi) h.length h
    have hlt := lt_exs hil
    obtain ⟨op', n', cp', es'⟩ := e
    (repeat' (first | apply W_seq | refine W_true rfl rfl ?_ | (refine W_ops (id := 3) rfl ?_ <;> (refine T_go rfl ?_; refine G_true rfl (by with_reducible assumption) ?_) <;> apply T_nil) | (refine W_ops (id := 4) rfl ?_ <;> (refine T_go rfl ?_; refine G_op (O_index rfl rfl rfl rfl rfl ‹_›) ?_) <;> (refine T_go rfl ?_; refine G_op rfl ?_) <;> refine T_ch 2 rfl ?_ <;> apply T_nil) | (refine W_ops (id := 5) rfl ?_ <;> refine T_ch 3 rfl ?_ <;> (refine T_go rfl ?_; refine G_op (O_call rfl rfl rfl rfl ‹_›) ?_) <;> refine T_ch 2 rfl ?_ <;> apply T_nil) | refine W_region (id := 6) rfl rfl ?_ | apply W_skip | apply W_block))
    exact ⟨_, rfl, by rw [← hJ]; rfl⟩
  · intro a hJ
    have hlt := ge_exs (l := es)
    (repeat' (first | apply W_seq | refine W_false rfl rfl ?_ | (refine W_ops (id := 3) rfl ?_ <;> (refine T_go rfl ?_; refine G_false rfl (by with_reducible assumption) ?_) <;> apply T_nil) | refine W_region (id := 7) rfl rfl ?_ | apply W_ret | apply W_exit))
    exact ⟨.inl rfl, Eq.trans (b := some (AV.int .i64 a, _)) rfl (by rw [← hJ]; rfl)⟩
def aaS (h : Heap) (lo : Nat) (l : List Int) (s : Sm') (j : Int) (a : Int) : St :=
  { env := [(0, .v (.vs 1 (intsC l))), (3, .p 3 0), (5, .v (.int .i64 a)), (6, .v (.int .i64 j))], loc := [(3, smC s)], heap := h, inRound := false, lo := lo }
theorem argsR_run (op n : Int) (es : List Ex') (t e : List Sm') (l : List Int) (k : Nat) (hk : exsK es + 1 ≤ k) (hl : es.length < 9223372036854775808) (hb : exsB es) (hr : rdEs l.length es) (h : Heap) (lo : Nat) :
    call Tryz.prog cfg (k + 1) lo (.func 93) [.vs 1 (intsC l), .agg (smC (.mk op n es t e))] h = some (.int .i64 (ofEs l 0 es), h) := by
  have hlen := exsK_len es
  apply W_call Tryz.func93 rfl (Nat.le_of_ble_eq_true rfl) rfl rfl
  (repeat' (first | apply W_seq | refine W_region (id := 0) rfl rfl ?_ | refine W_region (id := 1) rfl rfl ?_ | refine W_region (id := 2) rfl rfl ?_ | apply W_block))
  apply W_iter (S := aaS h h.length l (.mk op n es t e)) (l := es) (a0 := 0) (fun rest a => ofEs l a rest = ofEs l 0 es) hl (by omega) rfl rfl
  · intro i e' rest a hi hd hil hJ
    have hrow := exsC_get _ _ _ hi
    have ih := ofR_run k e' l (by have := exsK_mem1 es i _ hi; omega) (exsB_mem es i _ hb hi) (rdEs_mem hr hi) h.length h
    have hO := or_run (k - 1) h.length a (ofE l e') h
    rw [show k - 1 + 1 = k by omega] at hO
    have hlt := lt_exs hil
    obtain ⟨op', n', cp', es'⟩ := e'
    (repeat' (first | apply W_seq | refine W_true rfl rfl ?_ | (refine W_ops (id := 3) rfl ?_ <;> refine T_ch 4 rfl ?_ <;> (refine T_go rfl ?_; refine G_true rfl (by with_reducible assumption) ?_) <;> apply T_nil) | refine W_region (id := 4) rfl rfl ?_ | (refine W_ops (id := 5) rfl ?_ <;> refine T_ch 5 rfl ?_ <;> (refine T_go rfl ?_; refine G_op (O_index rfl rfl rfl rfl rfl ‹_›) ?_) <;> (refine T_go rfl ?_; refine G_op rfl ?_) <;> (refine T_go rfl ?_; refine G_op (O_call rfl rfl rfl rfl ‹_›) ?_) <;> (refine T_go rfl ?_; refine G_op (O_call rfl rfl rfl rfl ‹_›) ?_) <;> refine T_ch 1 rfl ?_ <;> apply T_nil) | apply W_skip | apply W_block))
    exact ⟨_, rfl, by rw [← hJ]; rfl⟩
  · intro a hJ
    have hlt := ge_exs (l := es)
    (repeat' (first | apply W_seq | refine W_false rfl rfl ?_ | (refine W_ops (id := 3) rfl ?_ <;> refine T_ch 4 rfl ?_ <;> (refine T_go rfl ?_; refine G_false rfl (by with_reducible assumption) ?_) <;> apply T_nil) | refine W_region (id := 6) rfl rfl ?_ | apply W_ret | apply W_exit))
    exact ⟨.inl rfl, Eq.trans (b := some (AV.int .i64 a, _)) rfl (by rw [← hJ]; rfl)⟩
def withinB (a b : Int) : Bool := IntKind.i64.wrap ((BitVec.ofInt 64 a) &&& ~~~(BitVec.ofInt 64 b)).toNat == 0
theorem within_run (a b : Int) (k lo : Nat) (h : Heap) : call Tryz.prog cfg (k + 1) lo (.func 35) [.int .i64 a, .int .i64 b] h = some (.bool (withinB a b), h) := by
  cases hc : withinB a b
  all_goals
    unfold withinB at hc
    apply W_call Tryz.func35 rfl (Nat.le_of_ble_eq_true rfl) rfl rfl
    (repeat' (first | apply W_seq | refine W_region (id := 0) rfl rfl ?_ | (refine W_ops (id := 1) rfl ?_ <;> refine T_ch 3 rfl ?_ <;> (refine T_go rfl ?_; first | refine G_true rfl ‹_› ?_ | refine G_false rfl ‹_› ?_) <;> refine T_ch 1 rfl ?_ <;> apply T_nil) | apply W_ret))
    all_goals exact ⟨.inl rfl, rfl⟩
theorem withinR_run (a b : Int) (k lo : Nat) (h : Heap) : call Tryz.prog cfg (k + 1) lo (.func 51) [.int .i64 a, .int .i64 b] h = some (.bool (withinB a b), h) := by
  cases hc : withinB a b
  all_goals
    unfold withinB at hc
    apply W_call Tryz.func51 rfl (Nat.le_of_ble_eq_true rfl) rfl rfl
    (repeat' (first | apply W_seq | refine W_region (id := 0) rfl rfl ?_ | (refine W_ops (id := 1) rfl ?_ <;> refine T_ch 3 rfl ?_ <;> (refine T_go rfl ?_; first | refine G_true rfl ‹_› ?_ | refine G_false rfl ‹_› ?_) <;> refine T_ch 1 rfl ?_ <;> apply T_nil) | apply W_ret))
    all_goals exact ⟨.inl rfl, rfl⟩
def flowL (a f t : Int) : List (List AV) := if withinB f t = true then [] else [[.int .i64 a, .int .i64 f, .int .i64 t]]
theorem flow_run (a f t : Int) (k lo : Nat) (h : Heap) : call Tryz.prog cfg (k + 2) lo (.func 91) [.int .i64 a, .int .i64 f, .int .i64 t] h = some (accV 3 (flowL a f t), h) := by
  have hw := withinR_run f t k h.length h
  unfold flowL
  cases hc : withinB f t
  · rw [hc] at hw
    rw [if_neg (by simp)]
    apply W_call Tryz.func91 rfl (Nat.le_of_ble_eq_true rfl) rfl rfl
    (repeat' (first | apply W_seq | refine W_false rfl rfl ?_ | refine W_region (id := 0) rfl rfl ?_ | (refine W_ops (id := 1) rfl ?_ <;> refine T_ch 2 rfl ?_ <;> (refine T_go rfl ?_; refine G_false (O_call rfl rfl rfl rfl ‹_›) rfl ?_) <;> apply T_nil) | refine W_region (id := 3) rfl rfl ?_ | apply W_skip | apply W_ret))
    all_goals exact ⟨.inl rfl, rfl⟩
  · rw [hc] at hw
    rw [if_pos rfl]
    apply W_call Tryz.func91 rfl (Nat.le_of_ble_eq_true rfl) rfl rfl
    (repeat' (first | apply W_seq | refine W_true rfl rfl ?_ | refine W_region (id := 0) rfl rfl ?_ | (refine W_ops (id := 1) rfl ?_ <;> refine T_ch 2 rfl ?_ <;> (refine T_go rfl ?_; refine G_true (O_call rfl rfl rfl rfl ‹_›) rfl ?_) <;> apply T_nil) | refine W_region (id := 2) rfl rfl ?_ | apply W_ret))
    all_goals exact ⟨.inl rfl, rfl⟩
mutual
def cnt1 : Sm' → Int → Int
  | .mk _ _ _ t e, n => IntKind.i64.wrap (IntKind.i64.wrap (IntKind.i64.wrap (n + 1) + cntL t 0) + cntL e 0)
def cntL : List Sm' → Int → Int
  | [], n => n
  | s :: l, n => cntL l (cnt1 s n)
end
def cnS (h : Heap) (lo : Nat) (l : List Sm') (i : Int) (n : Int) : St :=
  { env := [(0, .v (.vs 5 (smsC l))), (3, .v (.int .i64 n)), (4, .v (.int .i64 i))], loc := [], heap := h, inRound := false, lo := lo }
theorem count_run : ∀ (k : Nat) (l : List Sm'), smsK l ≤ k → l.length < 9223372036854775808 → smsB l → ∀ (h : Heap) (lo : Nat), call Tryz.prog cfg k lo (.func 130) [.vs 5 (smsC l)] h = some (.int .i64 (cntL l 0), h)
  | 0, l, hk, _, _, _, _ => by have := smsK_len l; omega
  | k + 1, l, hk, hlen, hb, h, lo => by
    have hll := smsK_len l
    apply W_call Tryz.func130 rfl (Nat.le_of_ble_eq_true rfl) rfl rfl
    (repeat' (first | apply W_seq | refine W_region (id := 0) rfl rfl ?_ | refine W_region (id := 1) rfl rfl ?_ | refine W_region (id := 2) rfl rfl ?_ | apply W_block))
    apply W_iter (S := cnS h h.length l) (l := l) (a0 := 0) (fun rest a => cntL rest a = cntL l 0) hlen (by omega) rfl rfl
    · intro i st rest a hi hd hil hJ
      have hlt := lt_sms hil
      have hrow := smsC_get _ _ _ hi
      have hmem := smsK_mem l i _ hi
      have hbm := smsB_mem l i _ hb hi
      obtain ⟨op, nn, ar, t, e⟩ := st
      rw [smK] at hmem
      rw [smB] at hbm
      obtain ⟨⟨ha1, ha2⟩, ⟨ht1, ht2⟩, he1, he2⟩ := hbm
      have hla := exsK_len ar
      rw [cntL, cnt1] at hJ
      have iht := count_run k t (by omega) ht1 ht2 h h.length
      have ihe := count_run k e (by omega) he1 he2 h h.length
      (repeat' (first | apply W_seq | refine W_true rfl rfl ?_ | (refine W_ops (id := 3) rfl ?_ <;> refine T_ch 3 rfl ?_ <;> (refine T_go rfl ?_; refine G_true rfl (by with_reducible assumption) ?_) <;> apply T_nil) | refine W_region (id := 4) rfl rfl ?_ | (refine W_dops (id := 5) (bs := [0, 1, 0, 0, 12, 28, 60, 124, 255, 0, 0, 1536, 3584, 7680, 16124, 32767, 65535]) rfl (by decide +kernel) (by decide +kernel) ?_ <;> (refine U_go rfl ?_; refine H_free (by decide +kernel) rfl rfl rfl rfl rfl ?_) <;> (refine U_go rfl ?_; refine H_free (by decide +kernel) rfl rfl rfl rfl rfl ?_) <;> (refine U_go rfl ?_; refine H_free (by decide +kernel) rfl rfl rfl rfl rfl ?_) <;> (refine U_go rfl ?_; refine H_free (by decide +kernel) rfl rfl rfl rfl rfl ?_) <;> (refine U_go rfl ?_; refine H_free (by decide +kernel) rfl (O_index rfl rfl rfl rfl rfl ‹_›) rfl rfl rfl ?_) <;> (refine U_go rfl ?_; refine H_free (by decide +kernel) rfl rfl rfl rfl rfl ?_) <;> (refine U_go rfl ?_; refine H_free (by decide +kernel) rfl rfl rfl rfl rfl ?_) <;> (refine U_go rfl ?_; refine H_free (by decide +kernel) rfl (O_call rfl rfl rfl rfl ‹_›) rfl rfl rfl ?_) <;> (refine U_go rfl ?_; refine H_free (by decide +kernel) rfl rfl rfl rfl rfl ?_) <;> (refine U_go rfl ?_; refine H_free (by decide +kernel) rfl rfl rfl rfl rfl ?_) <;> (refine U_go rfl ?_; refine H_free (by decide +kernel) rfl rfl rfl rfl rfl ?_) <;> (refine U_go rfl ?_; refine H_free (by decide +kernel) rfl (O_index rfl rfl rfl rfl rfl ‹_›) rfl rfl rfl ?_) <;> (refine U_go rfl ?_; refine H_free (by decide +kernel) rfl rfl rfl rfl rfl ?_) <;> (refine U_go rfl ?_; refine H_free (by decide +kernel) rfl rfl rfl rfl rfl ?_) <;> (refine U_go rfl ?_; refine H_free (by decide +kernel) rfl (O_call rfl rfl rfl rfl ‹_›) rfl rfl rfl ?_) <;> (refine U_go rfl ?_; refine H_op (by decide +kernel) rfl ?_) <;> (refine U_go rfl ?_; refine H_op (by decide +kernel) rfl ?_) <;> apply U_nil) | apply W_skip | apply W_block))
      exact ⟨_, rfl, hJ⟩
    · intro a hJ
      have hlt := ge_sms (l := l)
      (repeat' (first | apply W_seq | refine W_false rfl rfl ?_ | (refine W_ops (id := 3) rfl ?_ <;> refine T_ch 3 rfl ?_ <;> (refine T_go rfl ?_; refine G_false rfl (by with_reducible assumption) ?_) <;> apply T_nil) | refine W_region (id := 6) rfl rfl ?_ | apply W_ret | apply W_exit))
      exact ⟨.inl rfl, Eq.trans (b := some (AV.int .i64 a, _)) rfl (by rw [← hJ]; rfl)⟩
def itC (x : Int × Sm') : List AV := .int .i64 x.1 :: smC x.2
def itemsL : List Sm' → Int → List (Int × Sm')
  | [], _ => []
  | s :: l, n => (n, s) :: itemsL l (cnt1 s n)
theorem itemsL_len : ∀ (l : List Sm') (n : Int), (itemsL l n).length = l.length
  | [], _ => rfl
  | s :: l, n => by simp [itemsL, itemsL_len l]
theorem itC_row (its : List (Int × Sm')) : ∀ r, r ∈ its.map itC → r.length = 6 ∧ ∀ x, x ∈ r → static x = true := by
  intro r hr
  obtain ⟨⟨n, s⟩, _, rfl⟩ := List.mem_map.1 hr
  obtain ⟨op, nn, a, t, e⟩ := s
  refine ⟨rfl, fun x hx => ?_⟩
  simp only [itC, smC, List.mem_cons, List.not_mem_nil, or_false] at hx
  rcases hx with rfl | rfl | rfl | rfl | rfl | rfl <;> rfl
theorem it_append (h : Heap) (its : List (Int × Sm')) (x : Int × Sm') (hl : its.length < 100000) : append cfg.tab h.length (accH h 92 (its.map itC)) 89 (accA h 6 (its.map itC)) (.vs 6 [itC x]) = some (accA h 6 ((its ++ [x]).map itC), accH h 92 ((its ++ [x]).map itC)) := by
  have := acc_append (tab := cfg.tab) (lo := h.length) (h := h) (t := 89) (e := 92) rfl rfl (by decide) (Nat.le_refl _) (its.map itC) [itC x] (fun r hr => (itC_row its r hr).1) (by rw [List.length_map]; simp only [List.length_cons, List.length_nil, room]; show (its.length + (0 + 1)) * 96 ≤ _; omega) (by rw [List.length_map]; simp [room]; omega)
  rw [this]
  simp
def imS (h : Heap) (l : List Sm') (i : Int) (a : List (Int × Sm') × Int) : St :=
  { env := [(0, .v (.vs 5 (smsC l))), (1, .v (.int .i64 a.2)), (5, .v (accA h 6 (a.1.map itC))), (6, .v (.int .i64 i))], loc := [], heap := accH h 92 (a.1.map itC), inRound := false, lo := h.length }
theorem items_run (l : List Sm') (n : Int) (k : Nat) (hk : smsK l ≤ k) (hl : l.length < 1000) (hb : smsB l) (h : Heap) (lo : Nat) : call Tryz.prog cfg (k + 1) lo (.func 89) [.vs 5 (smsC l), .int .i64 n] h = some (accV 6 ((itemsL l n).map itC), h) := by
  have hll := smsK_len l
  have hfin := acc_frz (h := h) (e := 92) (sz := 6) ((itemsL l n).map itC) (itC_row _)
  apply W_call Tryz.func89 rfl (Nat.le_of_ble_eq_true rfl) rfl rfl
  (repeat' (first | apply W_seq | refine W_region (id := 0) rfl rfl ?_ | refine W_region (id := 1) rfl rfl ?_ | refine W_region (id := 2) rfl rfl ?_ | apply W_block))
  apply W_iterI (S := imS h l) (l := l) (a0 := ([], n)) (fun i rest a => a.1 ++ itemsL rest a.2 = itemsL l n ∧ a.1.length = i) (by omega) (by omega) rfl ⟨rfl, rfl⟩
  · intro i st rest a hi hd hil hJ
    obtain ⟨its, m⟩ := a
    have hlt := lt_sms hil
    have hrow := smsC_get _ _ _ hi
    have hmem := smsK_mem l i _ hi
    have hbm := smsB_mem l i _ hb hi
    have hap := it_append h its (m, st) (by have := hJ.2; dsimp only at this; omega)
    obtain ⟨hJ, hJl⟩ := hJ
    rw [itemsL] at hJ
    obtain ⟨op, nn, ar, t, e⟩ := st
    rw [smK] at hmem
    rw [smB] at hbm
    obtain ⟨⟨ha1, ha2⟩, ⟨ht1, ht2⟩, he1, he2⟩ := hbm
    have hla := exsK_len ar
    rw [cnt1] at hJ
    dsimp only at hJ hJl
    have iht := count_run k t (by omega) ht1 ht2 (accH h 92 ((its ++ [(m, Sm'.mk op nn ar t e)]).map itC)) (accH h 92 ((its ++ [(m, Sm'.mk op nn ar t e)]).map itC)).length
    have ihe := count_run k e (by omega) he1 he2 (accH h 92 ((its ++ [(m, Sm'.mk op nn ar t e)]).map itC)) (accH h 92 ((its ++ [(m, Sm'.mk op nn ar t e)]).map itC)).length
    (repeat' (first | apply W_seq | refine W_true rfl rfl ?_ | (refine W_ops (id := 3) rfl ?_ <;> refine T_ch 3 rfl ?_ <;> (refine T_go rfl ?_; refine G_true rfl (by with_reducible assumption) ?_) <;> apply T_nil) | refine W_region (id := 4) rfl rfl ?_ | (refine W_ops (id := 5) rfl ?_ <;> refine T_ch 4 rfl ?_ <;> (refine T_go rfl ?_; refine G_op (O_index rfl rfl rfl rfl rfl ‹_›) ?_) <;> (refine T_go rfl ?_; refine G_op rfl ?_) <;> refine T_ch 2 rfl ?_ <;> (refine T_go rfl ?_; refine G_op (O_append rfl rfl rfl rfl rfl ‹_›) ?_) <;> refine T_ch 1 rfl ?_ <;> apply T_nil) | (refine W_dops (id := 6) (bs := [0, 1, 0, 0, 12, 28, 60, 124, 255, 0, 0, 1536, 3584, 7680, 16124, 32767, 65535]) rfl (by decide +kernel) (by decide +kernel) ?_ <;> (refine U_go rfl ?_; refine H_free (by decide +kernel) rfl rfl rfl rfl rfl ?_) <;> (refine U_go rfl ?_; refine H_free (by decide +kernel) rfl rfl rfl rfl rfl ?_) <;> (refine U_go rfl ?_; refine H_free (by decide +kernel) rfl rfl rfl rfl rfl ?_) <;> (refine U_go rfl ?_; refine H_free (by decide +kernel) rfl rfl rfl rfl rfl ?_) <;> (refine U_go rfl ?_; refine H_free (by decide +kernel) rfl (O_index rfl rfl rfl rfl rfl ‹_›) rfl rfl rfl ?_) <;> (refine U_go rfl ?_; refine H_free (by decide +kernel) rfl rfl rfl rfl rfl ?_) <;> (refine U_go rfl ?_; refine H_free (by decide +kernel) rfl rfl rfl rfl rfl ?_) <;> (refine U_go rfl ?_; refine H_free (by decide +kernel) rfl (O_call rfl rfl rfl rfl ‹_›) rfl rfl rfl ?_) <;> (refine U_go rfl ?_; refine H_free (by decide +kernel) rfl rfl rfl rfl rfl ?_) <;> (refine U_go rfl ?_; refine H_free (by decide +kernel) rfl rfl rfl rfl rfl ?_) <;> (refine U_go rfl ?_; refine H_free (by decide +kernel) rfl rfl rfl rfl rfl ?_) <;> (refine U_go rfl ?_; refine H_free (by decide +kernel) rfl (O_index rfl rfl rfl rfl rfl ‹_›) rfl rfl rfl ?_) <;> (refine U_go rfl ?_; refine H_free (by decide +kernel) rfl rfl rfl rfl rfl ?_) <;> (refine U_go rfl ?_; refine H_free (by decide +kernel) rfl rfl rfl rfl rfl ?_) <;> (refine U_go rfl ?_; refine H_free (by decide +kernel) rfl (O_call rfl rfl rfl rfl ‹_›) rfl rfl rfl ?_) <;> (refine U_go rfl ?_; refine H_op (by decide +kernel) rfl ?_) <;> (refine U_go rfl ?_; refine H_op (by decide +kernel) rfl ?_) <;> apply U_nil) | apply W_skip | apply W_block))
    exact ⟨(its ++ [(m, .mk op nn ar t e)], IntKind.i64.wrap (IntKind.i64.wrap (IntKind.i64.wrap (m + 1) + cntL t 0) + cntL e 0)), rfl, by rw [← hJ]; simp, by simp [hJl]⟩
  · intro a hJ
    have hlt := ge_sms (l := l)
    obtain ⟨its, m⟩ := a
    (repeat' (first | apply W_seq | refine W_false rfl rfl ?_ | (refine W_ops (id := 3) rfl ?_ <;> refine T_ch 3 rfl ?_ <;> (refine T_go rfl ?_; refine G_false rfl (by with_reducible assumption) ?_) <;> apply T_nil) | refine W_region (id := 7) rfl rfl ?_ | apply W_ret | apply W_exit))
    have : its = itemsL l n := by simpa [itemsL] using hJ.1
    subst this
    exact ⟨.inl rfl, hfin⟩
theorem then_run (n op nn : Int) (a : List Ex') (t e : List Sm') (k : Nat) (hk : smsK t + 1 ≤ k) (hl : t.length < 1000) (hb : smsB t) (h : Heap) (lo : Nat) :
    call Tryz.prog cfg (k + 1) lo (.func 128) [.agg (itC (n, .mk op nn a t e))] h = some (accV 6 ((itemsL t (IntKind.i64.wrap (n + 1))).map itC), h) := by
  have hi := items_run t (IntKind.i64.wrap (n + 1)) (k - 1) (by omega) hl hb h h.length
  rw [show k - 1 + 1 = k by omega] at hi
  generalize itemsL t (IntKind.i64.wrap (n + 1)) = its at hi
  cases its <;>
  · apply W_call Tryz.func128 rfl (Nat.le_of_ble_eq_true rfl) rfl rfl
    (repeat' (first | apply W_seq | refine W_region (id := 0) rfl rfl ?_ | (refine W_ops (id := 1) rfl ?_ <;> refine T_ch 6 rfl ?_ <;> (refine T_go rfl ?_; refine G_op (O_call rfl rfl rfl rfl ‹_›) ?_) <;> refine T_ch 1 rfl ?_ <;> apply T_nil) | apply W_ret))
    exact ⟨.inl rfl, rfl⟩
theorem else_run (n op nn : Int) (a : List Ex') (t e : List Sm') (k : Nat) (hk : smsK t + smsK e + 1 ≤ k) (ht : t.length < 1000) (htb : smsB t) (hl : e.length < 1000) (hb : smsB e) (h : Heap) (lo : Nat) :
    call Tryz.prog cfg (k + 1) lo (.func 129) [.agg (itC (n, .mk op nn a t e))] h = some (accV 6 ((itemsL e (IntKind.i64.wrap (IntKind.i64.wrap (n + 1) + cntL t 0))).map itC), h) := by
  have hc := count_run k t (by omega) (by omega) htb h h.length
  have hi := items_run e (IntKind.i64.wrap (IntKind.i64.wrap (n + 1) + cntL t 0)) (k - 1) (by omega) hl hb h h.length
  rw [show k - 1 + 1 = k by omega] at hi
  generalize itemsL e (IntKind.i64.wrap (IntKind.i64.wrap (n + 1) + cntL t 0)) = its at hi
  cases its <;>
  · apply W_call Tryz.func129 rfl (Nat.le_of_ble_eq_true rfl) rfl rfl
    (repeat' (first | apply W_seq | refine W_region (id := 0) rfl rfl ?_ | (refine W_dops (id := 1) (bs := [0, 1, 3, 0, 8, 24, 0, 64, 192, 448, 1016, 2047, 4095]) rfl (by decide +kernel) (by decide +kernel) ?_ <;> (refine U_go rfl ?_; refine H_free (by decide +kernel) rfl rfl rfl rfl rfl ?_) <;> (refine U_go rfl ?_; refine H_free (by decide +kernel) rfl rfl rfl rfl rfl ?_) <;> (refine U_go rfl ?_; refine H_free (by decide +kernel) rfl rfl rfl rfl rfl ?_) <;> (refine U_go rfl ?_; refine H_free (by decide +kernel) rfl rfl rfl rfl rfl ?_) <;> (refine U_go rfl ?_; refine H_free (by decide +kernel) rfl rfl rfl rfl rfl ?_) <;> (refine U_go rfl ?_; refine H_free (by decide +kernel) rfl rfl rfl rfl rfl ?_) <;> (refine U_go rfl ?_; refine H_free (by decide +kernel) rfl rfl rfl rfl rfl ?_) <;> (refine U_go rfl ?_; refine H_free (by decide +kernel) rfl rfl rfl rfl rfl ?_) <;> (refine U_go rfl ?_; refine H_free (by decide +kernel) rfl rfl rfl rfl rfl ?_) <;> (refine U_go rfl ?_; refine H_free (by decide +kernel) rfl (O_call rfl rfl rfl rfl ‹_›) rfl rfl rfl ?_) <;> (refine U_go rfl ?_; refine H_free (by decide +kernel) rfl rfl rfl rfl rfl ?_) <;> (refine U_go rfl ?_; refine H_op (by decide +kernel) (O_call rfl rfl rfl rfl ‹_›) ?_) <;> (refine U_go rfl ?_; refine H_op (by decide +kernel) rfl ?_) <;> apply U_nil) | apply W_ret))
    exact ⟨.inl rfl, rfl⟩
/- Claims: what each side sees; the claim built in both. -/
def snC (low : Int) (l : List Int) : List (List AV) := l.map fun n => [.bool (withinB n low)]
theorem snC_row (low : Int) (l : List Int) : ∀ r, r ∈ snC low l → r.length = 1 ∧ ∀ x, x ∈ r → static x = true := by
  intro r hr
  obtain ⟨n, _, rfl⟩ := List.mem_map.1 hr
  refine ⟨rfl, fun x hx => ?_⟩
  simp at hx; subst hx; rfl
theorem snC_len (low : Int) (l : List Int) : (snC low l).length = l.length := by simp [snC]
theorem sn_append (h : Heap) (low : Int) (l : List Int) (v : Int) (hl : l.length < 1000000) : append cfg.tab h.length (accH h 4 (snC low l)) 149 (accA h 1 (snC low l)) (.vs 1 [[.bool (withinB v low)]]) = some (accA h 1 (snC low (l ++ [v])), accH h 4 (snC low (l ++ [v]))) := by
  have := acc_append (tab := cfg.tab) (lo := h.length) (h := h) (t := 149) (e := 4) rfl rfl (by decide) (Nat.le_refl _) (snC low l) [[.bool (withinB v low)]] (fun r hr => (snC_row low l r hr).1) (by rw [snC_len]; simp only [List.length_cons, List.length_nil, room]; show (l.length + (0 + 1)) * 1 ≤ _; omega) (by rw [snC_len]; simp [room]; omega)
  rw [this]
  simp [snC]
def seenS (h : Heap) (l : List Int) (low : Int) (i : Int) (a : List Int) : St :=
  { env := [(0, .v (.vs 1 (intsC l))), (1, .v (.int .i64 low)), (5, .v (accA h 1 (snC low a))), (6, .v (.int .i64 i))], loc := [], heap := accH h 4 (snC low a), inRound := false, lo := h.length }
theorem seen_run (l : List Int) (low : Int) (k : Nat) (hk : l.length < k) (hv : l.length < 1000) (h : Heap) (lo : Nat) : call Tryz.prog cfg (k + 1) lo (.func 95) [.vs 1 (intsC l), .int .i64 low] h = some (accV 1 (snC low l), h) := by
  have hfin := acc_frz (h := h) (e := 4) (sz := 1) (snC low l) (snC_row low l)
  apply W_call Tryz.func95 rfl (Nat.le_of_ble_eq_true rfl) rfl rfl
  (repeat' (first | apply W_seq | refine W_region (id := 0) rfl rfl ?_ | refine W_region (id := 1) rfl rfl ?_ | refine W_region (id := 2) rfl rfl ?_ | apply W_block))
  apply W_iterI (S := seenS h l low) (l := l) (a0 := []) (fun i rest a => a ++ rest = l ∧ a.length = i) (by omega) (by omega) rfl ⟨rfl, rfl⟩
  · intro i v rest a hi hd hil hJ
    have hrow := (show (intsC l)[i]? = some [.int .i64 v] by simp [intsC, hi])
    have hlt : decide ((i : Int) < ((intsC l).length : Int)) = true := decide_eq_true (by rw [intsC_len]; omega)
    have hap := sn_append h low a v (by omega)
    have hW := withinR_run v low (k - 1) (accH h 4 (snC low a)).length (accH h 4 (snC low a))
    have hW' := withinR_run v low (k - 1) h.length (accH h 4 (snC low a))
    rw [show k - 1 + 1 = k by omega] at hW hW'
    cases hb : withinB v low <;> rw [hb] at hap hW hW' <;>
    · (repeat' (first | apply W_seq | refine W_true rfl rfl ?_ | (refine W_ops (id := 3) rfl ?_ <;> refine T_ch 3 rfl ?_ <;> (refine T_go rfl ?_; refine G_true rfl (by with_reducible assumption) ?_) <;> apply T_nil) | refine W_region (id := 4) rfl rfl ?_ | (refine W_ops (id := 5) rfl ?_ <;> refine T_ch 3 rfl ?_ <;> (refine T_go rfl ?_; refine G_op (O_index rfl rfl rfl rfl rfl ‹_›) ?_) <;> (refine T_go rfl ?_; refine G_op rfl ?_) <;> refine T_ch 1 rfl ?_ <;> (refine T_go rfl ?_; first | refine G_true (O_call rfl rfl rfl rfl ‹_›) rfl ?_ | refine G_false (O_call rfl rfl rfl rfl ‹_›) rfl ?_) <;> refine T_ch 1 rfl ?_ <;> (refine T_go rfl ?_; refine G_op (O_append rfl rfl rfl rfl rfl ‹_›) ?_) <;> refine T_ch 1 rfl ?_ <;> apply T_nil) | apply W_skip | apply W_block))
      exact ⟨a ++ [v], rfl, by rw [← hJ.1]; simp, by simp [hJ.2]⟩
  · intro a hJ
    have hlt : decide ((l.length : Int) < ((intsC l).length : Int)) = false := decide_eq_false (by rw [intsC_len]; omega)
    (repeat' (first | apply W_seq | refine W_false rfl rfl ?_ | (refine W_ops (id := 3) rfl ?_ <;> refine T_ch 3 rfl ?_ <;> (refine T_go rfl ?_; refine G_false rfl (by with_reducible assumption) ?_) <;> apply T_nil) | refine W_region (id := 6) rfl rfl ?_ | apply W_ret | apply W_exit))
    have : a = l := by simpa using hJ.1
    subst this
    exact ⟨.inl rfl, hfin⟩
theorem intsC_gt {l : List Int} {i : Nat} {n : Int} (h : l[i]? = some n) : (intsC l)[i]? = some [.int .i64 n] := by simp [intsC, h]
theorem claim1_run (H : Heap) (id1 id2 : Nat) (l : List Int) (low : Int) (h1 : H[id1]? = some (.cells 26 [.vs 1 (intsC l)])) (h2 : H[id2]? = some (.cells 3 [.int .i64 low])) (i : Nat) (n : Int) (hi : l[i]? = some n) (k lo : Nat) :
    call Tryz.prog cfg (k + 2) lo (.func 82) [.int .i64 i, .hp id1 1 0, .hp id2 1 0] H = some (.bool (withinB n low), H) := by
  have hrow := intsC_gt hi
  have hW := within_run n low k lo H
  cases hb : withinB n low <;> rw [hb] at hW <;>
  · apply W_call Tryz.func82 rfl (Nat.le_of_ble_eq_true rfl) rfl rfl
    (repeat' (first | apply W_seq | refine W_region (id := 0) rfl rfl ?_ | (refine W_dops (id := 1) (bs := [0, 0, 3, 7, 0, 31, 63]) rfl (by decide +kernel) (by decide +kernel) ?_ <;> (refine U_go rfl ?_; refine H_free (by decide +kernel) rfl (O_loadH rfl rfl rfl ‹_› rfl rfl) rfl rfl rfl ?_) <;> (refine U_go rfl ?_; refine H_free (by decide +kernel) rfl rfl rfl rfl rfl ?_) <;> (refine U_go rfl ?_; refine H_free (by decide +kernel) rfl (O_index rfl rfl rfl rfl rfl ‹_›) rfl rfl rfl ?_) <;> (refine U_go rfl ?_; refine H_free (by decide +kernel) rfl rfl rfl rfl rfl ?_) <;> (refine U_go rfl ?_; refine H_free (by decide +kernel) rfl (O_loadH rfl rfl rfl ‹_› rfl rfl) rfl rfl rfl ?_) <;> (refine U_go rfl ?_; first | refine H_true (by decide +kernel) (O_call rfl rfl rfl rfl ‹_›) rfl ?_ | refine H_false (by decide +kernel) (O_call rfl rfl rfl rfl ‹_›) rfl ?_) <;> (refine U_go rfl ?_; refine H_op (by decide +kernel) rfl ?_) <;> apply U_nil) | apply W_ret))
    exact ⟨.inl rfl, rfl⟩
theorem claim2_run (H : Heap) (id1 id2 : Nat) (l : List Int) (low : Int) (h1 : H[id1]? = some (.cells 26 [.vs 1 (intsC l)])) (h2 : H[id2]? = some (.cells 3 [.int .i64 low])) (i : Nat) (n : Int) (hi : l[i]? = some n) (k lo : Nat) :
    call Tryz.prog cfg (k + 2) lo (.func 83) [.int .i64 i, .hp id1 1 0, .hp id2 1 0] H = some (.bool (withinB n low), H) := by
  have hrow := intsC_gt hi
  have hW := within_run n low k lo H
  cases hb : withinB n low <;> rw [hb] at hW <;>
  · apply W_call Tryz.func83 rfl (Nat.le_of_ble_eq_true rfl) rfl rfl
    (repeat' (first | apply W_seq | refine W_region (id := 0) rfl rfl ?_ | (refine W_dops (id := 1) (bs := [0, 0, 3, 7, 0, 31, 63]) rfl (by decide +kernel) (by decide +kernel) ?_ <;> (refine U_go rfl ?_; refine H_free (by decide +kernel) rfl (O_loadH rfl rfl rfl ‹_› rfl rfl) rfl rfl rfl ?_) <;> (refine U_go rfl ?_; refine H_free (by decide +kernel) rfl rfl rfl rfl rfl ?_) <;> (refine U_go rfl ?_; refine H_free (by decide +kernel) rfl (O_index rfl rfl rfl rfl rfl ‹_›) rfl rfl rfl ?_) <;> (refine U_go rfl ?_; refine H_free (by decide +kernel) rfl rfl rfl rfl rfl ?_) <;> (refine U_go rfl ?_; refine H_free (by decide +kernel) rfl (O_loadH rfl rfl rfl ‹_› rfl rfl) rfl rfl rfl ?_) <;> (refine U_go rfl ?_; first | refine H_true (by decide +kernel) (O_call rfl rfl rfl rfl ‹_›) rfl ?_ | refine H_false (by decide +kernel) (O_call rfl rfl rfl rfl ‹_›) rfl ?_) <;> (refine U_go rfl ?_; refine H_op (by decide +kernel) rfl ?_) <;> apply U_nil) | apply W_ret))
    exact ⟨.inl rfl, rfl⟩
def clS (h H : Heap) (id8 : Nat) (w : Int) (vs : List Vr') (body : List Sm') (low : Int) (e : Ex') (i : Int) (_ : Unit) : St :=
  { env := [(5, .p 5 0), (6, .v (.hp h.length 1 0)), (8, .v (.hp id8 1 0)), (10, .p 10 0), (12, .p 12 0), (13, .p 13 0), (14, .p 14 0), (31, .v .nils), (32, .v (.int .i64 0)), (33, .v (.int .i64 i))],
    loc := [(5, prC ⟨w, vs, body⟩), (10, [.int .i64 0, .int .i64 0, .int .i64 0, .int .i64 0, .nils, .int .i64 0, .int .i64 0, .int .i64 0, .nils, .int .i64 0, .int .i64 0]), (12, [.int .i64 2, .int .i64 0, .int .i64 0, .int .i64 0, .vs 4 [], .int .i64 0, .int .i64 0, .int .i64 0, .vs 4 [], .int .i64 low, .int .i64 1]), (13, exC (cE 1)), (14, exC e)], heap := H, inRound := false, lo := h.length }
def clC (n : Int) (a b : Ex') (lv s : Int) : List AV := [.int .i64 n] ++ exC a ++ exC b ++ [.int .i64 lv, .int .i64 s]
def gOf (l : List Int) (low : Int) (i : Nat) : Bool := withinB (l.getD i 0) low
/-- Half a claim. -/
def halfE (vs : List Vr') (low : Int) (l : List Int) : Ex' := (agF (gOf l low) vs 0 none).getD (cE 1)
def clmI (w : Int) (vs : List Vr') (low : Int) (l1 l2 : List Int) : List AV × Int :=
  if checkI w vs 2 (halfE vs low l1) != 0 || checkI w vs 2 (halfE vs low l2) != 0 then (clC 0 (.mk 0 0 0 []) (.mk 0 0 0 []) 0 0, 2)
  else (clC 2 (halfE vs low l1) (halfE vs low l2) low 1, 0)
theorem claimP_run (w : Int) (vs : List Vr') (body : List Sm') (low : Int) (l1 l2 : List Int) (k : Nat) (hk : vs.length + 5 < k) (hv : vs.length < 1000) (hc : ∀ v, v ∈ vs → v.cells.toNat + 5 < k ∧ v.cells ≤ 1000)
    (hl1 : l1.length = vs.length) (hl2 : l2.length = vs.length) (hK1 : exK (halfE vs low l1) + 60 ≤ k) (hK2 : exK (halfE vs low l2) + 60 ≤ k) (hB1 : exB (halfE vs low l1)) (hB2 : exB (halfE vs low l2)) (h : Heap) (lo : Nat) :
    call Tryz.prog cfg (k + 1) lo (.func 40) [.agg (prC ⟨w, vs, body⟩), .int .i64 low, .vs 1 (intsC l1), .vs 1 (intsC l2), .nils] h = some (.tup [.agg (clmI w vs low l1 l2).1, .int .i64 (clmI w vs low l1 l2).2], h) := by
  have hat : ∀ (l : List Int), l.length = vs.length → ∀ i, i < vs.length → l[i]? = some (l.getD i 0) := fun l hl i hi => by simp [List.getD_eq_getElem?_getD, List.getElem?_eq_getElem (show i < l.length by omega)]
  let H : Heap := (h ++ [HObj.cells 3 [.int .i64 low]] ++ [HObj.cells 26 [.vs 1 (intsC l1)]]) ++ [HObj.cells 26 [.vs 1 (intsC l2)]]
  have e1 : ∀ js, (H ++ js)[h.length]? = some (.cells 3 [.int .i64 low]) := fun js => by simp [H, List.getElem?_append]
  have e2 : ∀ js, (H ++ js)[(h ++ [HObj.cells 3 [.int .i64 low]]).length]? = some (.cells 26 [.vs 1 (intsC l1)]) := fun js => by simp [H, List.getElem?_append]
  have e3 : ∀ js, (H ++ js)[(h ++ [HObj.cells 3 [.int .i64 low]] ++ [HObj.cells 26 [.vs 1 (intsC l1)]]).length]? = some (.cells 26 [.vs 1 (intsC l2)]) := fun js => by simp [H, List.getElem?_append]
  have hS1 := lsame_run w vs body (gOf l1 low) 82 [.hp (h ++ [HObj.cells 3 [.int .i64 low]]).length 1 0, .hp h.length 1 0] (k - 1) (by omega) hv (fun v hm => by have := hc v hm; omega) H h.length (fun i hi js => by
    have := claim1_run (H ++ js) _ _ l1 low (e2 js) (e1 js) i _ (hat l1 hl1 i hi) (k - 3) H.length
    rw [show k - 3 + 2 = k - 1 by omega] at this
    exact this)
  have hS2 := lsame_run w vs body (gOf l2 low) 83 [.hp (h ++ [HObj.cells 3 [.int .i64 low]] ++ [HObj.cells 26 [.vs 1 (intsC l1)]]).length 1 0, .hp h.length 1 0] (k - 1) (by omega) hv (fun v hm => by have := hc v hm; omega) H h.length (fun i hi js => by
    have := claim2_run (H ++ js) _ _ l2 low (e3 js) (e1 js) i _ (hat l2 hl2 i hi) (k - 3) H.length
    rw [show k - 3 + 2 = k - 1 by omega] at this
    exact this)
  have hC1 := Check_run w vs 2 _ (k - 1) (by omega) hB1 H h.length
  have hC2 := Check_run w vs 2 _ (k - 1) (by omega) hB2 H h.length
  rw [show k - 1 + 1 = k by omega] at hS1 hS2 hC1 hC2
  unfold clmI
  unfold halfE at *
  generalize agF (gOf l1 low) vs 0 none = o1 at *
  generalize agF (gOf l2 low) vs 0 none = o2 at *
  generalize hx1 : checkI w vs 2 (o1.getD (cE 1)) = x1 at *
  generalize hx2 : checkI w vs 2 (o2.getD (cE 1)) = x2 at *
  have hH : H = (h ++ [HObj.cells 3 [.int .i64 low]] ++ [HObj.cells 26 [.vs 1 (intsC l1)]]) ++ [HObj.cells 26 [.vs 1 (intsC l2)]] := rfl
  have f1 := e1 []
  rw [List.append_nil] at f1
  clear e1 e2 e3 hat
  clear_value H
  subst hH
  cases o1 with
  | none =>
    cases o2 with
    | none =>
      have hxx : x1 = x2 := hx1.symm.trans hx2
      subst hxx
      clear hC2 hx2
      cases hb1 : (x1 != 0) <;>
      · apply W_call Tryz.func40 rfl (Nat.le_of_ble_eq_true rfl) rfl rfl
        (repeat' (first | apply W_seq | refine W_true rfl rfl ?_ | refine W_region (id := 0) rfl rfl ?_ | (refine W_ops (id := 1) rfl ?_ <;> (refine T_go rfl ?_; refine G_op (O_loadH rfl rfl rfl ‹_› rfl rfl) ?_) <;> refine T_ch 3 rfl ?_ <;> apply T_nil) | refine W_region (id := 2) rfl rfl ?_ | (refine W_ops (id := 3) rfl ?_ <;> refine T_ch 2 rfl ?_ <;> (refine T_go rfl ?_; refine G_op (O_call rfl rfl rfl rfl ‹_›) ?_) <;> refine T_ch 2 rfl ?_ <;> (refine T_go rfl ?_; refine G_false rfl rfl ?_) <;> refine T_ch 3 rfl ?_ <;> apply T_nil) | refine W_region (id := 4) rfl rfl ?_ | refine W_region (id := 5) rfl rfl ?_ | refine W_region (id := 6) rfl rfl ?_ | apply W_block))
        apply W_iterI (S := clS h (h ++ [HObj.cells 3 [.int .i64 low]] ++ [HObj.cells 26 [.vs 1 (intsC l1)]] ++ [HObj.cells 26 [.vs 1 (intsC l2)]]) (h ++ [HObj.cells 3 [.int .i64 low]] ++ [HObj.cells 26 [.vs 1 (intsC l1)]]).length w vs body low (cE 1)) (l := ([] : List Nat)) (a0 := ()) (fun _ _ _ => True) (by simp) (by simp; omega) rfl trivial
        · intro i x rest a hi
          simp at hi
        · intro _ _
          clear hS1
          (repeat' (first | apply W_seq | refine W_true rfl rfl ?_ | refine W_false rfl rfl ?_ | (refine W_ops (id := 7) rfl ?_ <;> (refine T_go rfl ?_; refine G_false rfl rfl ?_) <;> apply T_nil) | (refine W_ops (id := 11) rfl ?_ <;> refine T_ch 2 rfl ?_ <;> (refine T_go rfl ?_; refine G_op (O_call rfl rfl rfl rfl ‹_›) ?_) <;> refine T_ch 2 rfl ?_ <;> (refine T_go rfl ?_; refine G_false rfl rfl ?_) <;> refine T_ch 3 rfl ?_ <;> apply T_nil) | refine W_region (id := 12) rfl rfl ?_ | refine W_region (id := 13) rfl rfl ?_ | (refine W_dops (id := 14) (bs := [0, 0, 1, 5, 15, 31]) rfl (by decide +kernel) (by decide +kernel) ?_ <;> (refine U_go rfl ?_; refine H_free (by decide +kernel) rfl rfl rfl rfl rfl ?_) <;> (refine U_go rfl ?_; refine H_free (by decide +kernel) rfl rfl rfl rfl rfl ?_) <;> (refine U_go rfl ?_; refine H_free (by decide +kernel) rfl rfl rfl rfl rfl ?_) <;> (refine U_go rfl ?_; refine H_near (by decide +kernel) rfl rfl ?_) <;> (refine U_go rfl ?_; refine H_op (by decide +kernel) rfl ?_) <;> (refine U_go rfl ?_; refine H_op (by decide +kernel) rfl ?_) <;> apply U_nil) | (refine W_ops (id := 15) rfl ?_ <;> refine T_ch 5 rfl ?_ <;> (refine T_go rfl ?_; refine G_op (O_call rfl rfl rfl rfl ‹_›) ?_) <;> (refine T_go rfl ?_; first | refine G_true rfl (by with_reducible assumption) ?_ | refine G_false rfl (by with_reducible assumption) ?_) <;> refine T_ch 6 rfl ?_ <;> (first | refine T_skip rfl ?_ | (refine T_go rfl ?_; refine G_op (O_call rfl rfl rfl rfl ‹_›) ?_)) <;> (first | refine T_skip rfl ?_ | (refine T_go rfl ?_; refine G_false rfl (by with_reducible assumption) ?_)) <;> refine T_ch 1 rfl ?_ <;> apply T_nil) | refine W_region (id := 16) rfl rfl ?_ | refine W_region (id := 17) rfl rfl ?_ | apply W_skip | apply W_ret | apply W_exit))
          all_goals exact ⟨.inl rfl, rfl⟩
    | some b =>
      obtain ⟨o2, n2, c2, a2⟩ := b
      cases hb1 : (x1 != 0) <;> cases hb2 : (x2 != 0) <;>
      · apply W_call Tryz.func40 rfl (Nat.le_of_ble_eq_true rfl) rfl rfl
        (repeat' (first | apply W_seq | refine W_true rfl rfl ?_ | refine W_region (id := 0) rfl rfl ?_ | (refine W_ops (id := 1) rfl ?_ <;> (refine T_go rfl ?_; refine G_op (O_loadH rfl rfl rfl ‹_› rfl rfl) ?_) <;> refine T_ch 3 rfl ?_ <;> apply T_nil) | refine W_region (id := 2) rfl rfl ?_ | (refine W_ops (id := 3) rfl ?_ <;> refine T_ch 2 rfl ?_ <;> (refine T_go rfl ?_; refine G_op (O_call rfl rfl rfl rfl ‹_›) ?_) <;> refine T_ch 2 rfl ?_ <;> (refine T_go rfl ?_; refine G_false rfl rfl ?_) <;> refine T_ch 3 rfl ?_ <;> apply T_nil) | refine W_region (id := 4) rfl rfl ?_ | refine W_region (id := 5) rfl rfl ?_ | refine W_region (id := 6) rfl rfl ?_ | apply W_block))
        apply W_iterI (S := clS h (h ++ [HObj.cells 3 [.int .i64 low]] ++ [HObj.cells 26 [.vs 1 (intsC l1)]] ++ [HObj.cells 26 [.vs 1 (intsC l2)]]) (h ++ [HObj.cells 3 [.int .i64 low]] ++ [HObj.cells 26 [.vs 1 (intsC l1)]]).length w vs body low (cE 1)) (l := ([] : List Nat)) (a0 := ()) (fun _ _ _ => True) (by simp) (by simp; omega) rfl trivial
        · intro i x rest a hi
          simp at hi
        · intro _ _
          clear hS1
          (repeat' (first | apply W_seq | refine W_true rfl rfl ?_ | refine W_false rfl rfl ?_ | (refine W_ops (id := 7) rfl ?_ <;> (refine T_go rfl ?_; refine G_false rfl rfl ?_) <;> apply T_nil) | (refine W_ops (id := 11) rfl ?_ <;> refine T_ch 2 rfl ?_ <;> (refine T_go rfl ?_; refine G_op (O_call rfl rfl rfl rfl ‹_›) ?_) <;> refine T_ch 2 rfl ?_ <;> (refine T_go rfl ?_; refine G_true rfl rfl ?_) <;> refine T_ch 3 rfl ?_ <;> apply T_nil) | refine W_region (id := 12) rfl rfl ?_ | (refine W_dops (id := 14) (bs := [0, 0, 1, 5, 15, 31]) rfl (by decide +kernel) (by decide +kernel) ?_ <;> (refine U_go rfl ?_; refine H_free (by decide +kernel) rfl rfl rfl rfl rfl ?_) <;> (refine U_go rfl ?_; refine H_free (by decide +kernel) rfl rfl rfl rfl rfl ?_) <;> (refine U_go rfl ?_; refine H_free (by decide +kernel) rfl rfl rfl rfl rfl ?_) <;> (refine U_go rfl ?_; refine H_near (by decide +kernel) rfl rfl ?_) <;> (refine U_go rfl ?_; refine H_op (by decide +kernel) rfl ?_) <;> (refine U_go rfl ?_; refine H_op (by decide +kernel) rfl ?_) <;> apply U_nil) | (refine W_ops (id := 15) rfl ?_ <;> refine T_ch 5 rfl ?_ <;> (refine T_go rfl ?_; refine G_op (O_call rfl rfl rfl rfl ‹_›) ?_) <;> (refine T_go rfl ?_; first | refine G_true rfl (by with_reducible assumption) ?_ | refine G_false rfl (by with_reducible assumption) ?_) <;> refine T_ch 6 rfl ?_ <;> (first | refine T_skip rfl ?_ | (refine T_go rfl ?_; refine G_op (O_call rfl rfl rfl rfl ‹_›) ?_)) <;> (first | refine T_skip rfl ?_ | (refine T_go rfl ?_; first | refine G_true rfl (by with_reducible assumption) ?_ | refine G_false rfl (by with_reducible assumption) ?_)) <;> refine T_ch 1 rfl ?_ <;> apply T_nil) | refine W_region (id := 16) rfl rfl ?_ | refine W_region (id := 17) rfl rfl ?_ | apply W_skip | apply W_ret | apply W_exit))
          all_goals exact ⟨.inl rfl, rfl⟩
  | some a =>
    obtain ⟨o1, n1, c1, a1⟩ := a
    cases o2 with
    | none =>
      cases hb1 : (x1 != 0) <;> cases hb2 : (x2 != 0) <;>
      · apply W_call Tryz.func40 rfl (Nat.le_of_ble_eq_true rfl) rfl rfl
        (repeat' (first | apply W_seq | refine W_false rfl rfl ?_ | refine W_region (id := 0) rfl rfl ?_ | (refine W_ops (id := 1) rfl ?_ <;> (refine T_go rfl ?_; refine G_op (O_loadH rfl rfl rfl ‹_› rfl rfl) ?_) <;> refine T_ch 3 rfl ?_ <;> apply T_nil) | refine W_region (id := 2) rfl rfl ?_ | (refine W_ops (id := 3) rfl ?_ <;> refine T_ch 2 rfl ?_ <;> (refine T_go rfl ?_; refine G_op (O_call rfl rfl rfl rfl ‹_›) ?_) <;> refine T_ch 2 rfl ?_ <;> (refine T_go rfl ?_; refine G_true rfl rfl ?_) <;> refine T_ch 3 rfl ?_ <;> apply T_nil) | refine W_region (id := 4) rfl rfl ?_ | refine W_region (id := 6) rfl rfl ?_ | apply W_skip | apply W_block))
        apply W_iterI (S := clS h (h ++ [HObj.cells 3 [.int .i64 low]] ++ [HObj.cells 26 [.vs 1 (intsC l1)]] ++ [HObj.cells 26 [.vs 1 (intsC l2)]]) (h ++ [HObj.cells 3 [.int .i64 low]] ++ [HObj.cells 26 [.vs 1 (intsC l1)]]).length w vs body low (.mk o1 n1 c1 a1)) (l := ([] : List Nat)) (a0 := ()) (fun _ _ _ => True) (by simp) (by simp; omega) rfl trivial
        · intro i x rest a hi
          simp at hi
        · intro _ _
          clear hS1
          (repeat' (first | apply W_seq | refine W_true rfl rfl ?_ | refine W_false rfl rfl ?_ | (refine W_ops (id := 7) rfl ?_ <;> (refine T_go rfl ?_; refine G_false rfl rfl ?_) <;> apply T_nil) | (refine W_ops (id := 11) rfl ?_ <;> refine T_ch 2 rfl ?_ <;> (refine T_go rfl ?_; refine G_op (O_call rfl rfl rfl rfl ‹_›) ?_) <;> refine T_ch 2 rfl ?_ <;> (refine T_go rfl ?_; refine G_false rfl rfl ?_) <;> refine T_ch 3 rfl ?_ <;> apply T_nil) | refine W_region (id := 12) rfl rfl ?_ | refine W_region (id := 13) rfl rfl ?_ | (refine W_dops (id := 14) (bs := [0, 0, 1, 5, 15, 31]) rfl (by decide +kernel) (by decide +kernel) ?_ <;> (refine U_go rfl ?_; refine H_free (by decide +kernel) rfl rfl rfl rfl rfl ?_) <;> (refine U_go rfl ?_; refine H_free (by decide +kernel) rfl rfl rfl rfl rfl ?_) <;> (refine U_go rfl ?_; refine H_free (by decide +kernel) rfl rfl rfl rfl rfl ?_) <;> (refine U_go rfl ?_; refine H_near (by decide +kernel) rfl rfl ?_) <;> (refine U_go rfl ?_; refine H_op (by decide +kernel) rfl ?_) <;> (refine U_go rfl ?_; refine H_op (by decide +kernel) rfl ?_) <;> apply U_nil) | (refine W_ops (id := 15) rfl ?_ <;> refine T_ch 5 rfl ?_ <;> (refine T_go rfl ?_; refine G_op (O_call rfl rfl rfl rfl ‹_›) ?_) <;> (refine T_go rfl ?_; first | refine G_true rfl (by with_reducible assumption) ?_ | refine G_false rfl (by with_reducible assumption) ?_) <;> refine T_ch 6 rfl ?_ <;> (first | refine T_skip rfl ?_ | (refine T_go rfl ?_; refine G_op (O_call rfl rfl rfl rfl ‹_›) ?_)) <;> (first | refine T_skip rfl ?_ | (refine T_go rfl ?_; first | refine G_true rfl (by with_reducible assumption) ?_ | refine G_false rfl (by with_reducible assumption) ?_)) <;> refine T_ch 1 rfl ?_ <;> apply T_nil) | refine W_region (id := 16) rfl rfl ?_ | refine W_region (id := 17) rfl rfl ?_ | apply W_skip | apply W_ret | apply W_exit))
          all_goals exact ⟨.inl rfl, rfl⟩
    | some b =>
      obtain ⟨o2, n2, c2, a2⟩ := b
      cases hb1 : (x1 != 0) <;> cases hb2 : (x2 != 0) <;>
      · apply W_call Tryz.func40 rfl (Nat.le_of_ble_eq_true rfl) rfl rfl
        (repeat' (first | apply W_seq | refine W_false rfl rfl ?_ | refine W_region (id := 0) rfl rfl ?_ | (refine W_ops (id := 1) rfl ?_ <;> (refine T_go rfl ?_; refine G_op (O_loadH rfl rfl rfl ‹_› rfl rfl) ?_) <;> refine T_ch 3 rfl ?_ <;> apply T_nil) | refine W_region (id := 2) rfl rfl ?_ | (refine W_ops (id := 3) rfl ?_ <;> refine T_ch 2 rfl ?_ <;> (refine T_go rfl ?_; refine G_op (O_call rfl rfl rfl rfl ‹_›) ?_) <;> refine T_ch 2 rfl ?_ <;> (refine T_go rfl ?_; refine G_true rfl rfl ?_) <;> refine T_ch 3 rfl ?_ <;> apply T_nil) | refine W_region (id := 4) rfl rfl ?_ | refine W_region (id := 6) rfl rfl ?_ | apply W_skip | apply W_block))
        apply W_iterI (S := clS h (h ++ [HObj.cells 3 [.int .i64 low]] ++ [HObj.cells 26 [.vs 1 (intsC l1)]] ++ [HObj.cells 26 [.vs 1 (intsC l2)]]) (h ++ [HObj.cells 3 [.int .i64 low]] ++ [HObj.cells 26 [.vs 1 (intsC l1)]]).length w vs body low (.mk o1 n1 c1 a1)) (l := ([] : List Nat)) (a0 := ()) (fun _ _ _ => True) (by simp) (by simp; omega) rfl trivial
        · intro i x rest a hi
          simp at hi
        · intro _ _
          clear hS1
          (repeat' (first | apply W_seq | refine W_true rfl rfl ?_ | refine W_false rfl rfl ?_ | (refine W_ops (id := 7) rfl ?_ <;> (refine T_go rfl ?_; refine G_false rfl rfl ?_) <;> apply T_nil) | (refine W_ops (id := 11) rfl ?_ <;> refine T_ch 2 rfl ?_ <;> (refine T_go rfl ?_; refine G_op (O_call rfl rfl rfl rfl ‹_›) ?_) <;> refine T_ch 2 rfl ?_ <;> (refine T_go rfl ?_; refine G_true rfl rfl ?_) <;> refine T_ch 3 rfl ?_ <;> apply T_nil) | refine W_region (id := 12) rfl rfl ?_ | (refine W_dops (id := 14) (bs := [0, 0, 1, 5, 15, 31]) rfl (by decide +kernel) (by decide +kernel) ?_ <;> (refine U_go rfl ?_; refine H_free (by decide +kernel) rfl rfl rfl rfl rfl ?_) <;> (refine U_go rfl ?_; refine H_free (by decide +kernel) rfl rfl rfl rfl rfl ?_) <;> (refine U_go rfl ?_; refine H_free (by decide +kernel) rfl rfl rfl rfl rfl ?_) <;> (refine U_go rfl ?_; refine H_near (by decide +kernel) rfl rfl ?_) <;> (refine U_go rfl ?_; refine H_op (by decide +kernel) rfl ?_) <;> (refine U_go rfl ?_; refine H_op (by decide +kernel) rfl ?_) <;> apply U_nil) | (refine W_ops (id := 15) rfl ?_ <;> refine T_ch 5 rfl ?_ <;> (refine T_go rfl ?_; refine G_op (O_call rfl rfl rfl rfl ‹_›) ?_) <;> (refine T_go rfl ?_; first | refine G_true rfl (by with_reducible assumption) ?_ | refine G_false rfl (by with_reducible assumption) ?_) <;> refine T_ch 6 rfl ?_ <;> (first | refine T_skip rfl ?_ | (refine T_go rfl ?_; refine G_op (O_call rfl rfl rfl rfl ‹_›) ?_)) <;> (first | refine T_skip rfl ?_ | (refine T_go rfl ?_; first | refine G_true rfl (by with_reducible assumption) ?_ | refine G_false rfl (by with_reducible assumption) ?_)) <;> refine T_ch 1 rfl ?_ <;> apply T_nil) | refine W_region (id := 16) rfl rfl ?_ | refine W_region (id := 17) rfl rfl ?_ | apply W_skip | apply W_ret | apply W_exit))
          all_goals exact ⟨.inl rfl, rfl⟩
/- Claims: the reference's claim. -/
theorem snC_bo (low : Int) (l : List Int) : snC low l = boC (gOf l low) l.length := by
  apply List.ext_getElem?
  intro i
  unfold snC boC gOf
  rcases Nat.lt_or_ge i l.length with h | h
  · simp [h, List.getD_eq_getElem?_getD]
  · simp [h]
theorem claimR_run (w : Int) (vs : List Vr') (body : List Sm') (low : Int) (l1 l2 : List Int) (k : Nat) (hk : vs.length + 6 < k) (hv : vs.length < 1000) (hc : ∀ v, v ∈ vs → v.cells.toNat + 6 < k ∧ v.cells ≤ 1000)
    (hl1 : l1.length = vs.length) (hl2 : l2.length = vs.length) (h : Heap) (lo : Nat) :
    call Tryz.prog cfg (k + 1) lo (.func 49) [.agg (prC ⟨w, vs, body⟩), .int .i64 low, .vs 1 (intsC l1), .vs 1 (intsC l2)] h = some (.agg (clC 2 (halfE vs low l1) (halfE vs low l2) low 1), h) := by
  have hgv : ∀ l : List Int, l.length = vs.length → vs.length ≠ 0 → accV 1 (snC low l) = .vs 1 (boC (gOf l low) vs.length) := fun l hl h0 => by
    rw [snC_bo, hl]
    have hgi := boC_get (g := gOf l low) (n := vs.length) (i := 0) (by omega)
    unfold accV
    split
    · rename_i e; rw [e] at hgi; simp at hgi
    · rename_i e; rw [e]
  have hS := fun (l : List Int) (hl : l.length = vs.length) (H : Heap) => seen_run l low (k - 1) (by omega) (by omega) H H.length
  have hA := fun (l : List Int) (hl : l.length = vs.length) (H : Heap) => agree_run vs (gOf l low) (k - 1) (by omega) hv (fun v hm => by have := hc v hm; omega) (accV 1 (snC low l)) (hgv l hl) H H.length
  rw [show k - 1 + 1 = k by omega] at hS hA
  have hS1 := hS l1 hl1 h
  have hA1 := hA l1 hl1 h
  unfold halfE
  generalize agF (gOf l1 low) vs 0 none = o1 at *
  generalize hx1 : o1.getD (cE 1) = x1 at *
  obtain ⟨p1, n1, c1, a1⟩ := x1
  have hS2 := hS l2 hl2 ((h ++ [HObj.cells 31 [.int .i64 0, .int .i64 0, .int .i64 0, .nils]]).set h.length (.cells 31 (exC (.mk p1 n1 c1 a1))))
  have hA2 := hA l2 hl2 ((h ++ [HObj.cells 31 [.int .i64 0, .int .i64 0, .int .i64 0, .nils]]).set h.length (.cells 31 (exC (.mk p1 n1 c1 a1))))
  generalize agF (gOf l2 low) vs 0 none = o2 at *
  generalize hx2 : o2.getD (cE 1) = x2 at *
  obtain ⟨p2, n2, c2, a2⟩ := x2
  have g1 : (h ++ [HObj.cells 31 [.int .i64 0, .int .i64 0, .int .i64 0, .nils]])[h.length]? = some (.cells 31 [.int .i64 0, .int .i64 0, .int .i64 0, .nils]) := by simp
  have g2 : h.length ≤ h.length := Nat.le_refl _
  have g3 : h.length < (h ++ [HObj.cells 31 [.int .i64 0, .int .i64 0, .int .i64 0, .nils]]).length := by simp
  have k1 : (((h ++ [HObj.cells 31 [.int .i64 0, .int .i64 0, .int .i64 0, .nils]]).set h.length (.cells 31 (exC (.mk p1 n1 c1 a1)))) ++ [HObj.cells 31 [.int .i64 0, .int .i64 0, .int .i64 0, .nils]])[((h ++ [HObj.cells 31 [.int .i64 0, .int .i64 0, .int .i64 0, .nils]]).set h.length (.cells 31 (exC (.mk p1 n1 c1 a1)))).length]? = some (.cells 31 [.int .i64 0, .int .i64 0, .int .i64 0, .nils]) := by simp
  have k2 : h.length ≤ ((h ++ [HObj.cells 31 [.int .i64 0, .int .i64 0, .int .i64 0, .nils]]).set h.length (.cells 31 (exC (.mk p1 n1 c1 a1)))).length := by simp
  have k3 : ((h ++ [HObj.cells 31 [.int .i64 0, .int .i64 0, .int .i64 0, .nils]]).set h.length (.cells 31 (exC (.mk p1 n1 c1 a1)))).length < (((h ++ [HObj.cells 31 [.int .i64 0, .int .i64 0, .int .i64 0, .nils]]).set h.length (.cells 31 (exC (.mk p1 n1 c1 a1)))) ++ [HObj.cells 31 [.int .i64 0, .int .i64 0, .int .i64 0, .nils]]).length := by simp
  have k4 : ((((h ++ [HObj.cells 31 [.int .i64 0, .int .i64 0, .int .i64 0, .nils]]).set h.length (.cells 31 (exC (.mk p1 n1 c1 a1)))) ++ [HObj.cells 31 [.int .i64 0, .int .i64 0, .int .i64 0, .nils]]).set ((h ++ [HObj.cells 31 [.int .i64 0, .int .i64 0, .int .i64 0, .nils]]).set h.length (.cells 31 (exC (.mk p1 n1 c1 a1)))).length (.cells 31 (exC (.mk p2 n2 c2 a2))))[h.length]? = some (.cells 31 (exC (.mk p1 n1 c1 a1))) := by simp [List.getElem?_append, List.getElem?_set]
  have k5 : ((((h ++ [HObj.cells 31 [.int .i64 0, .int .i64 0, .int .i64 0, .nils]]).set h.length (.cells 31 (exC (.mk p1 n1 c1 a1)))) ++ [HObj.cells 31 [.int .i64 0, .int .i64 0, .int .i64 0, .nils]]).set ((h ++ [HObj.cells 31 [.int .i64 0, .int .i64 0, .int .i64 0, .nils]]).set h.length (.cells 31 (exC (.mk p1 n1 c1 a1)))).length (.cells 31 (exC (.mk p2 n2 c2 a2))))[((h ++ [HObj.cells 31 [.int .i64 0, .int .i64 0, .int .i64 0, .nils]]).set h.length (.cells 31 (exC (.mk p1 n1 c1 a1)))).length]? = some (.cells 31 (exC (.mk p2 n2 c2 a2))) := by simp [List.getElem?_append, List.getElem?_set]
  clear hS hA hgv
  apply W_call Tryz.func49 rfl (Nat.le_of_ble_eq_true rfl) rfl rfl
  (repeat' (first | apply W_seq | refine W_region (id := 0) rfl rfl ?_ | (refine W_dops (id := 1) (bs := [0, 1, 0, 0, 12, 31, 63, 127, 127, 0, 767, 2047]) rfl (by decide +kernel) (by decide +kernel) ?_ <;> (refine U_go rfl ?_; refine H_free (by decide +kernel) rfl rfl rfl rfl rfl ?_) <;> (refine U_go rfl ?_; refine H_free (by decide +kernel) rfl rfl rfl rfl rfl ?_) <;> (refine U_go rfl ?_; refine H_free (by decide +kernel) rfl rfl rfl rfl rfl ?_) <;> (refine U_go rfl ?_; refine H_free (by decide +kernel) rfl rfl rfl rfl rfl ?_) <;> (refine U_go rfl ?_; refine H_free (by decide +kernel) rfl (O_call rfl rfl rfl rfl ‹_›) rfl rfl rfl ?_) <;> (refine U_go rfl ?_; refine H_free (by decide +kernel) rfl (O_call rfl rfl rfl rfl ‹_›) rfl rfl rfl ?_) <;> (refine U_go rfl ?_; refine H_free (by decide +kernel) rfl rfl rfl rfl rfl ?_) <;> (refine U_go rfl ?_; refine H_free (by decide +kernel) rfl rfl rfl rfl rfl ?_) <;> (refine U_go rfl ?_; refine F_split (by decide +kernel) rfl rfl rfl rfl rfl (fun _ => ?_) (fun _ => ?_)) <;> (refine U_go rfl ?_; refine H_make (by decide +kernel) rfl rfl rfl rfl rfl ?_) <;> (refine U_go rfl ?_; refine H_near (by decide +kernel) rfl (O_storeH rfl rfl rfl rfl ‹_› ⟨by assumption, rfl, rfl, Nat.le_of_ble_eq_true rfl⟩) ?_) <;> (refine U_go rfl ?_; refine H_op (by decide +kernel) rfl ?_) <;> apply U_nil) | (refine W_dops (id := 2) (bs := [0, 1, 0, 0, 12, 31, 63, 127, 127, 0, 767, 2047]) rfl (by decide +kernel) (by decide +kernel) ?_ <;> (refine U_go rfl ?_; refine H_free (by decide +kernel) rfl rfl rfl rfl rfl ?_) <;> (refine U_go rfl ?_; refine H_free (by decide +kernel) rfl rfl rfl rfl rfl ?_) <;> (refine U_go rfl ?_; refine H_free (by decide +kernel) rfl rfl rfl rfl rfl ?_) <;> (refine U_go rfl ?_; refine H_free (by decide +kernel) rfl rfl rfl rfl rfl ?_) <;> (refine U_go rfl ?_; refine H_free (by decide +kernel) rfl (O_call rfl rfl rfl rfl ‹_›) rfl rfl rfl ?_) <;> (refine U_go rfl ?_; refine H_free (by decide +kernel) rfl (O_call rfl rfl rfl rfl ‹_›) rfl rfl rfl ?_) <;> (refine U_go rfl ?_; refine H_free (by decide +kernel) rfl rfl rfl rfl rfl ?_) <;> (refine U_go rfl ?_; refine H_free (by decide +kernel) rfl rfl rfl rfl rfl ?_) <;> (refine U_go rfl ?_; refine F_split (by decide +kernel) rfl rfl rfl rfl rfl (fun _ => ?_) (fun _ => ?_)) <;> (refine U_go rfl ?_; refine H_make (by decide +kernel) rfl rfl rfl rfl rfl ?_) <;> (refine U_go rfl ?_; refine H_near (by decide +kernel) rfl (O_storeH rfl rfl rfl rfl ‹_› ⟨by assumption, rfl, rfl, Nat.le_of_ble_eq_true rfl⟩) ?_) <;> (refine U_go rfl ?_; refine H_op (by decide +kernel) rfl ?_) <;> apply U_nil) | (refine W_ops (id := 3) rfl ?_ <;> (refine T_go rfl ?_; refine G_op (O_loadH rfl rfl rfl ‹_› rfl rfl) ?_) <;> (refine T_go rfl ?_; refine G_op (O_loadS rfl rfl rfl rfl ‹_› rfl rfl) ?_) <;> refine T_ch 3 rfl ?_ <;> apply T_nil) | apply W_ret))
  all_goals exact ⟨.inl rfl, rfl⟩
/- Claims: which levels may be told apart: level.may. -/
variable (k : Nat) (h : Heap) (lo : Nat)
theorem lt_ints' {l : List Int} {i : Nat} (h : i < l.length) : decide ((i : Int) < ((intsC l).length : Int)) = true := decide_eq_true (by rw [intsC_len]; omega)
theorem ge_ints' {l : List Int} : decide ((l.length : Int) < ((intsC l).length : Int)) = false := decide_eq_false (by rw [intsC_len]; omega)
/- Claims: level.Claim. -/
def zC : List AV := clC 0 (.mk 0 0 0 []) (.mk 0 0 0 []) 0 0
def lowB (low : Int) : Bool := decide (low < 0) || decide (low > 15)
/- Copies: the statements and expressions in memory of their own are the same ones. -/
/-- What a list that has grown is, handed back and shown as rows. -/
theorem acc_fin {h : Heap} {e sz : Nat} (row : List Nat) (hsz : sz ≠ 0) (rows : List (List AV)) (hr : ∀ r, r ∈ rows → r.length = sz ∧ ∀ x, x ∈ r → static x = true) : handF (some ⟨sz, row⟩) true h (accA h sz rows) (accH h e rows) = some (.vs sz (rows.map (nilzL row)), h) := by
  unfold handF
  dsimp only
  rw [acc_frz rows hr]
  dsimp only
  cases rows with
  | nil => simp [accV, nzA, nilz, hsz]
  | cons r l => rfl
theorem nilzL_nil : nilzL [] = id := by funext l; cases l <;> rfl
theorem acc_fin0 {h : Heap} {e sz : Nat} (hsz : sz ≠ 0) (rows : List (List AV)) (hr : ∀ r, r ∈ rows → r.length = sz ∧ ∀ x, x ∈ r → static x = true) : handF (some ⟨sz, []⟩) true h (accA h sz rows) (accH h e rows) = some (.vs sz rows, h) := by
  rw [acc_fin [] hsz rows hr, nilzL_nil, List.map_id]
theorem exC_row (e : Ex') : (exC e).length = 4 ∧ ∀ x, x ∈ exC e → static x = true := by
  obtain ⟨op, n, c, l⟩ := e
  rw [exC]
  refine ⟨rfl, fun x hx => ?_⟩
  simp only [List.mem_cons, List.not_mem_nil, or_false] at hx
  rcases hx with rfl | rfl | rfl | rfl <;> rfl
theorem exsC_mp : ∀ l : List Ex', exsC l = l.map exC
  | [] => rfl
  | e :: l => by rw [exsC, exsC_mp l]; rfl
theorem exsC_row (l : List Ex') : ∀ r, r ∈ exsC l → r.length = 4 ∧ ∀ x, x ∈ r → static x = true := by
  intro r hr
  rw [exsC_mp] at hr
  obtain ⟨e, _, rfl⟩ := List.mem_map.1 hr
  exact exC_row e
theorem ex_append (h : Heap) (l : List Ex') (e : Ex') (hl : l.length < 1000000) : append cfg.tab h.length (accH h 31 (exsC l)) 29 (accA h 4 (exsC l)) (.vs 4 [exC e]) = some (accA h 4 (exsC (l ++ [e])), accH h 31 (exsC (l ++ [e]))) := by
  have := acc_append (tab := cfg.tab) (lo := h.length) (h := h) (t := 29) (e := 31) rfl rfl (by decide) (Nat.le_refl _) (exsC l) [exC e] (fun r hr => (exsC_row l r hr).1) (by rw [exsC_len]; simp only [List.length_cons, List.length_nil, room]; show (l.length + (0 + 1)) * 48 ≤ _; omega) (by rw [exsC_len]; simp [room]; omega)
  rw [this]
  simp [exsC_mp]
def ceS (h : Heap) (l : List Ex') (i : Int) (a : List Ex') : St :=
  { env := [(3, .v (accA h 4 (exsC a))), (6, .v (.vs 4 (exsC l))), (7, .v (.int .i64 (exsC l).length)), (8, .v (.int .i64 i))], loc := [], heap := accH h 31 (exsC a), inRound := false, lo := h.length }
theorem acc_frz1 {h : Heap} {e sz : Nat} (rows : List (List AV)) (hr : ∀ r, r ∈ rows → r.length = sz ∧ ∀ x, x ∈ r → static x = true) : frz1 (accH h e rows) h.length (accA h sz rows) = some (accV sz rows) := by
  cases rows with
  | nil => rfl
  | cons r l =>
    have := acc_frz (h := h) (e := e) (r :: l) hr
    unfold hand at this
    rw [if_pos rfl] at this
    have h2 : frz (accH h e (r :: l)) h.length (accA h sz (r :: l)) = frz1 (accH h e (r :: l)) h.length (accA h sz (r :: l)) := rfl
    rw [h2] at this
    cases hf : frz1 (accH h e (r :: l)) h.length (accA h sz (r :: l)) with
    | none => rw [hf] at this; cases this
    | some b =>
      rw [hf] at this
      injection this with this
      injection this with this _
      rw [this]
theorem nilz_acc {sz : Nat} (hsz : sz ≠ 0) (rows : List (List AV)) : nilz sz (accV sz rows) = .vs sz rows := by
  cases rows with
  | nil => simp [accV, nilz, hsz]
  | cons r l => rfl
theorem ecopy_fin (h : Heap) (op n c : Int) (l : List Ex') : handF (some ⟨0, [0, 0, 0, 4]⟩) true h (.agg [.int .i64 op, .int .i64 n, .int .i64 c, accA h 4 (exsC l)]) (accH h 31 (exsC l)) = some (.agg (exC (.mk op n c l)), h) := by
  have h1 := acc_frz1 (h := h) (e := 31) (exsC l) (exsC_row l)
  have hi : ∀ (H : Heap) (z : Int), frz1 H h.length (.int .i64 z) = some (.int .i64 z) := fun _ _ => rfl
  have h2 : frz (accH h 31 (exsC l)) h.length (.agg [.int .i64 op, .int .i64 n, .int .i64 c, accA h 4 (exsC l)]) = some (.agg [.int .i64 op, .int .i64 n, .int .i64 c, accV 4 (exsC l)]) := by
    simp only [frz, frz2, frzL, hi, h1]
  unfold handF hand
  simp only [if_true, h2, nzA, nilzL, nilz_acc (show (4 : Nat) ≠ 0 by decide), exC]
  rfl
theorem smC_row (s : Sm') : (smC s).length = 5 ∧ ∀ x, x ∈ smC s → static x = true := by
  obtain ⟨op, n, a, t, e⟩ := s
  rw [smC]
  refine ⟨rfl, fun x hx => ?_⟩
  simp only [List.mem_cons, List.not_mem_nil, or_false] at hx
  rcases hx with rfl | rfl | rfl | rfl | rfl <;> rfl
theorem smsC_mp : ∀ l : List Sm', smsC l = l.map smC
  | [] => rfl
  | s :: l => by rw [smsC, smsC_mp l]; rfl
theorem smsC_row (l : List Sm') : ∀ r, r ∈ smsC l → r.length = 5 ∧ ∀ x, x ∈ r → static x = true := by
  intro r hr
  rw [smsC_mp] at hr
  obtain ⟨s, _, rfl⟩ := List.mem_map.1 hr
  exact smC_row s
/- The reference says that what is the same is the same: ref02.Same, ref03.exprs, SameStmt, SameRows, SameVars, Same. -/
theorem ne_self (z : Int) : (z != z) = false := by simp
theorem eq_self' (z : Int) : (z == z) = true := by simp
def seS (h : Heap) (e : Ex') (i : Int) (_ : Unit) : St :=
  { env := [(2, .p 2 0), (3, .p 3 0), (5, .v (.int .i64 i))], loc := [(2, exC e), (3, exC e)], heap := h, inRound := false, lo := h.length }
theorem sameE_run : ∀ (k : Nat) (e : Ex'), exK e + 1 ≤ k → exB e → ∀ (h : Heap) (lo : Nat), call Tryz.prog cfg k lo (.func 46) [.agg (exC e), .agg (exC e)] h = some (.bool true, h)
  | 0, e, hk, _, _, _ => by have := exK_pos e; omega
  | k + 1, .mk op n c l, hk, hb, h, lo => by
    rw [exK] at hk
    rw [exB] at hb
    have hlen := exsK_len l
    have h1 := ne_self op
    have h2 := ne_self n
    have h3 := ne_self c
    have h4 := ne_self ((exsC l).length : Int)
    apply W_call Tryz.func46 rfl (Nat.le_of_ble_eq_true rfl) rfl rfl
    (repeat' (first | apply W_seq | refine W_false rfl rfl ?_ | refine W_region (id := 0) rfl rfl ?_ | (refine W_ops (id := 1) rfl ?_ <;> refine T_ch 4 rfl ?_ <;> (refine T_go rfl ?_; refine G_false rfl (by with_reducible assumption) ?_) <;> refine T_ch 5 rfl ?_ <;> (refine T_go rfl ?_; refine G_false rfl (by with_reducible assumption) ?_) <;> refine T_ch 6 rfl ?_ <;> (refine T_go rfl ?_; refine G_false rfl (by with_reducible assumption) ?_) <;> refine T_ch 8 rfl ?_ <;> (refine T_go rfl ?_; refine G_false rfl (by with_reducible assumption) ?_) <;> refine T_ch 1 rfl ?_ <;> apply T_nil) | refine W_region (id := 3) rfl rfl ?_ | apply W_skip | apply W_block))
    apply W_iter (S := seS h (.mk op n c l)) (l := l) (a0 := ()) (fun _ _ => True) hb.1 (by omega) rfl trivial
    · intro i e rest a hi hd hil hJ
      have hrow := exsC_get _ _ _ hi
      have hlt := lt_exs hil
      have hm := exsK_mem1 l i _ hi
      have ih := sameE_run k e (by omega) (exsB_mem l i _ hb.2 hi) h h.length
      obtain ⟨op', n', c', es⟩ := e
      (repeat' (first | apply W_seq | refine W_true rfl rfl ?_ | refine W_false rfl rfl ?_ | (refine W_ops (id := 4) rfl ?_ <;> refine T_ch 4 rfl ?_ <;> (refine T_go rfl ?_; refine G_true rfl (by with_reducible assumption) ?_) <;> apply T_nil) | refine W_region (id := 5) rfl rfl ?_ | (refine W_dops (id := 6) (bs := [0, 1, 0, 7, 15, 0, 32, 0, 224, 480, 1023, 2047]) rfl (by decide +kernel) (by decide +kernel) ?_ <;> (refine U_go rfl ?_; refine H_free (by decide +kernel) rfl rfl rfl rfl rfl ?_) <;> (refine U_go rfl ?_; refine H_free (by decide +kernel) rfl rfl rfl rfl rfl ?_) <;> (refine U_go rfl ?_; refine H_free (by decide +kernel) rfl rfl rfl rfl rfl ?_) <;> (refine U_go rfl ?_; refine H_free (by decide +kernel) rfl (O_index rfl rfl rfl rfl rfl ‹_›) rfl rfl rfl ?_) <;> (refine U_go rfl ?_; refine H_free (by decide +kernel) rfl rfl rfl rfl rfl ?_) <;> (refine U_go rfl ?_; refine H_free (by decide +kernel) rfl rfl rfl rfl rfl ?_) <;> (refine U_go rfl ?_; refine H_free (by decide +kernel) rfl rfl rfl rfl rfl ?_) <;> (refine U_go rfl ?_; refine H_free (by decide +kernel) rfl rfl rfl rfl rfl ?_) <;> (refine U_go rfl ?_; refine H_free (by decide +kernel) rfl (O_index rfl rfl rfl rfl rfl ‹_›) rfl rfl rfl ?_) <;> (refine U_go rfl ?_; refine H_free (by decide +kernel) rfl rfl rfl rfl rfl ?_) <;> (refine U_go rfl ?_; refine H_true (by decide +kernel) (O_call rfl rfl rfl rfl ‹_›) rfl ?_) <;> (refine U_go rfl ?_; refine H_op (by decide +kernel) rfl ?_) <;> apply U_nil) | apply W_skip | apply W_block))
      exact ⟨(), rfl, trivial⟩
    · intro a hJ
      have hlt := ge_exs (l := l)
      (repeat' (first | apply W_seq | refine W_false rfl rfl ?_ | (refine W_ops (id := 4) rfl ?_ <;> refine T_ch 4 rfl ?_ <;> (refine T_go rfl ?_; refine G_false rfl (by with_reducible assumption) ?_) <;> apply T_nil) | refine W_region (id := 8) rfl rfl ?_ | apply W_ret | apply W_exit))
      exact ⟨.inl rfl, rfl⟩
/- Claims: the laws' own functions: ref07.Fits, Same, law none. -/
theorem fits07_run (n : Int) (a b : Ex') (lv s m : Int) (k : Nat) (hk1 : exK a + 1 ≤ k) (hk2 : exK b + 1 ≤ k) (hb1 : exB a) (hb2 : exB b) (h : Heap) (lo : Nat) :
    call Tryz.prog cfg (k + 1) lo (.func 45) [.agg (clC n a b lv s), .int .i64 m] h = some (.bool (fitsE a m && fitsE b m), h) := by
  have h1 := fitsE_run (k - 1) h h.length a (by omega) hb1 m
  have h2 := fitsE_run (k - 1) h h.length b (by omega) hb2 m
  rw [show k - 1 + 1 = k by omega] at h1 h2
  generalize fitsE a m = x at *
  generalize fitsE b m = y at *
  obtain ⟨o1, n1, c1, l1⟩ := a
  obtain ⟨o2, n2, c2, l2⟩ := b
  cases x <;> cases y <;>
  · apply W_call Tryz.func45 rfl (Nat.le_of_ble_eq_true rfl) rfl rfl
    (repeat' (first | apply W_seq | refine W_region (id := 0) rfl rfl ?_ | (refine W_ops (id := 1) rfl ?_ <;> refine T_ch 3 rfl ?_ <;> (refine T_go rfl ?_; first | refine G_true (O_call rfl rfl rfl rfl ‹_›) rfl ?_ | refine G_false (O_call rfl rfl rfl rfl ‹_›) rfl ?_) <;> refine T_ch 4 rfl ?_ <;> (first | refine T_skip rfl ?_ | (refine T_go rfl ?_; first | refine G_true (O_call rfl rfl rfl rfl ‹_›) rfl ?_ | refine G_false (O_call rfl rfl rfl rfl ‹_›) rfl ?_)) <;> refine T_ch 2 rfl ?_ <;> apply T_nil) | apply W_ret))
    all_goals exact ⟨.inl rfl, rfl⟩
theorem same07_run (n : Int) (a b : Ex') (lv s : Int) (k : Nat) (hk1 : exK a + 1 ≤ k) (hk2 : exK b + 1 ≤ k) (hb1 : exB a) (hb2 : exB b) (h : Heap) (lo : Nat) :
    call Tryz.prog cfg (k + 1) lo (.func 56) [.agg (clC n a b lv s), .agg (clC n a b lv s)] h = some (.bool true, h) := by
  have h1 := sameE_run k a hk1 hb1 h h.length
  have h2 := sameE_run k b hk2 hb2 h h.length
  have q1 := eq_self' n
  have q2 := eq_self' lv
  have q3 := eq_self' s
  obtain ⟨o1, n1, c1, l1⟩ := a
  obtain ⟨o2, n2, c2, l2⟩ := b
  apply W_call Tryz.func56 rfl (Nat.le_of_ble_eq_true rfl) rfl rfl
  (repeat' (first | apply W_seq | refine W_region (id := 0) rfl rfl ?_ | (refine W_ops (id := 1) rfl ?_ <;> refine T_ch 4 rfl ?_ <;> (refine T_go rfl ?_; refine G_true rfl (by with_reducible assumption) ?_) <;> refine T_ch 5 rfl ?_ <;> (refine T_go rfl ?_; refine G_true (O_call rfl rfl rfl rfl ‹_›) rfl ?_) <;> refine T_ch 6 rfl ?_ <;> (refine T_go rfl ?_; refine G_true (O_call rfl rfl rfl rfl ‹_›) rfl ?_) <;> refine T_ch 6 rfl ?_ <;> (refine T_go rfl ?_; refine G_true rfl (by with_reducible assumption) ?_) <;> refine T_ch 6 rfl ?_ <;> (refine T_go rfl ?_; refine G_true rfl (by with_reducible assumption) ?_) <;> refine T_ch 2 rfl ?_ <;> apply T_nil) | apply W_ret))
  all_goals exact ⟨.inl rfl, rfl⟩
theorem sameZ_run (k : Nat) (h : Heap) (lo : Nat) : call Tryz.prog cfg (k + 2) lo (.func 46) [.agg (exC (.mk 0 0 0 [])), .agg [.int .i64 0, .int .i64 0, .int .i64 0, .nils]] h = some (.bool true, h) := by
  apply W_call Tryz.func46 rfl (Nat.le_of_ble_eq_true rfl) rfl rfl
  (repeat' (first | apply W_seq | refine W_false rfl rfl ?_ | refine W_region (id := 0) rfl rfl ?_ | (refine W_ops (id := 1) rfl ?_ <;> refine T_ch 4 rfl ?_ <;> (refine T_go rfl ?_; refine G_false rfl rfl ?_) <;> refine T_ch 5 rfl ?_ <;> (refine T_go rfl ?_; refine G_false rfl rfl ?_) <;> refine T_ch 6 rfl ?_ <;> (refine T_go rfl ?_; refine G_false rfl rfl ?_) <;> refine T_ch 8 rfl ?_ <;> (refine T_go rfl ?_; refine G_false rfl rfl ?_) <;> refine T_ch 1 rfl ?_ <;> apply T_nil) | refine W_region (id := 3) rfl rfl ?_ | apply W_skip | apply W_block))
  apply W_iterI (S := fun i _ => { env := [(2, .p 2 0), (3, .p 3 0), (5, .v (.int .i64 i))], loc := [(2, exC (.mk 0 0 0 [])), (3, [.int .i64 0, .int .i64 0, .int .i64 0, .nils])], heap := h, inRound := false, lo := h.length }) (l := ([] : List Nat)) (a0 := ()) (fun _ _ _ => True) (by simp) (by simp) rfl trivial
  · intro i x rest a hi
    simp at hi
  · intro _ _
    (repeat' (first | apply W_seq | refine W_false rfl rfl ?_ | (refine W_ops (id := 4) rfl ?_ <;> refine T_ch 4 rfl ?_ <;> (refine T_go rfl ?_; refine G_false rfl rfl ?_) <;> apply T_nil) | refine W_region (id := 8) rfl rfl ?_ | apply W_ret | apply W_exit))
    all_goals exact ⟨.inl rfl, rfl⟩
theorem none07_run (k : Nat) (h : Heap) (lo : Nat) (hk : 10 ≤ k) : call Tryz.prog cfg (k + 1) lo (.func 10) [.agg zC] h = some (.bool true, h) := by
  have hF := fits07_run 0 (.mk 0 0 0 []) (.mk 0 0 0 []) 0 0 1 (k - 1) (by simp [exK, exsK]; omega) (by simp [exK, exsK]; omega) (by simp [exB, exsB]) (by simp [exB, exsB]) h h.length
  have hf : fitsE (.mk 0 0 0 []) 1 = true := by rfl
  rw [hf] at hF
  have hS := sameZ_run (k - 2) h h.length
  rw [show k - 1 + 1 = k by omega] at hF
  rw [show k - 2 + 2 = k by omega] at hS
  apply W_call Tryz.func10 rfl (Nat.le_of_ble_eq_true rfl) rfl rfl
  (repeat' (first | apply W_seq | refine W_region (id := 0) rfl rfl ?_ | (refine W_ops (id := 1) rfl ?_ <;> refine T_ch 2 rfl ?_ <;> (refine T_go rfl ?_; refine G_true rfl rfl ?_) <;> refine T_ch 2 rfl ?_ <;> (refine T_go rfl ?_; refine G_true (O_call rfl rfl rfl rfl ‹_›) rfl ?_) <;> refine T_ch 5 rfl ?_ <;> (refine T_go rfl ?_; refine G_true (O_call rfl rfl rfl rfl ‹_›) rfl ?_) <;> refine T_ch 5 rfl ?_ <;> (refine T_go rfl ?_; refine G_true (O_call rfl rfl rfl rfl ‹_›) rfl ?_) <;> refine T_ch 4 rfl ?_ <;> (refine T_go rfl ?_; refine G_true rfl rfl ?_) <;> refine T_ch 4 rfl ?_ <;> (refine T_go rfl ?_; refine G_true rfl rfl ?_) <;> refine T_ch 2 rfl ?_ <;> apply T_nil) | apply W_ret))
  all_goals exact ⟨.inl rfl, rfl⟩
/- Claims: ref07.Is on a claim. -/
theorem is07_run (w : Int) (vs : List Vr') (body : List Sm') (a b : Ex') (low : Int) (hl1 : 0 ≤ low) (hl2 : low ≤ 15) (k : Nat) (hk1 : exK a + 20 ≤ k) (hk2 : exK b + 20 ≤ k) (hb1 : exB a) (hb2 : exB b) (h : Heap) (lo : Nat)
    (hS : call Tryz.prog cfg k h.length (.func 43) [.agg (prC ⟨w, vs, body⟩)] h = some (.bool true, h)) :
    call Tryz.prog cfg (k + 1) lo (.func 55) [.agg (prC ⟨w, vs, body⟩), .agg (clC 2 a b low 1)] h = some (.bool (isE w vs 2 a && isE w vs 2 b), h) := by
  have h1 := isE_run w vs 2 a (k - 1) (by omega) hb1 h h.length
  have h2 := isE_run w vs 2 b (k - 1) (by omega) hb2 h h.length
  rw [show k - 1 + 1 = k by omega] at h1 h2
  have q1 : decide (low < 0) = false := decide_eq_false (by omega)
  have q2 : decide (low > 15) = false := decide_eq_false (by omega)
  generalize isE w vs 2 a = x at *
  generalize isE w vs 2 b = y at *
  obtain ⟨o1, n1, c1, l1⟩ := a
  obtain ⟨o2, n2, c2, l2⟩ := b
  cases x <;> cases y <;>
  · apply W_call Tryz.func55 rfl (Nat.le_of_ble_eq_true rfl) rfl rfl
    (repeat' (first | apply W_seq | refine W_false rfl rfl ?_ | refine W_region (id := 0) rfl rfl ?_ | (refine W_ops (id := 1) rfl ?_ <;> refine T_ch 1 rfl ?_ <;> (refine T_go rfl ?_; refine G_true (O_call rfl rfl rfl rfl ‹_›) rfl ?_) <;> refine T_ch 4 rfl ?_ <;> (refine T_go rfl ?_; refine G_false rfl rfl ?_) <;> refine T_ch 4 rfl ?_ <;> (refine T_go rfl ?_; refine G_false rfl rfl ?_) <;> refine T_ch 4 rfl ?_ <;> (refine T_go rfl ?_; refine G_false rfl (by with_reducible assumption) ?_) <;> refine T_ch 4 rfl ?_ <;> (refine T_go rfl ?_; refine G_false rfl (by with_reducible assumption) ?_) <;> refine T_ch 4 rfl ?_ <;> (refine T_go rfl ?_; refine G_false rfl rfl ?_) <;> refine T_ch 4 rfl ?_ <;> (refine T_go rfl ?_; refine G_false rfl rfl ?_) <;> refine T_ch 1 rfl ?_ <;> apply T_nil) | (refine W_ops (id := 3) rfl ?_ <;> refine T_ch 8 rfl ?_ <;> (refine T_go rfl ?_; first | refine G_true (O_call rfl rfl rfl rfl ‹_›) rfl ?_ | refine G_false (O_call rfl rfl rfl rfl ‹_›) rfl ?_) <;> refine T_ch 9 rfl ?_ <;> (first | refine T_skip rfl ?_ | (refine T_go rfl ?_; first | refine G_true (O_call rfl rfl rfl rfl ‹_›) rfl ?_ | refine G_false (O_call rfl rfl rfl rfl ‹_›) rfl ?_)) <;> refine T_ch 2 rfl ?_ <;> apply T_nil) | apply W_skip | apply W_ret))
    all_goals exact ⟨.inl rfl, rfl⟩
/- Claims: the law's claims. -/
/-- The reference's claim stands: the package's is the same. -/
theorem claimsY_run (w : Int) (vs : List Vr') (body : List Sm') (a b : Ex') (low : Int) (hl1 : 0 ≤ low) (hl2 : low ≤ 15) (k : Nat) (hk1 : exK a + 30 ≤ k) (hk2 : exK b + 30 ≤ k) (hb1 : exB a) (hb2 : exB b) (h : Heap) (lo : Nat)
    (hS : call Tryz.prog cfg (k - 1) h.length (.func 43) [.agg (prC ⟨w, vs, body⟩)] h = some (.bool true, h))
    (hi1 : isE w vs 2 a = true) (hi2 : isE w vs 2 b = true) (hf1 : fitsE a 600 = true) (hf2 : fitsE b 600 = true) :
    call Tryz.prog cfg (k + 1) lo (.func 12) [.agg (prC ⟨w, vs, body⟩), .agg (clC 2 a b low 1), .int .i64 0, .agg (clC 2 a b low 1)] h = some (.bool true, h) := by
  have h1 := is07_run w vs body a b low hl1 hl2 (k - 1) (by omega) (by omega) hb1 hb2 h h.length hS
  have h2 := fits07_run 2 a b low 1 600 (k - 1) (by omega) (by omega) hb1 hb2 h h.length
  have h3 := same07_run 2 a b low 1 (k - 1) (by omega) (by omega) hb1 hb2 h h.length
  rw [show k - 1 + 1 = k by omega] at h1 h2 h3
  rw [hi1, hi2] at h1
  rw [hf1, hf2] at h2
  obtain ⟨o1, n1, c1, l1⟩ := a
  obtain ⟨o2, n2, c2, l2⟩ := b
  apply W_call Tryz.func12 rfl (Nat.le_of_ble_eq_true rfl) rfl rfl
  (repeat' (first | apply W_seq | refine W_false rfl rfl ?_ | refine W_region (id := 0) rfl rfl ?_ | (refine W_ops (id := 1) rfl ?_ <;> refine T_ch 2 rfl ?_ <;> (refine T_go rfl ?_; refine G_true (O_call rfl rfl rfl rfl ‹_›) rfl ?_) <;> refine T_ch 1 rfl ?_ <;> apply T_nil) | (refine W_ops (id := 3) rfl ?_ <;> refine T_ch 1 rfl ?_ <;> (refine T_go rfl ?_; refine G_true rfl rfl ?_) <;> refine T_ch 2 rfl ?_ <;> (refine T_go rfl ?_; refine G_true (O_call rfl rfl rfl rfl ‹_›) rfl ?_) <;> refine T_ch 4 rfl ?_ <;> (refine T_go rfl ?_; refine G_true (O_call rfl rfl rfl rfl ‹_›) rfl ?_) <;> refine T_ch 2 rfl ?_ <;> apply T_nil) | apply W_skip | apply W_ret))
  all_goals exact ⟨.inl rfl, rfl⟩
/-- The reference's claim does not stand: there is none. -/
theorem claimsN_run (w : Int) (vs : List Vr') (body : List Sm') (a b : Ex') (low : Int) (hl1 : 0 ≤ low) (hl2 : low ≤ 15) (k : Nat) (hk1 : exK a + 30 ≤ k) (hk2 : exK b + 30 ≤ k) (hb1 : exB a) (hb2 : exB b) (h : Heap) (lo : Nat)
    (hS : call Tryz.prog cfg (k - 1) h.length (.func 43) [.agg (prC ⟨w, vs, body⟩)] h = some (.bool true, h))
    (hi : (isE w vs 2 a && isE w vs 2 b) = false) :
    call Tryz.prog cfg (k + 1) lo (.func 12) [.agg (prC ⟨w, vs, body⟩), .agg zC, .int .i64 2, .agg (clC 2 a b low 1)] h = some (.bool true, h) := by
  have h1 := is07_run w vs body a b low hl1 hl2 (k - 1) (by omega) (by omega) hb1 hb2 h h.length hS
  have h2 := none07_run (k - 1) h h.length (by omega)
  rw [show k - 1 + 1 = k by omega] at h1 h2
  rw [hi] at h1
  obtain ⟨o1, n1, c1, l1⟩ := a
  obtain ⟨o2, n2, c2, l2⟩ := b
  apply W_call Tryz.func12 rfl (Nat.le_of_ble_eq_true rfl) rfl rfl
  (repeat' (first | apply W_seq | refine W_true rfl rfl ?_ | refine W_region (id := 0) rfl rfl ?_ | (refine W_ops (id := 1) rfl ?_ <;> refine T_ch 2 rfl ?_ <;> (refine T_go rfl ?_; refine G_false (O_call rfl rfl rfl rfl ‹_›) rfl ?_) <;> refine T_ch 1 rfl ?_ <;> apply T_nil) | (refine W_ops (id := 2) rfl ?_ <;> refine T_ch 1 rfl ?_ <;> (refine T_go rfl ?_; refine G_true rfl rfl ?_) <;> refine T_ch 2 rfl ?_ <;> (refine T_go rfl ?_; refine G_true (O_call rfl rfl rfl rfl ‹_›) rfl ?_) <;> refine T_ch 2 rfl ?_ <;> apply T_nil) | apply W_ret))
  all_goals exact ⟨.inl rfl, rfl⟩
/- Claims, plain: what the program's check says of a claim's half; how large it is. -/
theorem checkI_eq2 (w : Int) (vs : List Vr') (e : Ex') (hh : headPB w vs = true) : checkI w vs 2 e = if isE w vs 2 e = true then 0 else 20 := by
  obtain ⟨w1, w2⟩ := headPB_width hh
  unfold checkI
  rw [hh, if_pos (by simp), (fineE_eq w1 w2 vs 2 e 1 400 (by omega) (by omega) (by omega) (by omega)).1, isE_eq]
  unfold fineSpec
  rw [show decide ((exN e : Int) ≤ 400) = decide (exN e ≤ 400) from by rw [decide_eq_decide]; omega, show decide (1 + (exD e : Int) ≤ 17) = decide (exD e ≤ 16) from by rw [decide_eq_decide]; omega]
def tot : List Vr' → Nat
  | [] => 0
  | v :: l => v.cells.toNat + tot l
/-- An expression, or none, that is not too large. -/
def okE (n : Nat) (o : Option Ex') : Prop := ∀ e, o = some e → exK e ≤ n ∧ exB e
theorem cellE_ok (i w W s : Int) : exK (cellE i w W s) ≤ 4 ∧ exB (cellE i w W s) := by
  unfold cellE
  split
  · exact ⟨by simp [exK, exsK, cE], by simp [exB, exsB, cE]⟩
  · exact ⟨by simp [exK, exsK], by simp [exB, exsB]⟩
theorem eqE_ok (i w W : Int) : exK (eqE i w W) ≤ 10 ∧ exB (eqE i w W) := by
  obtain ⟨a1, a2⟩ := cellE_ok i w W 0
  obtain ⟨b1, b2⟩ := cellE_ok i w W 1
  unfold eqE
  refine ⟨by simp only [exK, exsK]; omega, ?_⟩
  simp only [exB, exsB]
  exact ⟨by simp, a2, b2, trivial⟩
theorem stE_ok {n : Nat} {i W : Int} {acc : Option Ex'} {w : Nat} (h : okE n acc) : okE (n + 12) (stE i W acc w) := by
  intro e he
  unfold stE at he
  injection he with he
  subst he
  obtain ⟨c1, c2⟩ := eqE_ok i w W
  cases acc with
  | none => exact ⟨by show exK (eqE _ _ _) ≤ _; omega, c2⟩
  | some a =>
    obtain ⟨a1, a2⟩ := h a rfl
    refine ⟨by show exK (bothE _ _) ≤ _; simp only [bothE, exK, exsK]; omega, ?_⟩
    show exB (bothE _ _)
    simp only [bothE, exB, exsB]
    exact ⟨by simp, a2, c2, trivial⟩
theorem fold_ok {i W : Int} : ∀ (ws : List Nat) (n : Nat) (acc : Option Ex'), okE n acc → okE (n + 12 * ws.length) (ws.foldl (stE i W) acc)
  | [], n, acc, h => h
  | w :: ws, n, acc, h => by
    have := fold_ok (i := i) (W := W) ws (n + 12) _ (stE_ok (i := i) (W := W) (w := w) h)
    rw [List.foldl_cons]
    intro e he
    obtain ⟨h1, h2⟩ := this e he
    exact ⟨by rw [List.length_cons]; omega, h2⟩
theorem agF_ok (g : Nat → Bool) : ∀ (vs : List Vr') (i n : Nat) (acc : Option Ex'), okE n acc → okE (n + 12 * tot vs) (agF g vs i acc)
  | [], i, n, acc, h => h
  | v :: l, i, n, acc, h => by
    rw [agF, tot]
    have h0 : okE (n + 12 * v.cells.toNat) (if g i then (List.range v.cells.toNat).foldl (stE i v.cells) acc else acc) := by
      split
      · have := fold_ok (i := i) (W := v.cells) (List.range v.cells.toNat) n acc h
        rwa [List.length_range] at this
      · intro e he
        obtain ⟨h1, h2⟩ := h e he
        exact ⟨by omega, h2⟩
    intro e he
    obtain ⟨h1, h2⟩ := agF_ok g l (i + 1) _ _ h0 e he
    exact ⟨by omega, h2⟩
theorem halfE_ok (vs : List Vr') (low : Int) (l : List Int) : exK (halfE vs low l) ≤ 12 * tot vs + 10 ∧ exB (halfE vs low l) := by
  unfold halfE
  have := agF_ok (gOf l low) vs 0 0 none (fun e he => by cases he)
  cases ho : agF (gOf l low) vs 0 none with
  | none => exact ⟨by simp [exK, exsK, cE], by simp [exB, exsB, cE]⟩
  | some e =>
    obtain ⟨h1, h2⟩ := this e ho
    exact ⟨by show exK e ≤ _; omega, h2⟩
theorem headRF_vars (all : List Vr') : ∀ (l : List Vr') (i s : Int), headRF all l i s = true → ∀ v, v ∈ l → 1 ≤ v.cells ∧ v.cells ≤ 8
  | [], _, _, _, v, hv => by cases hv
  | u :: r, i, s, h, v, hv => by
    rw [headRF] at h
    simp only [Bool.and_eq_true] at h
    rcases List.mem_cons.mp hv with e | hv
    · rw [e]
      have := h.1.1.2
      simp only [varB, Bool.and_eq_true, Bool.not_eq_true', decide_eq_false_iff_not] at this
      omega
    · exact headRF_vars all r _ _ h.2 v hv
theorem isP_vars {p : Pr'} (h : isP p = true) : ∀ v, v ∈ p.vars → 1 ≤ v.cells ∧ v.cells ≤ 8 := by
  unfold isP at h
  simp only [Bool.and_eq_true] at h
  have h2 := h.1.1.1
  unfold headRB at h2
  simp only [Bool.and_eq_true] at h2
  exact headRF_vars _ _ _ _ h2.2
theorem tot_le : ∀ (l : List Vr'), (∀ v, v ∈ l → 1 ≤ v.cells ∧ v.cells ≤ 8) → tot l ≤ 8 * l.length
  | [], _ => by simp [tot]
  | v :: l, h => by
    have h1 := tot_le l (fun u hu => h u (List.mem_cons_of_mem _ hu))
    have h2 := h v List.mem_cons_self
    rw [tot, List.length_cons]
    omega
theorem isE_fits {w : Int} {vs : List Vr'} {c : Int} {e : Ex'} (h : isE w vs c e = true) : fitsE e 600 = true := by
  rw [isE_eq] at h
  simp only [Bool.and_eq_true, decide_eq_true_eq] at h
  rw [fitsE_eq _ _ (by omega) (by omega)]
  exact decide_eq_true (by omega)
/- Flows by fixed types, in the reference. -/
theorem acc_appendV {tab : Tab} {lo : Nat} {h : Heap} {t e : Nat} {ti : TI} {sz0 by_ : Nat} {zr : List AV} (ht : Go.Ev.look tab t = some ⟨.slice e, sz0, by_, zr⟩) (he : Go.Ev.look tab e = some ti) (hsz : 0 < ti.sz) (hlo : lo ≤ h.length) (rows more : List (List AV))
    (hr : ∀ r, r ∈ rows → r.length = ti.sz) (hroom : (rows.length + more.length) * ti.bytes ≤ room) (hroom2 : rows.length + more.length ≤ room) :
    append tab lo (accH h e rows) t (accA h ti.sz rows) (accV ti.sz more) = some (accA h ti.sz (rows ++ more), accH h e (rows ++ more)) := by
  cases more with
  | cons m ms => exact acc_append ht he hsz hlo rows (m :: ms) hr hroom hroom2
  | nil =>
    have := acc_append ht he hsz hlo rows [] hr hroom hroom2
    rw [← this]
    unfold append
    rw [ht]
    dsimp only
    rw [he]
    simp [accV, rowOf, lenOf]
mutual
def rdS1 (m : Nat) : Sm' → Prop
  | .mk op n a t e => rdEs m a ∧ ((op = 0 ∨ op = 4) → 0 ≤ n ∧ n < m) ∧ rdSs m t ∧ rdSs m e
def rdSs (m : Nat) : List Sm' → Prop
  | [] => True
  | s :: l => rdS1 m s ∧ rdSs m l
end
theorem flowL_row (a f t : Int) : ∀ r, r ∈ flowL a f t → r.length = 3 ∧ ∀ x, x ∈ r → static x = true := by
  intro r hr
  unfold flowL at hr
  split at hr
  · cases hr
  · simp at hr; subst hr
    refine ⟨rfl, fun x hx => ?_⟩
    simp only [List.mem_cons, List.not_mem_nil, or_false] at hx
    rcases hx with rfl | rfl | rfl <;> rfl
theorem flowL_len (a f t : Int) : (flowL a f t).length ≤ 1 := by unfold flowL; split <;> simp
theorem smsN_len : ∀ l : List Sm', l.length ≤ smsN l
  | [] => by simp
  | s :: l => by have := smsN_len l; have := smN_pos s; rw [smsN, List.length_cons]; omega
theorem smsN_mem : ∀ (l : List Sm') (i : Nat) (e : Sm'), l[i]? = some e → smN e ≤ smsN l
  | [], i, e, h => by simp at h
  | a :: l, 0, e, h => by simp at h; subst h; rw [smsN]; omega
  | a :: l, i + 1, e, h => by
    simp at h
    have := smsN_mem l i e h
    rw [smsN]; omega
theorem fl_append (h : Heap) (rows more : List (List AV)) (hr : ∀ r, r ∈ rows → r.length = 3) (hl : rows.length + more.length < 100000) : append cfg.tab h.length (accH h 72 rows) 69 (accA h 3 rows) (accV 3 more) = some (accA h 3 (rows ++ more), accH h 72 (rows ++ more)) :=
  acc_appendV (tab := cfg.tab) (lo := h.length) (h := h) (t := 69) (e := 72) rfl rfl (by decide) (Nat.le_refl _) rows more hr (by simp only [room]; show (rows.length + more.length) * 24 ≤ _; omega) (by simp only [room]; omega)
theorem lt_its {l : List Sm'} {n : Int} {i : Nat} (h : i < l.length) : decide ((i : Int) < (((itemsL l n).map itC).length : Int)) = true := decide_eq_true (by rw [List.length_map, itemsL_len]; omega)
theorem ge_its {l : List Sm'} {n : Int} : decide ((l.length : Int) < (((itemsL l n).map itC).length : Int)) = false := decide_eq_false (by rw [List.length_map, itemsL_len]; omega)
/- Flows by fixed types, in the program. -/
section
variable {σ : Type} (tl : σ → Int → Int → Int → σ) (lv : List Int)
end
/- level.flows, level.Check; the flows of the law; Same. -/
/-- Flows as numbers. -/
def flC (x : Int × Int × Int) : List AV := [.int .i64 x.1, .int .i64 x.2.1, .int .i64 x.2.2]
/- Plain laws: the flows of the program and of the reference are the same; the law LevelFixed. -/
mutual
def sc1 : Sm' → Nat
  | .mk _ _ _ t e => 1 + scs t + scs e
def scs : List Sm' → Nat
  | [] => 0
  | s :: l => sc1 s + scs l
end
mutual
theorem sc1_le : ∀ s : Sm', sc1 s ≤ smN s
  | .mk _ _ a t e => by rw [sc1, smN]; have := scs_le t; have := scs_le e; omega
theorem scs_le : ∀ l : List Sm', scs l ≤ smsN l
  | [] => by rw [scs, smsN]; omega
  | s :: l => by rw [scs, smsN]; have := sc1_le s; have := scs_le l; omega
end
mutual
theorem cnt1_eq : ∀ (s : Sm') (n : Int), 0 ≤ n → n + smN s < 1000000 → cnt1 s n = n + sc1 s
  | .mk op m a t e, n, h0, h1 => by
    rw [smN] at h1
    have := scs_le t
    have := scs_le e
    rw [cnt1, sc1, cntL_eq t 0 (by omega) (by omega), cntL_eq e 0 (by omega) (by omega), wsm (n := n + 1) (by omega) (by omega), wsm (n := n + 1 + _) (by omega) (by omega), wsm (by omega) (by omega)]; omega
theorem cntL_eq : ∀ (l : List Sm') (n : Int), 0 ≤ n → n + smsN l < 1000000 → cntL l n = n + scs l
  | [], n, h0, h1 => by rw [cntL, scs]; omega
  | s :: l, n, h0, h1 => by
    rw [smsN] at h1
    have := sc1_le s
    rw [cntL, scs, cnt1_eq s n h0 (by omega), cntL_eq l _ (by omega) (by omega)]; omega
end
theorem flat_nil {t e : List Sm'} (h : flatB t e = true) : t = [] ∧ e = [] := by
  unfold flatB at h
  simp only [Bool.and_eq_true, beq_iff_eq] at h
  exact ⟨List.length_eq_zero_iff.1 (by omega), List.length_eq_zero_iff.1 (by omega)⟩
mutual
theorem row_rd {w : Int} {vs : List Vr'} : ∀ (s : Sm'), rowB w vs s = true → rdS1 vs.length s
  | .mk op nn a t e, hr => by
    rw [rowB] at hr
    simp only [Bool.and_eq_true] at hr
    obtain ⟨⟨⟨hh, ht⟩, he⟩, ha⟩ := hr
    rw [rdS1]
    refine ⟨?_, fun ho => ?_, rows_rd t ht, rows_rd e he⟩
    · have key : ∀ es : List Ex', es.all (isE w vs 1) = true → rdEs vs.length es := by
        intro es
        induction es with
        | nil => intro _; trivial
        | cons x es ih =>
          intro h
          rw [List.all_cons, Bool.and_eq_true] at h
          exact ⟨isE_rd h.1, ih h.2⟩
      exact key a ha
    · unfold headB at hh
      dsimp only at hh
      rcases ho with ho | ho
      · rw [if_pos ho, Bool.and_eq_true] at hh
        have := hh.2
        unfold variableB at this
        simp only [Bool.and_eq_true, decide_eq_true_eq] at this
        exact this.1
      · rw [if_neg (by omega), if_neg (by omega), if_neg (by omega), if_neg (by omega), if_pos ho, Bool.and_eq_true] at hh
        have := hh.2
        unfold variableB at this
        simp only [Bool.and_eq_true, decide_eq_true_eq] at this
        exact this.1
theorem rows_rd {w : Int} {vs : List Vr'} : ∀ (l : List Sm'), rowsB w vs l = true → rdSs vs.length l
  | [], _ => trivial
  | s :: l, hr => by
    rw [rowsB, Bool.and_eq_true] at hr
    exact ⟨row_rd s hr.1, rows_rd l hr.2⟩
end
theorem isP_rows {p : Pr'} (h : isP p = true) : rowsB p.width p.vars p.body = true := by
  unfold isP at h
  simp only [Bool.and_eq_true] at h
  exact h.2
theorem flowL_num (a f t : Int) : ∃ fl : List (Int × Int × Int), flowL a f t = fl.map flC := by
  unfold flowL
  split
  · exact ⟨[], rfl⟩
  · exact ⟨[(a, f, t)], rfl⟩
/- Types that move: what is plain about them. -/
def ic (l : List Int) : List AV := l.map fun n => .int .i64 n
theorem ic_flat (l : List Int) : (intsC l).flatten = ic l := by
  induction l with
  | nil => rfl
  | cons a l ih => simp only [intsC, List.map_cons, List.flatten_cons, ic] at ih ⊢; rw [ih]; rfl
theorem ic_len (l : List Int) : (ic l).length = l.length := by simp [ic]
theorem ic_get {l : List Int} {i : Nat} {n : Int} (h : l[i]? = some n) : (ic l)[i]? = some (.int .i64 n) := by simp [ic, h]
theorem ic_static (l : List Int) : (ic l).all static = true := by
  rw [List.all_eq_true]
  intro x hx
  obtain ⟨n, _, rfl⟩ := List.mem_map.1 hx
  rfl
theorem ic_set {l : List Int} {i : Nat} (v : Int) (h : i < l.length) : setCells (ic l) i [.int .i64 v] = ic (l.set i v) := by
  unfold setCells ic
  rw [List.set_eq_take_append_cons_drop, if_pos h]
  simp [List.map_take, List.map_drop]
theorem chunks_ic : ∀ l : List Int, chunks 1 l.length (ic l) = intsC l
  | [] => rfl
  | a :: l => by
    have := chunks_ic l
    simp only [ic, intsC, List.length_cons, chunks, List.map_cons] at this ⊢
    rw [← this]; rfl
/-! ### Levels from 0 to 31 -/
def lvB (x : Int) : Prop := 0 ≤ x ∧ x < 32
def lvsB (l : List Int) : Prop := ∀ x, x ∈ l → lvB x
theorem or_lift {Q : Int → Int → Prop} (h : ∀ a b : Fin 32, Q (a.val : Int) (b.val : Int)) {a b : Int} (ha : lvB a) (hb : lvB b) : Q a b := by
  have := h ⟨a.toNat, by have := ha.2; have := ha.1; omega⟩ ⟨b.toNat, by have := hb.2; have := hb.1; omega⟩
  rw [Int.toNat_of_nonneg ha.1, Int.toNat_of_nonneg hb.1] at this
  exact this
theorem orI_B {a b : Int} (ha : lvB a) (hb : lvB b) : lvB (orI a b) := or_lift (Q := fun a b => 0 ≤ orI a b ∧ orI a b < 32) (by decide +kernel) ha hb
theorem orI_comm (a b : Int) : orI a b = orI b a := by unfold orI; rw [BitVec.or_comm]
theorem orI_zero {b : Int} (hb : lvB b) : orI 0 b = b := or_lift (Q := fun a b => orI 0 b = b) (by decide +kernel) hb hb
theorem orI_zero' {b : Int} (hb : lvB b) : orI b 0 = b := by rw [orI_comm, orI_zero hb]
theorem orI_ge {a b : Int} (ha : lvB a) (hb : lvB b) : a ≤ orI a b := or_lift (Q := fun a b => a ≤ orI a b) (by decide +kernel) ha hb
theorem lvB0 : lvB 0 := by unfold lvB; omega
theorem lvB16 : lvB 16 := by unfold lvB; omega
theorem lvsB_getD {l : List Int} (h : lvsB l) (i : Nat) : lvB (l.getD i 0) := by
  rw [List.getD_eq_getElem?_getD]
  cases hi : l[i]? with
  | none => exact lvB0
  | some x => exact h x (List.mem_of_getElem? hi)
mutual
theorem ofE_B {l : List Int} (h : lvsB l) : ∀ e : Ex', lvB (ofE l e)
  | .mk op n _ es => by
    rw [ofE]
    refine ofEs_B h es ?_
    split
    · exact lvsB_getD h _
    · exact lvB0
theorem ofEs_B {l : List Int} (h : lvsB l) : ∀ (es : List Ex') {a : Int}, lvB a → lvB (ofEs l a es)
  | [], a, ha => by rw [ofEs]; exact ha
  | e :: es, a, ha => by rw [ofEs]; exact ofEs_B h es (orI_B ha (ofE_B h e))
end
theorem lvsB_set {l : List Int} {v : Int} (h : lvsB l) (hv : lvB v) (i : Nat) : lvsB (l.set i v) := fun x hx => by
  rcases List.mem_or_eq_of_mem_set hx with h' | h'
  · exact h x h'
  · rw [h']; exact hv
/-! ### The levels of both -/
def joinL (a b : List Int) : List Int := List.zipWith orI a b
theorem joinL_len {a b : List Int} (h : a.length = b.length) : (joinL a b).length = a.length := by simp [joinL, h]
theorem joinL_B : ∀ {a b : List Int}, lvsB a → lvsB b → lvsB (joinL a b)
  | [], _, _, _ => fun x hx => by simp [joinL] at hx
  | _ :: _, [], _, _ => fun x hx => by simp [joinL] at hx
  | x :: a, y :: b, ha, hb => fun z hz => by
    simp only [joinL, List.zipWith_cons_cons, List.mem_cons] at hz
    rcases hz with rfl | hz
    · exact orI_B (ha x (List.mem_cons_self ..)) (hb y (List.mem_cons_self ..))
    · exact joinL_B (fun w hw => ha w (List.mem_cons_of_mem _ hw)) (fun w hw => hb w (List.mem_cons_of_mem _ hw)) z hz
def roomL : List Int → Nat
  | [] => 0
  | x :: l => (32 - x).toNat + roomL l
theorem roomL_le : ∀ {l : List Int}, lvsB l → roomL l ≤ 32 * l.length
  | [], _ => by simp [roomL]
  | x :: l, h => by
    have := roomL_le (l := l) fun w hw => h w (List.mem_cons_of_mem _ hw)
    have := (h x (List.mem_cons_self ..)).1
    simp only [roomL, List.length_cons]; omega
theorem joinL_room : ∀ {a b : List Int}, lvsB a → lvsB b → a.length = b.length → roomL (joinL a b) ≤ roomL a ∧ (joinL a b = a ∨ roomL (joinL a b) < roomL a)
  | [], [], _, _, _ => ⟨by simp [joinL], .inl rfl⟩
  | x :: a, y :: b, ha, hb, hl => by
    obtain ⟨h1, h2⟩ := joinL_room (a := a) (b := b) (fun w hw => ha w (List.mem_cons_of_mem _ hw)) (fun w hw => hb w (List.mem_cons_of_mem _ hw)) (by simpa using hl)
    have hx := ha x (List.mem_cons_self ..)
    have hge := orI_ge hx (hb y (List.mem_cons_self ..))
    have hB := orI_B hx (hb y (List.mem_cons_self ..))
    unfold joinL at h1 h2 ⊢
    simp only [List.zipWith_cons_cons, roomL]
    have q1 := hx.2
    have q2 := hB.2
    refine ⟨by omega, ?_⟩
    by_cases he : orI x y = x
    · rcases h2 with h2 | h2
      · left; rw [he, h2]
      · right; omega
    · right; omega
  | [], _ :: _, _, _, h => by simp at h
  | _ :: _, [], _, _, h => by simp at h
/-! ### Again and again, until nothing changes -/
def fixN (f : List Int → List Int) : Nat → List Int → List Int
  | 0, x => x
  | n + 1, x => if f x = x then x else fixN f n (f x)
theorem fixN_keep {f : List Int → List Int} {Q : List Int → Prop} (hf : ∀ x, Q x → Q (f x)) : ∀ (n : Nat) (x : List Int), Q x → Q (fixN f n x)
  | 0, x, h => h
  | n + 1, x, h => by
    rw [fixN]
    split
    · exact h
    · exact fixN_keep hf n _ (hf x h)
theorem fixN_congr {f g : List Int → List Int} {Q : List Int → Prop} (hf : ∀ x, Q x → Q (f x)) (hfg : ∀ x, Q x → f x = g x) : ∀ (n : Nat) (x : List Int), Q x → fixN f n x = fixN g n x
  | 0, x, h => rfl
  | n + 1, x, h => by
    rw [fixN, fixN, ← hfg x h]
    split
    · rfl
    · exact fixN_congr hf hfg n _ (hf x h)
/-! ### Statements -/
mutual
def vm1 (m : Nat) : Sm' → Prop
  | .mk op n a t e => rdEs m a ∧ ((op = 0 ∨ op = 4) → 0 ≤ n ∧ n < m) ∧ ((op = 1 ∨ op = 2 ∨ op = 3) → ∃ x, a = [x]) ∧ vmL m t ∧ vmL m e
def vmL (m : Nat) : List Sm' → Prop
  | [] => True
  | s :: l => vm1 m s ∧ vmL m l
end
theorem vmL_mem {m : Nat} : ∀ {l : List Sm'} {i : Nat} {e : Sm'}, vmL m l → l[i]? = some e → vm1 m e
  | [], i, e, _, h => by simp at h
  | a :: l, 0, e, hb, h => by simp at h; subst h; exact hb.1
  | a :: l, i + 1, e, hb, h => by simp at h; exact vmL_mem hb.2 h
section
variable (pt : List Int → Int → Sm' → List Int) (og : List Int → List Ex' → Int)
mutual
def mv1 : Sm' → List Int → Int → List Int
  | .mk op n a t e, lv, ar =>
    if op = 1 then joinL (mvL t lv (orI ar (og lv a))) (mvL e lv (orI ar (og lv a)))
    else if op = 2 then fixN (fun x => joinL x (mvL t x (orI ar (og x a)))) 600 lv
    else pt lv ar (.mk op n a t e)
def mvL : List Sm' → List Int → Int → List Int
  | [], lv, _ => lv
  | s :: l, lv, ar => mvL l (mv1 s lv ar) ar
end
/-- What keeps levels as many, and from 0 to 31. -/
structure Mv (m : Nat) : Prop where
  pt : ∀ lv ar s, lv.length = m → lvsB lv → lvB ar → vm1 m s → (pt lv ar s).length = m ∧ lvsB (pt lv ar s)
  og : ∀ lv a, lvsB lv → lvB (og lv a)
variable {pt og}
mutual
theorem mv1_ok {m : Nat} (H : Mv pt og m) : ∀ (s : Sm') (lv : List Int) (ar : Int), lv.length = m → lvsB lv → lvB ar → vm1 m s → (mv1 pt og s lv ar).length = m ∧ lvsB (mv1 pt og s lv ar)
  | .mk op n a t e, lv, ar, hl, hb, ha, hv => by
    have hv' := hv
    rw [vm1] at hv
    rw [mv1]
    split
    · obtain ⟨t1, t2⟩ := mvL_ok H t lv (orI ar (og lv a)) hl hb (orI_B ha (H.og lv a hb)) hv.2.2.2.1
      obtain ⟨e1, e2⟩ := mvL_ok H e lv (orI ar (og lv a)) hl hb (orI_B ha (H.og lv a hb)) hv.2.2.2.2
      exact ⟨by rw [joinL_len (by omega)]; exact t1, joinL_B t2 e2⟩
    · split
      · exact fixN_keep (Q := fun x => x.length = m ∧ lvsB x) (fun x hx => by
          obtain ⟨t1, t2⟩ := mvL_ok H t x (orI ar (og x a)) hx.1 hx.2 (orI_B ha (H.og x a hx.2)) hv.2.2.2.1
          exact ⟨by rw [joinL_len (by omega)]; exact hx.1, joinL_B hx.2 t2⟩) _ _ ⟨hl, hb⟩
      · exact H.pt lv ar _ hl hb ha hv'
theorem mvL_ok {m : Nat} (H : Mv pt og m) : ∀ (l : List Sm') (lv : List Int) (ar : Int), lv.length = m → lvsB lv → lvB ar → vmL m l → (mvL pt og l lv ar).length = m ∧ lvsB (mvL pt og l lv ar)
  | [], lv, ar, hl, hb, _, _ => by rw [mvL]; exact ⟨hl, hb⟩
  | s :: l, lv, ar, hl, hb, ha, hv => by
    obtain ⟨q1, q2⟩ := mv1_ok H s lv ar hl hb ha hv.1
    rw [mvL]
    exact mvL_ok H l _ ar q1 q2 ha hv.2
end
/-- One round of a while comes nearer. -/
theorem round_ok {m : Nat} (H : Mv pt og m) {t : List Sm'} (hv : vmL m t) {ar : Int} (ha : lvB ar) (a : List Ex') {x : List Int} (hl : x.length = m) (hb : lvsB x) :
    (joinL x (mvL pt og t x (orI ar (og x a)))).length = m ∧ lvsB (joinL x (mvL pt og t x (orI ar (og x a)))) ∧ (joinL x (mvL pt og t x (orI ar (og x a))) = x ∨ roomL (joinL x (mvL pt og t x (orI ar (og x a)))) < roomL x) := by
  obtain ⟨t1, t2⟩ := mvL_ok H t x (orI ar (og x a)) hl hb (orI_B ha (H.og x a hb)) hv
  exact ⟨by rw [joinL_len (by omega)]; exact hl, joinL_B hb t2, (joinL_room hb t2 (by omega)).2⟩
end
/-- The places, with the levels there. -/
abbrev Pl := Int × Sm' × List Int × Int
section
variable (pt : List Int → Int → Sm' → List Int) (og : List Int → List Ex' → Int)
mutual
def pl1 : Sm' → List Int → Int → Int → List Pl
  | .mk op nn a t e, lv, ar, n =>
    if op = 1 then (n, .mk op nn a t e, lv, ar) :: (plL t lv (orI ar (og lv a)) (IntKind.i64.wrap (n + 1)) ++ plL e lv (orI ar (og lv a)) (IntKind.i64.wrap (IntKind.i64.wrap (n + 1) + cntL t 0)))
    else if op = 2 then (n, .mk op nn a t e, mv1 pt og (.mk op nn a t e) lv ar, ar) :: plL t (mv1 pt og (.mk op nn a t e) lv ar) (orI ar (og (mv1 pt og (.mk op nn a t e) lv ar) a)) (IntKind.i64.wrap (n + 1))
    else [(n, .mk op nn a t e, lv, ar)]
def plL : List Sm' → List Int → Int → Int → List Pl
  | [], _, _, _ => []
  | s :: l, lv, ar, n => pl1 s lv ar n ++ plL l (mv1 pt og s lv ar) ar (cnt1 s n)
end
variable {σ : Type} (upd : σ → Int → Sm' → List Int → Int → σ)
mutual
def sp1 : Sm' → List Int → Int → σ → Int → σ × Int
  | .mk op nn a t e, lv, ar, x, n =>
    if op = 1 then
      spL e lv (orI ar (og lv a)) (spL t lv (orI ar (og lv a)) (upd x n (.mk op nn a t e) lv ar) (IntKind.i64.wrap (n + 1))).1 (spL t lv (orI ar (og lv a)) (upd x n (.mk op nn a t e) lv ar) (IntKind.i64.wrap (n + 1))).2
    else if op = 2 then
      spL t (mv1 pt og (.mk op nn a t e) lv ar) (orI ar (og (mv1 pt og (.mk op nn a t e) lv ar) a)) (upd x n (.mk op nn a t e) (mv1 pt og (.mk op nn a t e) lv ar) ar) (IntKind.i64.wrap (n + 1))
    else (upd x n (.mk op nn a t e) lv ar, IntKind.i64.wrap (n + 1))
def spL : List Sm' → List Int → Int → σ → Int → σ × Int
  | [], _, _, x, n => (x, n)
  | s :: l, lv, ar, x, n => spL l (mv1 pt og s lv ar) ar (sp1 s lv ar x n).1 (sp1 s lv ar x n).2
end
end
def updP {σ : Type} (upd : σ → Int → Sm' → List Int → Int → σ) (x : σ) (p : Pl) : σ := upd x p.1 p.2.1 p.2.2.1 p.2.2.2
mutual
theorem sp1_eq {w : Int} {vs : List Vr'} {pt : List Int → Int → Sm' → List Int} {og : List Int → List Ex' → Int} {σ : Type} (upd : σ → Int → Sm' → List Int → Int → σ) :
    ∀ (s : Sm') (lv : List Int) (ar : Int) (x : σ) (n : Int), rowB w vs s = true → 0 ≤ n → n + smN s < 1000000 → sp1 pt og upd s lv ar x n = ((pl1 pt og s lv ar n).foldl (updP upd) x, cnt1 s n)
  | .mk op nn a t e, lv, ar, x, n, hr, h0, h1 => by
    rw [rowB] at hr
    simp only [Bool.and_eq_true] at hr
    obtain ⟨⟨⟨hh, ht⟩, he⟩, _⟩ := hr
    have hc1 := cnt1_eq (.mk op nn a t e) n h0 h1
    rw [smN] at h1
    have hst := scs_le t
    have hse := scs_le e
    unfold headB at hh
    dsimp only at hh
    rw [sp1, pl1]
    have e2 : cntL t 0 = scs t := by rw [cntL_eq t 0 (by omega) (by omega)]; omega
    have e1 : cntL t (n + 1) = n + 1 + scs t := cntL_eq t _ (by omega) (by omega)
    by_cases o1 : op = 1
    · rw [if_pos o1, if_pos o1, wsm (n := n + 1) (by omega) (by omega), spL_eq upd t _ _ _ (n + 1) ht (by omega) (by omega)]
      dsimp only
      rw [e1, spL_eq upd e _ _ _ (n + 1 + scs t) he (by omega) (by omega), e2, wsm (n := n + 1 + _) (by omega) (by omega), hc1, sc1, cntL_eq e _ (by omega) (by omega), List.foldl_cons, List.foldl_append]
      congr 1; omega
    · rw [if_neg o1, if_neg o1]
      by_cases o2 : op = 2
      · rw [if_pos o2, if_pos o2, wsm (n := n + 1) (by omega) (by omega), spL_eq upd t _ _ _ (n + 1) ht (by omega) (by omega), e1, hc1, sc1]
        rw [if_neg (by omega), if_neg o1, if_pos o2] at hh
        simp only [Bool.and_eq_true, beq_iff_eq] at hh
        have : e = [] := List.length_eq_zero_iff.1 (by omega)
        subst this
        rw [List.foldl_cons, scs]
        congr 1; omega
      · rw [if_neg o2, if_neg o2]
        have hf : flatB t e = true := by
          rw [if_neg o1, if_neg o2] at hh
          split at hh
          · simp only [Bool.and_eq_true] at hh; exact hh.1
          split at hh
          · simp only [Bool.and_eq_true] at hh; exact hh.1.1.1
          split at hh
          · simp only [Bool.and_eq_true] at hh; exact hh.1
          split at hh
          · simp only [Bool.and_eq_true] at hh; exact hh.1.1
          · cases hh
        obtain ⟨q1, q2⟩ := flat_nil hf
        subst q1 q2
        rw [hc1, sc1, scs, wsm (by omega) (by omega)]
        simp only [List.foldl_cons, List.foldl_nil, updP]
        congr 1
theorem spL_eq {w : Int} {vs : List Vr'} {pt : List Int → Int → Sm' → List Int} {og : List Int → List Ex' → Int} {σ : Type} (upd : σ → Int → Sm' → List Int → Int → σ) :
    ∀ (l : List Sm') (lv : List Int) (ar : Int) (x : σ) (n : Int), rowsB w vs l = true → 0 ≤ n → n + smsN l < 1000000 → spL pt og upd l lv ar x n = ((plL pt og l lv ar n).foldl (updP upd) x, cntL l n)
  | [], lv, ar, x, n, hr, h0, h1 => by rw [spL, plL, cntL]; rfl
  | s :: l, lv, ar, x, n, hr, h0, h1 => by
    rw [rowsB, Bool.and_eq_true] at hr
    rw [smsN] at h1
    have := sc1_le s
    rw [spL, plL, cntL, sp1_eq upd s lv ar x n hr.1 h0 (by omega)]
    dsimp only
    rw [cnt1_eq s n h0 (by omega), spL_eq upd l _ ar _ _ hr.2 (by omega) (by omega), List.foldl_append]
end
/-! ### The two ways to say it -/
def ofH (lv : List Int) : List Ex' → Int
  | [] => 0
  | x :: _ => ofE lv x
def ofA (lv : List Int) (a : List Ex') : Int := ofEs lv 0 a
def fromP (lv : List Int) (ar op : Int) (a : List Ex') : Int := if op = 4 then orI (orI ar (ofEs lv 0 a)) 16 else orI ar (ofEs lv 0 a)
def putP (lv : List Int) (ar : Int) : Sm' → List Int
  | .mk op n a _ _ => if op = 0 ∨ op = 4 then (if a.length = 2 ∨ (op = 4 ∧ a.length = 1) then lv.set n.toNat (orI (lv.getD n.toNat 0) (fromP lv ar op a)) else lv.set n.toNat (fromP lv ar op a)) else lv
def keptI (vs : List Vr') (lv : List Int) (n : Int) : Int := if cellsAt vs n > 1 then lv.getD n.toNat 0 else 0
def putR (vs : List Vr') (lv : List Int) (ar : Int) : Sm' → List Int
  | .mk op n a _ _ => if op = 0 ∨ op = 4 then lv.set n.toNat (orI (fromP lv ar op a) (keptI vs lv n)) else lv
theorem fromP_B {lv : List Int} {ar : Int} (h : lvsB lv) (ha : lvB ar) (op : Int) (a : List Ex') : lvB (fromP lv ar op a) := by
  unfold fromP
  split
  · exact orI_B (orI_B ha (ofEs_B h a lvB0)) lvB16
  · exact orI_B ha (ofEs_B h a lvB0)
theorem keptI_B {lv : List Int} (h : lvsB lv) (vs : List Vr') (n : Int) : lvB (keptI vs lv n) := by
  unfold keptI
  split
  · exact lvsB_getD h _
  · exact lvB0
theorem mvP_ok (m : Nat) : Mv putP ofH m where
  pt lv ar s hl hb ha _ := by
    obtain ⟨op, n, a, t, e⟩ := s
    unfold putP
    dsimp only
    split
    · split
      · exact ⟨by simpa using hl, lvsB_set hb (orI_B (lvsB_getD hb _) (fromP_B hb ha op a)) _⟩
      · exact ⟨by simpa using hl, lvsB_set hb (fromP_B hb ha op a) _⟩
    · exact ⟨hl, hb⟩
  og lv a hb := by
    cases a with
    | nil => exact lvB0
    | cons x l => exact ofE_B hb x
theorem mvR_ok (vs : List Vr') (m : Nat) : Mv (putR vs) ofA m where
  pt lv ar s hl hb ha _ := by
    obtain ⟨op, n, a, t, e⟩ := s
    unfold putR
    dsimp only
    split
    · exact ⟨by simpa using hl, lvsB_set hb (orI_B (fromP_B hb ha op a) (keptI_B hb vs n)) _⟩
    · exact ⟨hl, hb⟩
  og lv a hb := ofEs_B hb a lvB0
theorem ofH_eq {lv : List Int} (hb : lvsB lv) {a : List Ex'} (h : ∃ x, a = [x]) : ofH lv a = ofA lv a := by
  obtain ⟨x, rfl⟩ := h
  unfold ofH ofA
  rw [ofEs, ofEs, orI_zero (ofE_B hb x)]
mutual
theorem row_vm {w : Int} {vs : List Vr'} : ∀ (s : Sm'), rowB w vs s = true → vm1 vs.length s
  | .mk op nn a t e, hr => by
    have hrd := row_rd _ hr
    rw [rdS1] at hrd
    rw [rowB] at hr
    simp only [Bool.and_eq_true] at hr
    obtain ⟨⟨⟨hh, ht⟩, he⟩, ha⟩ := hr
    rw [vm1]
    refine ⟨hrd.1, hrd.2.1, fun ho => ?_, rows_vm t ht, rows_vm e he⟩
    unfold headB at hh
    dsimp only at hh
    have hl : a.length = 1 := by
      rcases ho with ho | ho
      · rw [if_neg (by omega), if_pos ho] at hh
        simp only [Bool.and_eq_true, beq_iff_eq] at hh
        omega
      rcases ho with ho | ho
      · rw [if_neg (by omega), if_neg (by omega), if_pos ho] at hh
        simp only [Bool.and_eq_true, beq_iff_eq] at hh
        omega
      · rw [if_neg (by omega), if_neg (by omega), if_neg (by omega), if_pos ho] at hh
        simp only [Bool.and_eq_true, beq_iff_eq] at hh
        omega
    cases a with
    | nil => simp at hl
    | cons x a => cases a with
      | nil => exact ⟨x, rfl⟩
      | cons y a => simp at hl
theorem rows_vm {w : Int} {vs : List Vr'} : ∀ (l : List Sm'), rowsB w vs l = true → vmL vs.length l
  | [], _ => trivial
  | s :: l, hr => by
    rw [rowsB, Bool.and_eq_true] at hr
    exact ⟨row_vm s hr.1, rows_vm l hr.2⟩
end
theorem put_eq {w : Int} {vs : List Vr'} {s : Sm'} (hr : rowB w vs s = true) {lv : List Int} {ar : Int} (hb : lvsB lv) (ha : lvB ar) : putP lv ar s = putR vs lv ar s := by
  obtain ⟨op, n, a, t, e⟩ := s
  rw [rowB] at hr
  simp only [Bool.and_eq_true] at hr
  obtain ⟨⟨⟨hh, _⟩, _⟩, _⟩ := hr
  unfold headB at hh
  dsimp only at hh
  unfold putP putR
  dsimp only
  have hB := fromP_B hb ha op a
  by_cases o0 : op = 0
  · rw [if_pos o0, Bool.and_eq_true] at hh
    have hv := hh.2
    unfold variableB at hv
    simp only [Bool.and_eq_true, beq_iff_eq] at hv
    have hv2 := hv.2
    have hp : op = 0 ∨ op = 4 := .inl o0
    simp only [if_pos hp]
    unfold keptI
    by_cases hc : cellsAt vs n > 1
    · rw [decide_eq_true hc] at hv2
      have : (a.length : Int) = 2 := by rw [hv2]; rfl
      rw [if_pos (.inl (by omega)), if_pos hc, orI_comm]
    · rw [decide_eq_false hc] at hv2
      have : (a.length : Int) = 1 := by rw [hv2]; rfl
      rw [if_neg (show ¬ (a.length = 2 ∨ (op = 4 ∧ a.length = 1)) by omega), if_neg hc, orI_zero' hB]
  by_cases o4 : op = 4
  · rw [if_neg o0, if_neg (by omega), if_neg (by omega), if_neg (by omega), if_pos o4, Bool.and_eq_true] at hh
    have hv := hh.2
    unfold variableB at hv
    simp only [Bool.and_eq_true, beq_iff_eq] at hv
    have hv2 := hv.2
    have hp : op = 0 ∨ op = 4 := .inr o4
    simp only [if_pos hp]
    unfold keptI
    by_cases hc : cellsAt vs n > 1
    · rw [decide_eq_true hc] at hv2
      have : (a.length : Int) = 1 := by rw [hv2]; rfl
      rw [if_pos (.inr ⟨o4, by omega⟩), if_pos hc, orI_comm]
    · rw [decide_eq_false hc] at hv2
      have : (a.length : Int) = 0 := by rw [hv2]; rfl
      rw [if_neg (show ¬ (a.length = 2 ∨ (op = 4 ∧ a.length = 1)) by omega), if_neg hc, orI_zero' hB]
  · rw [if_neg (by omega), if_neg (by omega)]
mutual
theorem mv1_eq {w : Int} {vs : List Vr'} : ∀ (s : Sm') (lv : List Int) (ar : Int), rowB w vs s = true → lv.length = vs.length → lvsB lv → lvB ar → mv1 putP ofH s lv ar = mv1 (putR vs) ofA s lv ar
  | .mk op n a t e, lv, ar, hr, hl, hb, ha => by
    have hr' := hr
    have hvm := row_vm _ hr
    rw [vm1] at hvm
    rw [rowB] at hr
    simp only [Bool.and_eq_true] at hr
    obtain ⟨⟨⟨_, ht⟩, he⟩, _⟩ := hr
    rw [mv1, mv1]
    by_cases o1 : op = 1
    · rw [if_pos o1, if_pos o1, ofH_eq hb (hvm.2.2.1 (.inl o1))]
      have hB : lvB (orI ar (ofA lv a)) := orI_B ha (ofEs_B hb a lvB0)
      rw [mvL_eq t lv _ ht hl hb hB, mvL_eq e lv _ he hl hb hB]
    · rw [if_neg o1, if_neg o1]
      by_cases o2 : op = 2
      · rw [if_pos o2, if_pos o2]
        refine fixN_congr (Q := fun x => x.length = vs.length ∧ lvsB x) (fun x hx => ?_) (fun x hx => ?_) _ _ ⟨hl, hb⟩
        · obtain ⟨q1, q2, _⟩ := round_ok (mvP_ok vs.length) hvm.2.2.2.1 ha a hx.1 hx.2
          exact ⟨q1, q2⟩
        · rw [ofH_eq hx.2 (hvm.2.2.1 (.inr (.inl o2))), mvL_eq t x _ ht hx.1 hx.2 (show lvB (orI ar (ofA x a)) from orI_B ha (ofEs_B hx.2 a lvB0))]
      · rw [if_neg o2, if_neg o2]
        exact put_eq hr' hb ha
theorem mvL_eq {w : Int} {vs : List Vr'} : ∀ (l : List Sm') (lv : List Int) (ar : Int), rowsB w vs l = true → lv.length = vs.length → lvsB lv → lvB ar → mvL putP ofH l lv ar = mvL (putR vs) ofA l lv ar
  | [], lv, ar, hr, hl, hb, ha => by rw [mvL, mvL]
  | s :: l, lv, ar, hr, hl, hb, ha => by
    rw [rowsB, Bool.and_eq_true] at hr
    rw [mvL, mvL, mv1_eq s lv ar hr.1 hl hb ha]
    obtain ⟨q1, q2⟩ := mv1_ok (mvR_ok vs vs.length) s lv ar hl hb ha (row_vm s hr.1)
    exact mvL_eq l _ ar hr.2 q1 q2 ha
end
mutual
theorem pl1_eq {w : Int} {vs : List Vr'} : ∀ (s : Sm') (lv : List Int) (ar n : Int), rowB w vs s = true → lv.length = vs.length → lvsB lv → lvB ar → pl1 putP ofH s lv ar n = pl1 (putR vs) ofA s lv ar n
  | .mk op nn a t e, lv, ar, n, hr, hl, hb, ha => by
    have hr' := hr
    have hvm := row_vm _ hr
    have hm := mv1_eq _ lv ar hr hl hb ha
    obtain ⟨q1, q2⟩ := mv1_ok (mvR_ok vs vs.length) _ lv ar hl hb ha hvm
    rw [vm1] at hvm
    rw [rowB] at hr
    simp only [Bool.and_eq_true] at hr
    obtain ⟨⟨⟨_, ht⟩, he⟩, _⟩ := hr
    rw [pl1, pl1]
    by_cases o1 : op = 1
    · have hB : lvB (orI ar (ofA lv a)) := orI_B ha (ofEs_B hb a lvB0)
      rw [if_pos o1, if_pos o1, ofH_eq hb (hvm.2.2.1 (.inl o1)), plL_eq t lv _ _ ht hl hb hB, plL_eq e lv _ _ he hl hb hB]
    · rw [if_neg o1, if_neg o1]
      by_cases o2 : op = 2
      · rw [if_pos o2, if_pos o2, hm, ofH_eq q2 (hvm.2.2.1 (.inr (.inl o2))), plL_eq t _ (orI ar (ofA (mv1 (putR vs) ofA (.mk op nn a t e) lv ar) a)) _ ht q1 q2 (orI_B ha (ofEs_B q2 a lvB0))]
      · rw [if_neg o2, if_neg o2]
theorem plL_eq {w : Int} {vs : List Vr'} : ∀ (l : List Sm') (lv : List Int) (ar n : Int), rowsB w vs l = true → lv.length = vs.length → lvsB lv → lvB ar → plL putP ofH l lv ar n = plL (putR vs) ofA l lv ar n
  | [], lv, ar, n, hr, hl, hb, ha => by rw [plL, plL]
  | s :: l, lv, ar, n, hr, hl, hb, ha => by
    rw [rowsB, Bool.and_eq_true] at hr
    obtain ⟨q1, q2⟩ := mv1_ok (mvR_ok vs vs.length) s lv ar hl hb ha (row_vm s hr.1)
    rw [plL, plL, pl1_eq s lv ar n hr.1 hl hb ha, mv1_eq s lv ar hr.1 hl hb ha, plL_eq l _ ar _ hr.2 q1 q2 ha]
end
/- Types that move, in the reference: Copy, with, kept, join, Same, behind, rows. -/
theorem frz_ic {H : Heap} {lo id T : Nat} {l : List Int} (hg : H[id]? = some (.cells T (ic l))) (hlo : lo ≤ id) : frz1 H lo (.sl id 1 0 l.length) = some (.vs 1 (intsC l)) := by
  unfold frz1
  dsimp only
  rw [hg]
  dsimp only
  rw [if_pos ⟨hlo, by rw [ic_len]; omega, ic_static l⟩, List.drop_zero, chunks_ic]
theorem hand_ic {h H : Heap} {id T : Nat} {l : List Int} (hg : H[id]? = some (.cells T (ic l))) (hlo : h.length ≤ id) : hand true h (.sl id 1 0 l.length) H = some (.vs 1 (intsC l), h) := by
  have h1 : frz H h.length (.sl id 1 0 l.length) = some (.vs 1 (intsC l)) := frz_ic hg hlo
  unfold hand
  rw [if_pos rfl, h1]
theorem frz_rows {H : Heap} {lo id T sz : Nat} (rows : List (List AV)) (hr : ∀ r, r ∈ rows → r.length = sz ∧ ∀ x, x ∈ r → static x = true) (hg : H[id]? = some (.cells T rows.flatten)) (hlo : lo ≤ id) : frz1 H lo (.sl id sz 0 rows.length) = some (.vs sz rows) := by
  have hlen : ∀ q, q ∈ rows → q.length = sz := fun q hq => (hr q hq).1
  have hst : rows.flatten.all static = true := by
    rw [List.all_eq_true]
    intro x hx
    obtain ⟨q, h1, h2⟩ := List.mem_flatten.1 hx
    exact (hr q h1).2 x h2
  unfold frz1
  dsimp only
  rw [hg]
  dsimp only
  rw [if_pos ⟨hlo, by rw [flat_len _ hlen]; omega, hst⟩, List.drop_zero, chunks_flat _ hlen]
theorem acc_frzA {h : Heap} {e sz : Nat} (rows : List (List AV)) (hr : ∀ r, r ∈ rows → r.length = sz ∧ ∀ x, x ∈ r → static x = true) : frz1 (accH h e rows) h.length (accA h sz rows) = some (accV sz rows) := by
  cases rows with
  | nil => rfl
  | cons r l => exact frz_rows (T := e) (r :: l) hr (by simp [accH]) (Nat.le_refl _)
theorem hand_two {h H : Heap} {a b a' b' : AV} (h1 : frz1 H h.length a = some a') (h2 : frz1 H h.length b = some b') (n1 : ∀ xs, a ≠ .agg xs) (n2 : ∀ xs, b ≠ .agg xs) : hand true h (.tup [a, b]) H = some (.tup [a', b'], h) := by
  have q1 : frz2 H h.length a = some a' := by
    unfold frz2
    split
    · exact absurd rfl (n1 _)
    · exact h1
  have q2 : frz2 H h.length b = some b' := by
    unfold frz2
    split
    · exact absurd rfl (n2 _)
    · exact h2
  unfold hand
  rw [if_pos rfl]
  simp only [frz, frzM, q1, q2]
theorem append_slV {tab : Tab} {lo : Nat} {h : Heap} {t e id len : Nat} {ti : TI} {sz0 by_ : Nat} {zr xs : List AV} (ht : Go.Ev.look tab t = some ⟨.slice e, sz0, by_, zr⟩) (he : Go.Ev.look tab e = some ti) (hg : h[id]? = some (.cells e xs)) (hlo : lo ≤ id) (hlen : len * ti.sz = xs.length) (hsz : 0 < ti.sz)
    (more : List (List AV)) (r1 : (len + more.length) * ti.bytes ≤ room) (r2 : len + more.length ≤ room) :
    append tab lo h t (.sl id ti.sz 0 len) (accV ti.sz more) = some (.sl id ti.sz 0 (len + more.length), h.set id (.cells e (xs ++ more.flatten))) := by
  unfold append
  rw [ht]
  dsimp only
  rw [he]
  dsimp only
  have hrow : rowOf h ti.sz (accV ti.sz more) = some more.flatten := by cases more <;> simp [rowOf, accV]
  have hl : lenOf (accV ti.sz more) = some more.length := by cases more <;> simp [lenOf, accV]
  rw [hrow, hl]
  dsimp only
  rw [hg]
  dsimp only
  rw [if_pos ⟨hlo, by trivial, by trivial, by trivial, hlen, hsz, r1, r2⟩]
theorem intsC_accA {h : Heap} {l : List Int} (hne : l ≠ []) : accA h 1 (intsC l) = .sl h.length 1 0 l.length := by
  cases l with
  | nil => exact absurd rfl hne
  | cons a l => simp [intsC, accA]
theorem intsC_accH {h : Heap} {T : Nat} {l : List Int} (hne : l ≠ []) : accH h T (intsC l) = h ++ [.cells T (ic l)] := by
  have := ic_flat l
  cases l with
  | nil => exact absurd rfl hne
  | cons a l => rw [← this]; rfl
theorem int_appendL (h : Heap) (lo : Nat) (hlo : lo ≤ h.length) (l : List Int) (v : Int) (hl : l.length < 1000000) : append cfg.tab lo (accH h 3 (intsC l)) 26 (accA h 1 (intsC l)) (.vs 1 [[.int .i64 v]]) = some (accA h 1 (intsC (l ++ [v])), accH h 3 (intsC (l ++ [v]))) := by
  have := acc_append (tab := cfg.tab) (lo := lo) (h := h) (t := 26) (e := 3) rfl rfl (by decide) hlo (intsC l) [[.int .i64 v]] (fun r hr => (intsC_row l r hr).1) (by rw [intsC_len]; simp only [List.length_cons, List.length_nil, room]; show (l.length + (0 + 1)) * 8 ≤ _; omega) (by rw [intsC_len]; simp [room]; omega)
  rw [this]
  simp [intsC]
def cpS (h : Heap) (lo : Nat) (l : List Int) (i : Int) (a : List Int) : St :=
  { env := [(0, .v (.vs 1 (intsC l))), (3, .v (accA h 1 (intsC a))), (4, .v (.int .i64 i))], loc := [], heap := accH h 3 (intsC a), inRound := false, lo := lo }
theorem intsC_get' {l : List Int} {i : Nat} {n : Int} (h : l[i]? = some n) : (intsC l)[i]? = some [.int .i64 n] := by simp [intsC, h]
theorem lt_intsL {l : List Int} {i : Nat} (h : i < l.length) : decide ((i : Int) < ((intsC l).length : Int)) = true := decide_eq_true (by rw [intsC_len]; omega)
theorem ge_intsL {l : List Int} : decide ((l.length : Int) < ((intsC l).length : Int)) = false := decide_eq_false (by rw [intsC_len]; omega)
theorem wcopy_run (l : List Int) (hl : l.length < 100000) (k : Nat) (hk : l.length + 2 < k) (h : Heap) (lo : Nat) (hlo : lo ≤ h.length) :
    call Tryz.prog cfg (k + 1) lo (.func 139) [.vs 1 (intsC l)] h = some (accA h 1 (intsC l), accH h 3 (intsC l)) := by
  apply W_call Tryz.func139 rfl (Nat.le_of_ble_eq_true rfl) rfl rfl
  (repeat' (first | apply W_seq | refine W_region (id := 0) rfl rfl ?_ | refine W_region (id := 1) rfl rfl ?_ | refine W_region (id := 2) rfl rfl ?_ | apply W_block))
  apply W_iterI (S := cpS h lo l) (l := l) (a0 := []) (fun i rest a => a ++ rest = l ∧ a.length = i) (by omega) (by omega) rfl ⟨rfl, rfl⟩
  · intro i v rest a hi hd hil hJ
    have hrow := intsC_get' hi
    have hlt := lt_intsL hil
    have hap := int_appendL h lo hlo a v (by omega)
    (repeat' (first | apply W_seq | refine W_true rfl rfl ?_ | (refine W_ops (id := 3) rfl ?_ <;> refine T_ch 3 rfl ?_ <;> (refine T_go rfl ?_; refine G_true rfl (by with_reducible assumption) ?_) <;> apply T_nil) | refine W_region (id := 4) rfl rfl ?_ | (refine W_ops (id := 5) rfl ?_ <;> refine T_ch 3 rfl ?_ <;> (refine T_go rfl ?_; refine G_op (O_index rfl rfl rfl rfl rfl ‹_›) ?_) <;> (refine T_go rfl ?_; refine G_op rfl ?_) <;> refine T_ch 1 rfl ?_ <;> (refine T_go rfl ?_; refine G_op (O_append rfl rfl rfl rfl rfl ‹_›) ?_) <;> refine T_ch 1 rfl ?_ <;> apply T_nil) | apply W_skip | apply W_block))
    exact ⟨a ++ [v], rfl, by rw [← hJ.1]; simp, by simp [hJ.2]⟩
  · intro a hJ
    have hlt := ge_intsL (l := l)
    have : a = l := by simpa using hJ.1
    subst this
    (repeat' (first | apply W_seq | refine W_false rfl rfl ?_ | (refine W_ops (id := 3) rfl ?_ <;> refine T_ch 3 rfl ?_ <;> (refine T_go rfl ?_; refine G_false rfl (by with_reducible assumption) ?_) <;> apply T_nil) | refine W_region (id := 6) rfl rfl ?_ | apply W_ret | apply W_exit))
    exact ⟨.inl rfl, rfl⟩
theorem with_run (l : List Int) (v n : Int) (hv : 0 ≤ v ∧ v < l.length) (hl : l.length < 100000) (k : Nat) (hk : l.length + 4 < k) (h : Heap) (lo : Nat) :
    call Tryz.prog cfg (k + 1) lo (.func 157) [.vs 1 (intsC l), .int .i64 v, .int .i64 n] h = some (.vs 1 (intsC (l.set v.toNat n)), h) := by
  have hne : l ≠ [] := fun e => by subst e; simp at hv; omega
  have hc := wcopy_run l hl (k - 1) (by omega) h h.length (Nat.le_refl _)
  rw [show k - 1 + 1 = k by omega, intsC_accA hne, intsC_accH hne] at hc
  have hH : (h ++ [HObj.cells 3 (ic l)])[h.length]? = some (.cells 3 (ic l)) := by simp
  have hj : 0 ≤ v ∧ v.toNat < l.length := ⟨hv.1, by omega⟩
  have h2 : 0 + l.length * 1 = (ic l).length := by rw [ic_len]; omega
  have h3 : h.length ≤ h.length ∧ (ic l).length = (ic l).length ∧ ([AV.int .i64 n] : List AV).length = 1 ∧ (0 + v.toNat * 1) + 1 ≤ (ic l).length := ⟨Nat.le_refl _, rfl, rfl, by rw [ic_len]; omega⟩
  have hfin := hand_ic (h := h) (H := (h ++ [HObj.cells 3 (ic l)]).set h.length (.cells 3 (ic (l.set v.toNat n)))) (id := h.length) (T := 3) (l := l.set v.toNat n) (by simp) (Nat.le_refl _)
  rw [List.length_set, ← ic_set n hj.2] at hfin
  have e1 : v.toNat = 0 + v.toNat * 1 := by omega
  rw [show setCells (ic l) v.toNat [.int .i64 n] = setCells (ic l) (0 + v.toNat * 1) [.int .i64 n] by rw [← e1]] at hfin
  apply W_call Tryz.func157 rfl (Nat.le_of_ble_eq_true rfl) rfl rfl
  (repeat' (first | apply W_seq | refine W_region (id := 0) rfl rfl ?_ | (refine W_ops (id := 1) rfl ?_ <;> refine T_ch 1 rfl ?_ <;> (refine T_go rfl ?_; refine G_op (O_call rfl rfl rfl rfl ‹_›) ?_) <;> refine T_ch 1 rfl ?_ <;> apply T_nil) | (refine W_ops (id := 2) rfl ?_ <;> refine T_ch 3 rfl ?_ <;> (refine T_go rfl ?_; refine G_op (O_indexHI rfl rfl rfl rfl rfl ‹_› ‹_› ‹_›) ?_) <;> (refine T_go rfl ?_; refine G_op (O_storeH rfl rfl rfl rfl ‹_› ‹_›) ?_) <;> apply T_nil) | refine W_region (id := 3) rfl rfl ?_ | apply W_ret))
  exact ⟨.inl rfl, hfin⟩
theorem kept_run (vs : List Vr') (lv : List Int) (v : Int) (h1 : 0 ≤ v ∧ v < vs.length) (h2 : lv.length = vs.length) (k : Nat) (h : Heap) (lo : Nat) :
    call Tryz.prog cfg (k + 1) lo (.func 158) [.vs 3 (vsC vs), .vs 1 (intsC lv), .int .i64 v] h = some (.int .i64 (keptI vs lv v), h) := by
  obtain ⟨x, hx, hrow⟩ := vsC_at h1.1 h1.2
  have hr2 := intsC_at (l := lv) (n := v) ⟨h1.1, by omega⟩
  have hc : cellsAt vs v = x.cells := by unfold cellsAt; rw [hx]
  unfold keptI
  rw [hc]
  obtain ⟨nm, level, cells⟩ := x
  apply W_call Tryz.func158 rfl (Nat.le_of_ble_eq_true rfl) rfl rfl
  (repeat' (first | apply W_seq | refine W_true rfl rfl ?_ | refine W_false rfl rfl ?_ | refine W_region (id := 0) rfl rfl ?_ | (refine W_ops (id := 1) rfl ?_ <;> refine T_ch 2 rfl ?_ <;> (refine T_go rfl ?_; refine G_op (O_indexI rfl rfl rfl rfl rfl ‹_›) ?_) <;> refine T_ch 1 rfl ?_ <;> (refine T_go rfl ?_; refine G_op rfl ?_) <;> (refine T_go rfl ?_; refine G_split rfl (fun _ => ?_) (fun _ => ?_)) <;> apply T_nil) | (refine W_ops (id := 2) rfl ?_ <;> refine T_ch 2 rfl ?_ <;> (refine T_go rfl ?_; refine G_op (O_indexI rfl rfl rfl rfl rfl ‹_›) ?_) <;> (refine T_go rfl ?_; refine G_op rfl ?_) <;> refine T_ch 1 rfl ?_ <;> apply T_nil) | refine W_region (id := 3) rfl rfl ?_ | apply W_skip | apply W_ret))
  · rename_i hd
    simp only [decide_eq_true_eq] at hd
    exact ⟨.inl rfl, by rw [if_pos hd]; rfl⟩
  · rename_i hd
    simp only [decide_eq_false_iff_not] at hd
    exact ⟨.inl rfl, by rw [if_neg hd]; rfl⟩
def jnS (h : Heap) (x y : List Int) (i : Int) (a : List Int) : St :=
  { env := [(0, .v (.vs 1 (intsC x))), (1, .v (.vs 1 (intsC y))), (5, .v (accA h 1 (intsC a))), (6, .v (.int .i64 i))], loc := [], heap := accH h 3 (intsC a), inRound := false, lo := h.length }
theorem join_run (x y : List Int) (hxy : x.length = y.length) (hne : x ≠ []) (hl : x.length < 100000) (k : Nat) (hk : x.length + 2 < k) (h : Heap) (lo : Nat) :
    call Tryz.prog cfg (k + 1) lo (.func 159) [.vs 1 (intsC x), .vs 1 (intsC y)] h = some (.vs 1 (intsC (joinL x y)), h) := by
  have hjl := joinL_len hxy
  have hfin := acc_frz (h := h) (e := 3) (sz := 1) (intsC (joinL x y)) (intsC_row _)
  have hne' : joinL x y ≠ [] := fun e => by
    rw [e] at hjl
    cases x with
    | nil => exact hne rfl
    | cons a l => simp at hjl
  have hacc : accV 1 (intsC (joinL x y)) = .vs 1 (intsC (joinL x y)) := by
    generalize joinL x y = z at hne'
    cases z with
    | nil => exact absurd rfl hne'
    | cons a l => rfl
  rw [hacc] at hfin
  apply W_call Tryz.func159 rfl (Nat.le_of_ble_eq_true rfl) rfl rfl
  (repeat' (first | apply W_seq | refine W_region (id := 0) rfl rfl ?_ | refine W_region (id := 1) rfl rfl ?_ | refine W_region (id := 2) rfl rfl ?_ | apply W_block))
  apply W_iterI (S := jnS h x y) (l := x) (a0 := []) (fun i rest a => a ++ joinL rest (y.drop i) = joinL x y ∧ a.length = i) (by omega) (by omega) rfl ⟨rfl, rfl⟩
  · intro i v rest a hi hd hil hJ
    have hrow := intsC_get' hi
    have hiy : i < y.length := by omega
    have hy : y[i]? = some y[i] := List.getElem?_eq_getElem hiy
    have hrow2 := intsC_get' hy
    have hlt := lt_intsL hil
    have hO := or_run (k - 1) (accH h 3 (intsC a)).length v y[i] (accH h 3 (intsC a))
    rw [show k - 1 + 1 = k by omega] at hO
    have hap := int_appendL h h.length (Nat.le_refl _) a (orI v y[i]) (by omega)
    (repeat' (first | apply W_seq | refine W_true rfl rfl ?_ | (refine W_ops (id := 3) rfl ?_ <;> refine T_ch 3 rfl ?_ <;> (refine T_go rfl ?_; refine G_true rfl (by with_reducible assumption) ?_) <;> apply T_nil) | refine W_region (id := 4) rfl rfl ?_ | (refine W_dops (id := 5) (bs := [0, 0, 0, 6, 14, 0, 0, 96, 224, 510, 1022, 2047, 4095]) rfl (by decide +kernel) (by decide +kernel) ?_ <;> (refine U_go rfl ?_; refine H_free (by decide +kernel) rfl rfl rfl rfl rfl ?_) <;> (refine U_go rfl ?_; refine H_free (by decide +kernel) rfl rfl rfl rfl rfl ?_) <;> (refine U_go rfl ?_; refine H_free (by decide +kernel) rfl rfl rfl rfl rfl ?_) <;> (refine U_go rfl ?_; refine H_free (by decide +kernel) rfl (O_index rfl rfl rfl rfl rfl ‹_›) rfl rfl rfl ?_) <;> (refine U_go rfl ?_; refine H_free (by decide +kernel) rfl rfl rfl rfl rfl ?_) <;> (refine U_go rfl ?_; refine H_free (by decide +kernel) rfl rfl rfl rfl rfl ?_) <;> (refine U_go rfl ?_; refine H_free (by decide +kernel) rfl rfl rfl rfl rfl ?_) <;> (refine U_go rfl ?_; refine H_free (by decide +kernel) rfl (O_index rfl rfl rfl rfl rfl ‹_›) rfl rfl rfl ?_) <;> (refine U_go rfl ?_; refine H_free (by decide +kernel) rfl rfl rfl rfl rfl ?_) <;> (refine U_go rfl ?_; refine H_free (by decide +kernel) rfl (O_call rfl rfl rfl rfl ‹_›) rfl rfl rfl ?_) <;> (refine U_go rfl ?_; refine H_free (by decide +kernel) rfl rfl rfl rfl rfl ?_) <;> (refine U_go rfl ?_; refine H_op (by decide +kernel) (O_append rfl rfl rfl rfl rfl ‹_›) ?_) <;> (refine U_go rfl ?_; refine H_op (by decide +kernel) rfl ?_) <;> apply U_nil) | apply W_skip | apply W_block))
    exact ⟨a ++ [orI v y[i]], rfl, by
      rw [← hJ.1, List.drop_eq_getElem_cons hiy]
      unfold joinL
      rw [List.zipWith_cons_cons, List.append_assoc]; rfl, by simp [hJ.2]⟩
  · intro a hJ
    have hlt := ge_intsL (l := x)
    have : a = joinL x y := by simpa [joinL] using hJ.1
    subst this
    (repeat' (first | apply W_seq | refine W_false rfl rfl ?_ | (refine W_ops (id := 3) rfl ?_ <;> refine T_ch 3 rfl ?_ <;> (refine T_go rfl ?_; refine G_false rfl (by with_reducible assumption) ?_) <;> apply T_nil) | refine W_region (id := 6) rfl rfl ?_ | apply W_ret | apply W_exit))
    exact ⟨.inl rfl, hfin⟩
def wsS (h : Heap) (x y : AV) (i : Int) (_ : Unit) : St :=
  { env := [(0, .v x), (1, .v y), (5, .v (.int .i64 i))], loc := [], heap := h, inRound := false, lo := h.length }
theorem wsame_run (x y : List Int) (hl : x.length < 100000) (k : Nat) (hk : x.length + 2 < k) (h : Heap) (lo : Nat) :
    call Tryz.prog cfg (k + 1) lo (.func 28) [.vs 1 (intsC x), .vs 1 (intsC y)] h = some (.bool (decide (x = y)), h) := by
  cases hc : (((intsC x).length : Int) != ((intsC y).length : Int)) with
  | true =>
    have : x ≠ y := fun e => by subst e; simp at hc
    rw [decide_eq_false this]
    apply W_call Tryz.func28 rfl (Nat.le_of_ble_eq_true rfl) rfl rfl
    (repeat' (first | apply W_seq | refine W_true rfl rfl ?_ | refine W_region (id := 0) rfl rfl ?_ | (refine W_ops (id := 1) rfl ?_ <;> refine T_ch 4 rfl ?_ <;> (refine T_go rfl ?_; refine G_true rfl (by with_reducible assumption) ?_) <;> apply T_nil) | refine W_region (id := 2) rfl rfl ?_ | apply W_ret))
    exact ⟨.inl rfl, rfl⟩
  | false =>
    have hxy : x.length = y.length := by
      simp only [intsC_len, bne_eq_false_iff_eq] at hc
      omega
    apply W_call Tryz.func28 rfl (Nat.le_of_ble_eq_true rfl) rfl rfl
    (repeat' (first | apply W_seq | refine W_false rfl rfl ?_ | refine W_region (id := 0) rfl rfl ?_ | (refine W_ops (id := 1) rfl ?_ <;> refine T_ch 4 rfl ?_ <;> (refine T_go rfl ?_; refine G_false rfl (by with_reducible assumption) ?_) <;> apply T_nil) | refine W_region (id := 3) rfl rfl ?_ | apply W_skip | apply W_block))
    apply W_iterI (S := wsS h (.vs 1 (intsC x)) (.vs 1 (intsC y))) (l := x) (a0 := ()) (fun i rest _ => (rest = y.drop i) = (x = y)) (by omega) (by omega) rfl (by simp)
    · intro i v rest a hi hd hil hJ
      have hrow := intsC_get' hi
      have hiy : i < y.length := by omega
      have hy : y[i]? = some y[i] := List.getElem?_eq_getElem hiy
      have hrow2 := intsC_get' hy
      have hlt := lt_intsL hil
      rw [List.drop_eq_getElem_cons hiy, List.cons.injEq] at hJ
      (repeat' (first | apply W_seq | refine W_true rfl rfl ?_ | refine W_false rfl rfl ?_ | (refine W_ops (id := 4) rfl ?_ <;> refine T_ch 3 rfl ?_ <;> (refine T_go rfl ?_; refine G_true rfl (by with_reducible assumption) ?_) <;> apply T_nil) | refine W_region (id := 5) rfl rfl ?_ | (refine W_dops (id := 6) (bs := [0, 0, 3, 7, 0, 0, 48, 112, 255]) rfl (by decide +kernel) (by decide +kernel) ?_ <;> (refine U_go rfl ?_; refine H_free (by decide +kernel) rfl rfl rfl rfl rfl ?_) <;> (refine U_go rfl ?_; refine H_free (by decide +kernel) rfl rfl rfl rfl rfl ?_) <;> (refine U_go rfl ?_; refine H_free (by decide +kernel) rfl (O_index rfl rfl rfl rfl rfl ‹_›) rfl rfl rfl ?_) <;> (refine U_go rfl ?_; refine H_free (by decide +kernel) rfl rfl rfl rfl rfl ?_) <;> (refine U_go rfl ?_; refine H_free (by decide +kernel) rfl rfl rfl rfl rfl ?_) <;> (refine U_go rfl ?_; refine H_free (by decide +kernel) rfl rfl rfl rfl rfl ?_) <;> (refine U_go rfl ?_; refine H_free (by decide +kernel) rfl (O_index rfl rfl rfl rfl rfl ‹_›) rfl rfl rfl ?_) <;> (refine U_go rfl ?_; refine H_free (by decide +kernel) rfl rfl rfl rfl rfl ?_) <;> (refine U_go rfl ?_; refine H_split (by decide +kernel) rfl (fun _ => ?_) (fun _ => ?_)) <;> apply U_nil) | refine W_region (id := 7) rfl rfl ?_ | apply W_skip | apply W_block | apply W_ret))
      · rename_i hne
        simp only [bne_iff_ne, ne_eq] at hne
        refine ⟨.inl rfl, Eq.trans (b := some (AV.bool false, _)) rfl ?_⟩
        rw [decide_eq_false (by rw [← hJ]; exact fun e => hne e.1)]
      · rename_i hne
        simp only [bne_eq_false_iff_eq] at hne
        exact ⟨(), rfl, by rw [← hJ]; simp [hne]⟩
    · intro a hJ
      have hlt := ge_intsL (l := x)
      (repeat' (first | apply W_seq | refine W_false rfl rfl ?_ | (refine W_ops (id := 4) rfl ?_ <;> refine T_ch 3 rfl ?_ <;> (refine T_go rfl ?_; refine G_false rfl (by with_reducible assumption) ?_) <;> apply T_nil) | refine W_region (id := 8) rfl rfl ?_ | apply W_ret | apply W_exit))
      refine ⟨.inl rfl, Eq.trans (b := some (AV.bool true, _)) rfl ?_⟩
      rw [decide_eq_true (by rw [← hJ, hxy]; simp)]
/- Types that move, in the reference: behind, rows, Places, Moved. -/
def plC (p : Pl) : List AV := itC (p.1, p.2.1) ++ [.vs 1 (intsC p.2.2.1), .int .i64 p.2.2.2]
theorem plC_row (p : Pl) : (plC p).length = 8 ∧ ∀ x, x ∈ plC p → static x = true := by
  obtain ⟨n, ⟨op, nn, a, t, e⟩, lv, ar⟩ := p
  refine ⟨rfl, fun x hx => ?_⟩
  simp only [plC, itC, smC, List.cons_append, List.nil_append, List.mem_cons, List.not_mem_nil, or_false] at hx
  rcases hx with rfl | rfl | rfl | rfl | rfl | rfl | rfl | rfl <;> rfl
theorem plC_rows (l : List Pl) : ∀ r, r ∈ l.map plC → r.length = 8 ∧ ∀ x, x ∈ r → static x = true := by
  intro r hr
  obtain ⟨p, _, rfl⟩ := List.mem_map.1 hr
  exact plC_row p
section
variable (pt : List Int → Int → Sm' → List Int) (og : List Int → List Ex' → Int)
mutual
theorem pl1_len : ∀ (s : Sm') (lv : List Int) (ar n : Int), (pl1 pt og s lv ar n).length ≤ smN s
  | .mk op nn a t e, lv, ar, n => by
    rw [pl1, smN]
    split
    · have h1 := plL_len t lv (orI ar (og lv a)) (IntKind.i64.wrap (n + 1))
      have h2 := plL_len e lv (orI ar (og lv a)) (IntKind.i64.wrap (IntKind.i64.wrap (n + 1) + cntL t 0))
      simp only [List.length_cons, List.length_append]; omega
    · split
      · have h1 := plL_len t (mv1 pt og (.mk op nn a t e) lv ar) (orI ar (og (mv1 pt og (.mk op nn a t e) lv ar) a)) (IntKind.i64.wrap (n + 1))
        simp only [List.length_cons]; omega
      · simp only [List.length_cons, List.length_nil]; omega
theorem plL_len : ∀ (l : List Sm') (lv : List Int) (ar n : Int), (plL pt og l lv ar n).length ≤ smsN l
  | [], lv, ar, n => by rw [plL, smsN]; simp
  | s :: l, lv, ar, n => by
    have h1 := pl1_len s lv ar n
    have h2 := plL_len l (mv1 pt og s lv ar) ar (cnt1 s n)
    rw [plL, smsN, List.length_append]; omega
end
end
theorem pl_append (h : Heap) (rows : List (List AV)) (more : List (List AV)) (hr : ∀ r, r ∈ rows → r.length = 8) (hl : rows.length + more.length < 100000) : append cfg.tab h.length (accH h 102 rows) 98 (accA h 8 rows) (accV 8 more) = some (accA h 8 (rows ++ more), accH h 102 (rows ++ more)) :=
  acc_appendV (tab := cfg.tab) (lo := h.length) (h := h) (t := 98) (e := 102) rfl rfl (by decide) (Nat.le_refl _) rows more hr (by simp only [room]; show (rows.length + more.length) * 128 ≤ _; omega) (by simp only [room]; omega)
/-- One place, and what is put behind it. -/
theorem here_append (h : Heap) (q : List HObj) (lo : Nat) (hlo : lo ≤ h.length + q.length) (xs : List (List AV)) (hx : ∀ r, r ∈ xs → r.length = 8) (more : List (List AV)) (hl : xs.length + more.length < 100000) :
    append cfg.tab lo (h ++ q ++ [.cells 102 xs.flatten]) 98 (.sl (h.length + q.length) 8 0 xs.length) (accV 8 more) = some (.sl (h.length + q.length) 8 0 (xs.length + more.length), h ++ q ++ [.cells 102 (xs ++ more).flatten]) := by
  have := append_slV (tab := cfg.tab) (lo := lo) (h := h ++ q ++ [.cells 102 xs.flatten]) (t := 98) (e := 102) (id := h.length + q.length) (len := xs.length) (xs := xs.flatten) rfl rfl (by simp) hlo (by rw [flat_len _ hx]) (by decide) more
    (by simp only [room]; show (xs.length + more.length) * 128 ≤ _; omega) (by simp only [room]; omega)
  rw [show ((⟨.struct [(0, 92), (6, 26), (7, 3)], 8, 128, [.int .i64 0, .int .i64 0, .int .i64 0, .nils, .nils, .nils, .nils, .int .i64 0]⟩ : TI)).sz = 8 from rfl] at this
  rw [this]
  simp [List.set_append]
def fR (vs : List Vr') (t : List Sm') (a : List Ex') (ar : Int) (x : List Int) : List Int := joinL x (mvL (putR vs) ofA t x (orI ar (ofA x a)))
def bhS (h : Heap) (vs : List Vr') (n ar : Int) (s : Sm') (lv0 x : List Int) : St :=
  { env := [(0, .v (.vs 3 (vsC vs))), (1, .v (.vs 1 (intsC x))), (2, .v (.int .i64 ar)), (7, .p 7 0), (10, .p 10 0)], loc := [(7, itC (n, s)), (10, smC s)], heap := h ++ [.cells 102 (plC (n, s, lv0, ar))], inRound := false, lo := h.length }
def rwlS (h : Heap) (vs : List Vr') (ar : Int) (v : AV) (i : Int) (a : List (List AV) × List Int × Int) : St :=
  { env := [(0, .v (.vs 3 (vsC vs))), (1, .v (.vs 1 (intsC a.2.1))), (2, .v (.int .i64 ar)), (3, .v v), (10, .v (accA h 8 a.1)), (11, .v (.int .i64 i))], loc := [], heap := accH h 102 a.1, inRound := false, lo := h.length }
theorem here_fin {h H : Heap} {lv : List Int} {rows : List (List AV)} {id : Nat} (hr : ∀ r, r ∈ rows → r.length = 8 ∧ ∀ x, x ∈ r → static x = true) (hg : H[id]? = some (.cells 102 rows.flatten)) (hlo : h.length ≤ id) :
    hand true h (.tup [.vs 1 (intsC lv), .sl id 8 0 rows.length]) H = some (.tup [.vs 1 (intsC lv), .vs 8 rows], h) :=
  hand_two rfl (frz_rows rows hr hg hlo) (fun _ => by simp) (fun _ => by simp)
set_option maxHeartbeats 4000000 in
theorem behind_run (vs : List Vr') (hv1 : 1 ≤ vs.length) (hv2 : vs.length ≤ 18) : ∀ (k : Nat),
    (∀ (s : Sm') (lv : List Int) (ar n : Int), smK s + 1301 ≤ k → smN s ≤ 600 → smB s → vm1 vs.length s → lv.length = vs.length → lvsB lv → lvB ar → ∀ (h : Heap) (lo : Nat),
      call Tryz.prog cfg k lo (.func 133) [.vs 3 (vsC vs), .vs 1 (intsC lv), .int .i64 ar, .agg (itC (n, s))] h =
        some (.tup [.vs 1 (intsC (mv1 (putR vs) ofA s lv ar)), .vs 8 ((pl1 (putR vs) ofA s lv ar n).map plC)], h)) ∧
    (∀ (l : List Sm') (lv : List Int) (ar n : Int), smsK l + 1300 ≤ k → smsN l ≤ 600 → l.length < 1000 → smsB l → vmL vs.length l → lv.length = vs.length → lvsB lv → lvB ar → ∀ (h : Heap) (lo : Nat),
      call Tryz.prog cfg k lo (.func 96) [.vs 3 (vsC vs), .vs 1 (intsC lv), .int .i64 ar, accV 6 ((itemsL l n).map itC)] h =
        some (.tup [.vs 1 (intsC (mvL (putR vs) ofA l lv ar)), accV 8 ((plL (putR vs) ofA l lv ar n).map plC)], h))
  | 0 => ⟨fun s lv ar n hk => by omega, fun l lv ar n hk => by omega⟩
  | k + 1 => by
    obtain ⟨ihs, ihl⟩ := behind_run vs hv1 hv2 k
    have hMv := mvR_ok vs vs.length
    constructor
    · intro s lv ar n hk hN hb hvm hlv hB har h lo
      obtain ⟨op, nn, a, t, e⟩ := s
      have hok := mv1_ok hMv (.mk op nn a t e) lv ar hlv hB har hvm
      rw [smK] at hk
      rw [smN] at hN
      rw [smB] at hb
      rw [vm1] at hvm
      obtain ⟨⟨ha1, ha2⟩, ⟨ht1, ht2⟩, he1, he2⟩ := hb
      obtain ⟨r1, r2, r3, r4, r5⟩ := hvm
      have hne : lv ≠ [] := fun e => by subst e; simp at hlv; omega
      have hla := exsK_len a
      have hlt := smsN_len t
      have hle := smsN_len e
      have hp2 := smsK_pos t
      have hp3 := smsK_pos e
      have hAv : ∀ x : List Int, x.length = vs.length → ∀ H L, call Tryz.prog cfg k L (.func 93) [.vs 1 (intsC x), .agg (smC (.mk op nn a t e))] H = some (.int .i64 (ofEs x 0 a), H) := fun x hx H L => by
        have := argsR_run op nn a t e x (k - 1) (by omega) ha1 ha2 (by rw [hx]; exact r1) H L
        rw [show k - 1 + 1 = k by omega] at this
        exact this
      have hOv : ∀ (x y : Int) H L, call Tryz.prog cfg k L (.func 92) [.int .i64 x, .int .i64 y] H = some (.int .i64 (orI x y), H) := fun x y H L => by
        have := or_run (k - 1) L x y H
        rw [show k - 1 + 1 = k by omega] at this
        exact this
      have hhere : ∀ x : List Int, ∀ r, r ∈ [plC (n, .mk op nn a t e, x, ar)] → r.length = 8 ∧ ∀ x, x ∈ r → static x = true := fun x r hr => by
        rw [List.mem_singleton] at hr; rw [hr]; exact plC_row _
      have hA := hAv lv hlv (h ++ [HObj.cells 102 (plC (n, .mk op nn a t e, lv, ar))]) h.length
      have hO := hOv ar (ofEs lv 0 a) (h ++ [HObj.cells 102 (plC (n, .mk op nn a t e, lv, ar))]) h.length
      have hfin1 : ∀ x : List Int, hand true h (.tup [.vs 1 (intsC x), .sl h.length 8 0 1]) (h ++ [HObj.cells 102 (plC (n, .mk op nn a t e, lv, ar))]) = some (.tup [.vs 1 (intsC x), .vs 8 [plC (n, .mk op nn a t e, lv, ar)]], h) := fun x =>
        here_fin (rows := [plC (n, .mk op nn a t e, lv, ar)]) (hhere lv) (by simp) (Nat.le_refl _)
      by_cases o0 : op = 0
      · have hm : mv1 (putR vs) ofA (.mk op nn a t e) lv ar = lv.set nn.toNat (orI (orI ar (ofEs lv 0 a)) (keptI vs lv nn)) := by
          rw [mv1, if_neg (by omega), if_neg (by omega)]
          unfold putR fromP
          dsimp only
          rw [if_pos (.inl o0), if_neg (by omega)]
        have hp : pl1 (putR vs) ofA (.mk op nn a t e) lv ar n = [(n, .mk op nn a t e, lv, ar)] := by rw [pl1, if_neg (by omega), if_neg (by omega)]
        rw [hm, hp]
        have hr := r2 (.inl o0)
        have hK := kept_run vs lv nn hr hlv (k - 1) (h ++ [HObj.cells 102 (plC (n, .mk op nn a t e, lv, ar))]) (h ++ [HObj.cells 102 (plC (n, .mk op nn a t e, lv, ar))]).length
        have hO2 := hOv (orI ar (ofEs lv 0 a)) (keptI vs lv nn) (h ++ [HObj.cells 102 (plC (n, .mk op nn a t e, lv, ar))]) (h ++ [HObj.cells 102 (plC (n, .mk op nn a t e, lv, ar))]).length
        have hW := with_run lv nn (orI (orI ar (ofEs lv 0 a)) (keptI vs lv nn)) (by omega) (by omega) (k - 1) (by omega) (h ++ [HObj.cells 102 (plC (n, .mk op nn a t e, lv, ar))]) (h ++ [HObj.cells 102 (plC (n, .mk op nn a t e, lv, ar))]).length
        rw [show k - 1 + 1 = k by omega] at hK hW
        have c0 : (op == 0) = true := by simp [o0]
        have hfin := hfin1 (lv.set nn.toNat (orI (orI ar (ofEs lv 0 a)) (keptI vs lv nn)))
        clear hm hp hAv hOv hfin1 ihs ihl hok
        apply W_call Tryz.func133 rfl (Nat.le_of_ble_eq_true rfl) rfl rfl
        (repeat' (first | apply W_seq | refine W_true rfl rfl ?_ | refine W_region (id := 0) rfl rfl ?_ | refine W_region (id := 1) rfl rfl ?_ | refine W_region (id := 2) rfl rfl ?_ | (refine W_ops (id := 3) rfl ?_ <;> refine T_ch 3 rfl ?_ <;> (refine T_go rfl ?_; refine G_op (O_call rfl rfl rfl rfl ‹_›) ?_) <;> (refine T_go rfl ?_; refine G_op (O_call rfl rfl rfl rfl ‹_›) ?_) <;> refine T_ch 1 rfl ?_ <;> apply T_nil) | refine W_region (id := 4) rfl rfl ?_ | (refine W_ops (id := 5) rfl ?_ <;> (refine T_go rfl ?_; refine G_true rfl (by with_reducible assumption) ?_) <;> refine T_ch 1 rfl ?_ <;> apply T_nil) | (refine W_dops (id := 6) (bs := [0, 0, 2, 0, 0, 0, 0, 64, 240, 504, 1023, 0, 2047, 8191]) rfl (by decide +kernel) (by decide +kernel) ?_ <;> (refine U_go rfl ?_; refine H_free (by decide +kernel) rfl rfl rfl rfl rfl ?_) <;> (refine U_go rfl ?_; refine H_free (by decide +kernel) rfl rfl rfl rfl rfl ?_) <;> (refine U_go rfl ?_; refine H_free (by decide +kernel) rfl rfl rfl rfl rfl ?_) <;> (refine U_go rfl ?_; refine H_free (by decide +kernel) rfl rfl rfl rfl rfl ?_) <;> (refine U_go rfl ?_; refine H_free (by decide +kernel) rfl rfl rfl rfl rfl ?_) <;> (refine U_go rfl ?_; refine H_free (by decide +kernel) rfl rfl rfl rfl rfl ?_) <;> (refine U_go rfl ?_; refine H_free (by decide +kernel) rfl rfl rfl rfl rfl ?_) <;> (refine U_go rfl ?_; refine H_free (by decide +kernel) rfl rfl rfl rfl rfl ?_) <;> (refine U_go rfl ?_; refine H_free (by decide +kernel) rfl (O_call rfl rfl rfl rfl ‹_›) rfl rfl rfl ?_) <;> (refine U_go rfl ?_; refine H_free (by decide +kernel) rfl (O_call rfl rfl rfl rfl ‹_›) rfl rfl rfl ?_) <;> (refine U_go rfl ?_; refine H_free (by decide +kernel) rfl (O_call rfl rfl rfl rfl ‹_›) rfl rfl rfl ?_) <;> (refine U_go rfl ?_; refine H_free (by decide +kernel) rfl rfl rfl rfl rfl ?_) <;> (refine U_go rfl ?_; refine H_free (by decide +kernel) rfl rfl rfl rfl rfl ?_) <;> (refine U_go rfl ?_; refine H_op (by decide +kernel) rfl ?_) <;> apply U_nil) | apply W_block | apply W_ret))
        exact ⟨.inl rfl, hfin⟩
      by_cases o4 : op = 4
      · have hm : mv1 (putR vs) ofA (.mk op nn a t e) lv ar = lv.set nn.toNat (orI (orI (orI ar (ofEs lv 0 a)) 16) (keptI vs lv nn)) := by
          rw [mv1, if_neg (by omega), if_neg (by omega)]
          unfold putR fromP
          dsimp only
          rw [if_pos (.inr o4), if_pos o4]
        have hp : pl1 (putR vs) ofA (.mk op nn a t e) lv ar n = [(n, .mk op nn a t e, lv, ar)] := by rw [pl1, if_neg (by omega), if_neg (by omega)]
        rw [hm, hp]
        have hr := r2 (.inr o4)
        have hK := kept_run vs lv nn hr hlv (k - 1) (h ++ [HObj.cells 102 (plC (n, .mk op nn a t e, lv, ar))]) (h ++ [HObj.cells 102 (plC (n, .mk op nn a t e, lv, ar))]).length
        have hO1 := hOv (orI ar (ofEs lv 0 a)) 16 (h ++ [HObj.cells 102 (plC (n, .mk op nn a t e, lv, ar))]) (h ++ [HObj.cells 102 (plC (n, .mk op nn a t e, lv, ar))]).length
        have hO2 := hOv (orI (orI ar (ofEs lv 0 a)) 16) (keptI vs lv nn) (h ++ [HObj.cells 102 (plC (n, .mk op nn a t e, lv, ar))]) (h ++ [HObj.cells 102 (plC (n, .mk op nn a t e, lv, ar))]).length
        have hW := with_run lv nn (orI (orI (orI ar (ofEs lv 0 a)) 16) (keptI vs lv nn)) (by omega) (by omega) (k - 1) (by omega) (h ++ [HObj.cells 102 (plC (n, .mk op nn a t e, lv, ar))]) (h ++ [HObj.cells 102 (plC (n, .mk op nn a t e, lv, ar))]).length
        rw [show k - 1 + 1 = k by omega] at hK hW
        have c0 : (op == 0) = false := by simp [o0]
        have c4 : (op == 4) = true := by simp [o4]
        have hfin := hfin1 (lv.set nn.toNat (orI (orI (orI ar (ofEs lv 0 a)) 16) (keptI vs lv nn)))
        clear hm hp hAv hOv hfin1 ihs ihl hok
        apply W_call Tryz.func133 rfl (Nat.le_of_ble_eq_true rfl) rfl rfl
        (repeat' (first | apply W_seq | refine W_true rfl rfl ?_ | refine W_false rfl rfl ?_ | refine W_region (id := 0) rfl rfl ?_ | refine W_region (id := 1) rfl rfl ?_ | refine W_region (id := 2) rfl rfl ?_ | (refine W_ops (id := 3) rfl ?_ <;> refine T_ch 3 rfl ?_ <;> (refine T_go rfl ?_; refine G_op (O_call rfl rfl rfl rfl ‹_›) ?_) <;> (refine T_go rfl ?_; refine G_op (O_call rfl rfl rfl rfl ‹_›) ?_) <;> refine T_ch 1 rfl ?_ <;> apply T_nil) | refine W_region (id := 4) rfl rfl ?_ | (refine W_ops (id := 5) rfl ?_ <;> (refine T_go rfl ?_; refine G_false rfl (by with_reducible assumption) ?_) <;> refine T_ch 1 rfl ?_ <;> apply T_nil) | (refine W_ops (id := 7) rfl ?_ <;> (refine T_go rfl ?_; refine G_true rfl (by with_reducible assumption) ?_) <;> refine T_ch 1 rfl ?_ <;> apply T_nil) | (refine W_dops (id := 8) (bs := [0, 0, 2, 0, 8, 0, 0, 0, 128, 504, 1016, 2047, 0, 4095, 16383]) rfl (by decide +kernel) (by decide +kernel) ?_ <;> (refine U_go rfl ?_; refine H_free (by decide +kernel) rfl rfl rfl rfl rfl ?_) <;> (refine U_go rfl ?_; refine H_free (by decide +kernel) rfl rfl rfl rfl rfl ?_) <;> (refine U_go rfl ?_; refine H_free (by decide +kernel) rfl rfl rfl rfl rfl ?_) <;> (refine U_go rfl ?_; refine H_free (by decide +kernel) rfl rfl rfl rfl rfl ?_) <;> (refine U_go rfl ?_; refine H_free (by decide +kernel) rfl (O_call rfl rfl rfl rfl ‹_›) rfl rfl rfl ?_) <;> (refine U_go rfl ?_; refine H_free (by decide +kernel) rfl rfl rfl rfl rfl ?_) <;> (refine U_go rfl ?_; refine H_free (by decide +kernel) rfl rfl rfl rfl rfl ?_) <;> (refine U_go rfl ?_; refine H_free (by decide +kernel) rfl rfl rfl rfl rfl ?_) <;> (refine U_go rfl ?_; refine H_free (by decide +kernel) rfl rfl rfl rfl rfl ?_) <;> (refine U_go rfl ?_; refine H_free (by decide +kernel) rfl (O_call rfl rfl rfl rfl ‹_›) rfl rfl rfl ?_) <;> (refine U_go rfl ?_; refine H_free (by decide +kernel) rfl (O_call rfl rfl rfl rfl ‹_›) rfl rfl rfl ?_) <;> (refine U_go rfl ?_; refine H_free (by decide +kernel) rfl (O_call rfl rfl rfl rfl ‹_›) rfl rfl rfl ?_) <;> (refine U_go rfl ?_; refine H_free (by decide +kernel) rfl rfl rfl rfl rfl ?_) <;> (refine U_go rfl ?_; refine H_free (by decide +kernel) rfl rfl rfl rfl rfl ?_) <;> (refine U_go rfl ?_; refine H_op (by decide +kernel) rfl ?_) <;> apply U_nil) | apply W_block | apply W_ret))
        exact ⟨.inl rfl, hfin⟩
      have c0 : (op == 0) = false := by simp [o0]
      have c4 : (op == 4) = false := by simp [o4]
      by_cases o1 : op = 1
      · have hm : mv1 (putR vs) ofA (.mk op nn a t e) lv ar = joinL (mvL (putR vs) ofA t lv (orI ar (ofEs lv 0 a))) (mvL (putR vs) ofA e lv (orI ar (ofEs lv 0 a))) := by rw [mv1, if_pos o1]; rfl
        have hp : pl1 (putR vs) ofA (.mk op nn a t e) lv ar n = (n, .mk op nn a t e, lv, ar) :: (plL (putR vs) ofA t lv (orI ar (ofEs lv 0 a)) (IntKind.i64.wrap (n + 1)) ++ plL (putR vs) ofA e lv (orI ar (ofEs lv 0 a)) (IntKind.i64.wrap (IntKind.i64.wrap (n + 1) + cntL t 0))) := by rw [pl1, if_pos o1]; rfl
        rw [hm, hp]
        have hfB : lvB (orI ar (ofEs lv 0 a)) := orI_B har (ofEs_B hB a lvB0)
        have hTh := then_run n op nn a t e (k - 1) (by omega) (by omega) ht2 (h ++ [HObj.cells 102 (plC (n, .mk op nn a t e, lv, ar))]) h.length
        have hEl := else_run n op nn a t e (k - 1) (by omega) (by omega) ht2 (by omega) he2 (h ++ [HObj.cells 102 (plC (n, .mk op nn a t e, lv, ar))]) h.length
        rw [show k - 1 + 1 = k by omega] at hTh hEl
        have hT := ihl t lv (orI ar (ofEs lv 0 a)) (IntKind.i64.wrap (n + 1)) (by omega) (by omega) (by omega) ht2 r4 hlv hB hfB (h ++ [HObj.cells 102 (plC (n, .mk op nn a t e, lv, ar))]) h.length
        have hE := ihl e lv (orI ar (ofEs lv 0 a)) (IntKind.i64.wrap (IntKind.i64.wrap (n + 1) + cntL t 0)) (by omega) (by omega) (by omega) he2 r5 hlv hB hfB (h ++ [HObj.cells 102 (plC (n, .mk op nn a t e, lv, ar))]) h.length
        obtain ⟨t1, t2⟩ := mvL_ok hMv t lv (orI ar (ofEs lv 0 a)) hlv hB hfB r4
        obtain ⟨e1, e2⟩ := mvL_ok hMv e lv (orI ar (ofEs lv 0 a)) hlv hB hfB r5
        have hJ := join_run _ _ (t1.trans e1.symm) (fun q => by rw [q] at t1; simp at t1; omega) (by omega) (k - 1) (by omega) (h ++ [HObj.cells 102 (plC (n, .mk op nn a t e, lv, ar))]) h.length
        rw [show k - 1 + 1 = k by omega] at hJ
        have lT := plL_len (putR vs) ofA t lv (orI ar (ofEs lv 0 a)) (IntKind.i64.wrap (n + 1))
        have lE := plL_len (putR vs) ofA e lv (orI ar (ofEs lv 0 a)) (IntKind.i64.wrap (IntKind.i64.wrap (n + 1) + cntL t 0))
        generalize plL (putR vs) ofA t lv (orI ar (ofEs lv 0 a)) (IntKind.i64.wrap (n + 1)) = X at *
        generalize plL (putR vs) ofA e lv (orI ar (ofEs lv 0 a)) (IntKind.i64.wrap (IntKind.i64.wrap (n + 1) + cntL t 0)) = Y at *
        generalize mvL (putR vs) ofA t lv (orI ar (ofEs lv 0 a)) = A at *
        generalize mvL (putR vs) ofA e lv (orI ar (ofEs lv 0 a)) = B at *
        have ap1 := here_append h [] h.length (by simp) [plC (n, .mk op nn a t e, lv, ar)] (fun r hr => (hhere lv r hr).1) (X.map plC) (by simp; omega)
        have ap2 := here_append h [] h.length (by simp) ([plC (n, .mk op nn a t e, lv, ar)] ++ X.map plC) (fun r hr => by
          rcases List.mem_append.1 hr with hr | hr
          · exact (hhere lv r hr).1
          · exact (plC_rows X r hr).1) (Y.map plC) (by simp; omega)
        have hfin := here_fin (h := h) (H := h ++ [HObj.cells 102 (([plC (n, .mk op nn a t e, lv, ar)] ++ X.map plC) ++ Y.map plC).flatten]) (lv := joinL A B) (rows := ([plC (n, .mk op nn a t e, lv, ar)] ++ X.map plC) ++ Y.map plC) (id := h.length) (fun r hr => by
          rcases List.mem_append.1 hr with hr | hr
          · rcases List.mem_append.1 hr with hr | hr
            · exact hhere lv r hr
            · exact plC_rows X r hr
          · exact plC_rows Y r hr) (by simp) (Nat.le_refl _)
        have hf1 : ([plC (n, .mk op nn a t e, lv, ar)] : List (List AV)).flatten = plC (n, .mk op nn a t e, lv, ar) := by simp
        have hl1 : ([plC (n, .mk op nn a t e, lv, ar)] : List (List AV)).length = 1 := rfl
        rw [List.append_nil, List.length_nil, Nat.add_zero, hf1, hl1] at ap1
        rw [List.append_nil, List.length_nil, Nat.add_zero, List.length_append, hl1] at ap2
        rw [List.length_append, List.length_append, hl1] at hfin
        have c1 : (op == 1) = true := by simp [o1]
        rw [show ((n, Sm'.mk op nn a t e, lv, ar) :: (X ++ Y)).map plC = ([plC (n, .mk op nn a t e, lv, ar)] ++ X.map plC) ++ Y.map plC by simp]
        clear hm hp hAv hOv hfin1 ihs ihl hok
        apply W_call Tryz.func133 rfl (Nat.le_of_ble_eq_true rfl) rfl rfl
        (repeat' (first | apply W_seq | refine W_true rfl rfl ?_ | refine W_false rfl rfl ?_ | refine W_region (id := 0) rfl rfl ?_ | refine W_region (id := 1) rfl rfl ?_ | refine W_region (id := 2) rfl rfl ?_ | (refine W_ops (id := 3) rfl ?_ <;> refine T_ch 3 rfl ?_ <;> (refine T_go rfl ?_; refine G_op (O_call rfl rfl rfl rfl ‹_›) ?_) <;> (refine T_go rfl ?_; refine G_op (O_call rfl rfl rfl rfl ‹_›) ?_) <;> refine T_ch 1 rfl ?_ <;> apply T_nil) | refine W_region (id := 4) rfl rfl ?_ | (refine W_ops (id := 5) rfl ?_ <;> (refine T_go rfl ?_; refine G_false rfl (by with_reducible assumption) ?_) <;> refine T_ch 1 rfl ?_ <;> apply T_nil) | (refine W_ops (id := 7) rfl ?_ <;> (refine T_go rfl ?_; refine G_false rfl (by with_reducible assumption) ?_) <;> refine T_ch 1 rfl ?_ <;> apply T_nil) | (refine W_ops (id := 9) rfl ?_ <;> (refine T_go rfl ?_; refine G_true rfl (by with_reducible assumption) ?_) <;> refine T_ch 1 rfl ?_ <;> apply T_nil) | (refine W_ops (id := 10) rfl ?_ <;> refine T_ch 4 rfl ?_ <;> (refine T_go rfl ?_; refine G_op (O_call rfl rfl rfl rfl ‹_›) ?_) <;> (refine T_go rfl ?_; refine G_op (O_call rfl rfl rfl rfl ‹_›) ?_) <;> refine T_ch 5 rfl ?_ <;> apply T_nil) | (refine W_ops (id := 11) rfl ?_ <;> refine T_ch 4 rfl ?_ <;> (refine T_go rfl ?_; refine G_op (O_call rfl rfl rfl rfl ‹_›) ?_) <;> (refine T_go rfl ?_; refine G_op (O_call rfl rfl rfl rfl ‹_›) ?_) <;> refine T_ch 5 rfl ?_ <;> apply T_nil) | (refine W_ops (id := 12) rfl ?_ <;> refine T_ch 2 rfl ?_ <;> (refine T_go rfl ?_; refine G_op (O_call rfl rfl rfl rfl ‹_›) ?_) <;> refine T_ch 2 rfl ?_ <;> (refine T_go rfl ?_; refine G_op (O_append rfl rfl rfl rfl rfl ‹_›) ?_) <;> refine T_ch 1 rfl ?_ <;> (refine T_go rfl ?_; refine G_op (O_append rfl rfl rfl rfl rfl ‹_›) ?_) <;> refine T_ch 2 rfl ?_ <;> apply T_nil) | apply W_block | apply W_ret))
        exact ⟨.inl rfl, hfin⟩
      have c1 : (op == 1) = false := by simp [o1]
      by_cases o2 : op = 2
      · have hm : mv1 (putR vs) ofA (.mk op nn a t e) lv ar = fixN (fR vs t a ar) 600 lv := by rw [mv1, if_neg o1, if_pos o2]; rfl
        have hp : pl1 (putR vs) ofA (.mk op nn a t e) lv ar n = (n, .mk op nn a t e, fixN (fR vs t a ar) 600 lv, ar) :: plL (putR vs) ofA t (fixN (fR vs t a ar) 600 lv) (orI ar (ofEs (fixN (fR vs t a ar) 600 lv) 0 a)) (IntKind.i64.wrap (n + 1)) := by
          rw [pl1, if_neg o1, if_pos o2, hm]; rfl
        rw [hm, hp]
        have hrm := roomL_le hB
        have hTh := then_run n op nn a t e (k - 1) (by omega) (by omega) ht2 (h ++ [HObj.cells 102 (plC (n, .mk op nn a t e, lv, ar))]) h.length
        rw [show k - 1 + 1 = k by omega] at hTh
        have c2 : (op == 2) = true := by simp [o2]
        have hfx0 : fixN (fR vs t a ar) 600 lv = fixN (fR vs t a ar) 600 lv := rfl
        generalize hF : fixN (fR vs t a ar) 600 lv = F
        clear hm hp hok
        apply W_call Tryz.func133 rfl (Nat.le_of_ble_eq_true rfl) rfl rfl
        (repeat' (first | apply W_seq | refine W_true rfl rfl ?_ | refine W_false rfl rfl ?_ | refine W_region (id := 0) rfl rfl ?_ | refine W_region (id := 1) rfl rfl ?_ | refine W_region (id := 2) rfl rfl ?_ | (refine W_ops (id := 3) rfl ?_ <;> refine T_ch 3 rfl ?_ <;> (refine T_go rfl ?_; refine G_op (O_call rfl rfl rfl rfl ‹_›) ?_) <;> (refine T_go rfl ?_; refine G_op (O_call rfl rfl rfl rfl ‹_›) ?_) <;> refine T_ch 1 rfl ?_ <;> apply T_nil) | refine W_region (id := 4) rfl rfl ?_ | (refine W_ops (id := 5) rfl ?_ <;> (refine T_go rfl ?_; refine G_false rfl (by with_reducible assumption) ?_) <;> refine T_ch 1 rfl ?_ <;> apply T_nil) | (refine W_ops (id := 7) rfl ?_ <;> (refine T_go rfl ?_; refine G_false rfl (by with_reducible assumption) ?_) <;> refine T_ch 1 rfl ?_ <;> apply T_nil) | (refine W_ops (id := 9) rfl ?_ <;> (refine T_go rfl ?_; refine G_false rfl (by with_reducible assumption) ?_) <;> refine T_ch 1 rfl ?_ <;> apply T_nil) | (refine W_ops (id := 13) rfl ?_ <;> (refine T_go rfl ?_; refine G_true rfl (by with_reducible assumption) ?_) <;> refine T_ch 1 rfl ?_ <;> apply T_nil) | apply W_block))
        apply W_while (S := bhS h vs n ar (.mk op nn a t e) lv) (a0 := lv) (fun x => x.length = vs.length ∧ lvsB x ∧ ∃ c, roomL x < c ∧ fixN (fR vs t a ar) c x = F) roomL (by omega) rfl ⟨hlv, hB, 600, by omega, hF⟩
        intro x hJ
        obtain ⟨j1, j2, c, j3, j4⟩ := hJ
        have hne' : x ≠ [] := fun e => by subst e; simp at j1; omega
        have hfB : lvB (orI ar (ofEs x 0 a)) := orI_B har (ofEs_B j2 a lvB0)
        have hA2 := hAv x j1 (h ++ [HObj.cells 102 (plC (n, .mk op nn a t e, lv, ar))]) h.length
        have hO2 := hOv ar (ofEs x 0 a) (h ++ [HObj.cells 102 (plC (n, .mk op nn a t e, lv, ar))]) h.length
        have hT := ihl t x (orI ar (ofEs x 0 a)) (IntKind.i64.wrap (n + 1)) (by omega) (by omega) (by omega) ht2 r4 j1 j2 hfB (h ++ [HObj.cells 102 (plC (n, .mk op nn a t e, lv, ar))]) h.length
        obtain ⟨t1, t2⟩ := mvL_ok hMv t x (orI ar (ofEs x 0 a)) j1 j2 hfB r4
        have hJn := join_run _ _ (j1.trans t1.symm) hne' (by omega) (k - 1) (by omega) (h ++ [HObj.cells 102 (plC (n, .mk op nn a t e, lv, ar))]) h.length
        obtain ⟨f1, f2, f3⟩ := round_ok hMv r4 har a j1 j2
        have hfx : joinL x (mvL (putR vs) ofA t x (orI ar (ofEs x 0 a))) = fR vs t a ar x := rfl
        have hfx' : joinL x (mvL (putR vs) ofA t x (orI ar (ofA x a))) = fR vs t a ar x := rfl
        rw [hfx'] at f1 f2 f3
        rw [hfx] at hJn
        have hWs := wsame_run (fR vs t a ar x) x (by omega) (k - 1) (by omega) (h ++ [HObj.cells 102 (plC (n, .mk op nn a t e, lv, ar))]) h.length
        rw [show k - 1 + 1 = k by omega] at hJn hWs
        have lT := plL_len (putR vs) ofA t x (orI ar (ofEs x 0 a)) (IntKind.i64.wrap (n + 1))
        obtain ⟨c, rfl⟩ : ∃ c', c = c' + 1 := ⟨c - 1, by omega⟩
        rw [fixN] at j4
        generalize fR vs t a ar x = fx at *
        by_cases hs : fx = x
        · rw [if_pos hs] at j4
          rw [decide_eq_true hs] at hWs
          rw [← j4]
          generalize plL (putR vs) ofA t x (orI ar (ofEs x 0 a)) (IntKind.i64.wrap (n + 1)) = X at *
          have ap1 := here_append h [HObj.cells 102 (plC (n, .mk op nn a t e, lv, ar))] h.length (by simp) [plC (n, .mk op nn a t e, x, ar)] (fun r hr => (hhere x r hr).1) (X.map plC) (by simp; omega)
          have hfin := here_fin (h := h) (H := h ++ [HObj.cells 102 (plC (n, .mk op nn a t e, lv, ar))] ++ [HObj.cells 102 ([plC (n, .mk op nn a t e, x, ar)] ++ X.map plC).flatten]) (lv := x) (rows := [plC (n, .mk op nn a t e, x, ar)] ++ X.map plC) (id := h.length + 1) (fun r hr => by
            rcases List.mem_append.1 hr with hr | hr
            · exact hhere x r hr
            · exact plC_rows X r hr) (by simp) (by omega)
          have hf1 : ([plC (n, .mk op nn a t e, x, ar)] : List (List AV)).flatten = plC (n, .mk op nn a t e, x, ar) := by simp
          have hl1 : ([plC (n, .mk op nn a t e, x, ar)] : List (List AV)).length = 1 := rfl
          rw [hf1, hl1] at ap1
          rw [List.length_append, hl1] at hfin
          have e1 : (h ++ [HObj.cells 102 (plC (n, .mk op nn a t e, lv, ar))]).length = h.length + [HObj.cells 102 (plC (n, .mk op nn a t e, lv, ar))].length := by simp
          rw [← e1] at ap1
          have e2 : h.length + 1 = (h ++ [HObj.cells 102 (plC (n, .mk op nn a t e, lv, ar))]).length := by simp
          rw [e2] at hfin
          rw [show ((n, Sm'.mk op nn a t e, x, ar) :: X).map plC = [plC (n, .mk op nn a t e, x, ar)] ++ X.map plC by simp]
          (repeat' (first | apply W_seq | refine W_true rfl rfl ?_ | (refine W_ops (id := 14) rfl ?_ <;> refine T_ch 3 rfl ?_ <;> (refine T_go rfl ?_; refine G_op (O_call rfl rfl rfl rfl ‹_›) ?_) <;> (refine T_go rfl ?_; refine G_op (O_call rfl rfl rfl rfl ‹_›) ?_) <;> refine T_ch 1 rfl ?_ <;> apply T_nil) | (refine W_ops (id := 15) rfl ?_ <;> refine T_ch 4 rfl ?_ <;> (refine T_go rfl ?_; refine G_op (O_call rfl rfl rfl rfl ‹_›) ?_) <;> (refine T_go rfl ?_; refine G_op (O_call rfl rfl rfl rfl ‹_›) ?_) <;> refine T_ch 5 rfl ?_ <;> apply T_nil) | (refine W_ops (id := 16) rfl ?_ <;> refine T_ch 2 rfl ?_ <;> (refine T_go rfl ?_; refine G_op (O_call rfl rfl rfl rfl ‹_›) ?_) <;> refine T_ch 1 rfl ?_ <;> apply T_nil) | (refine W_ops (id := 17) rfl ?_ <;> refine T_ch 2 rfl ?_ <;> (refine T_go rfl ?_; refine G_true (O_call rfl rfl rfl rfl ‹_›) rfl ?_) <;> apply T_nil) | (refine W_ops (id := 18) rfl ?_ <;> refine T_ch 7 rfl ?_ <;> (refine T_go rfl ?_; refine G_op (O_append rfl rfl rfl rfl rfl ‹_›) ?_) <;> refine T_ch 2 rfl ?_ <;> apply T_nil) | apply W_block | apply W_ret))
          exact ⟨.inl rfl, hfin⟩
        · rw [if_neg hs] at j4
          rw [decide_eq_false hs] at hWs
          have hlt3 : roomL fx < roomL x := by
            rcases f3 with f3 | f3
            · exact absurd f3 hs
            · exact f3
          (repeat' (first | apply W_seq | refine W_false rfl rfl ?_ | (refine W_ops (id := 14) rfl ?_ <;> refine T_ch 3 rfl ?_ <;> (refine T_go rfl ?_; refine G_op (O_call rfl rfl rfl rfl ‹_›) ?_) <;> (refine T_go rfl ?_; refine G_op (O_call rfl rfl rfl rfl ‹_›) ?_) <;> refine T_ch 1 rfl ?_ <;> apply T_nil) | (refine W_ops (id := 15) rfl ?_ <;> refine T_ch 4 rfl ?_ <;> (refine T_go rfl ?_; refine G_op (O_call rfl rfl rfl rfl ‹_›) ?_) <;> (refine T_go rfl ?_; refine G_op (O_call rfl rfl rfl rfl ‹_›) ?_) <;> refine T_ch 5 rfl ?_ <;> apply T_nil) | (refine W_ops (id := 16) rfl ?_ <;> refine T_ch 2 rfl ?_ <;> (refine T_go rfl ?_; refine G_op (O_call rfl rfl rfl rfl ‹_›) ?_) <;> refine T_ch 1 rfl ?_ <;> apply T_nil) | (refine W_ops (id := 17) rfl ?_ <;> refine T_ch 2 rfl ?_ <;> (refine T_go rfl ?_; refine G_false (O_call rfl rfl rfl rfl ‹_›) rfl ?_) <;> apply T_nil) | refine W_region (id := 19) rfl rfl ?_ | apply W_skip | apply W_block))
          exact ⟨fx, rfl, ⟨f1, f2, c, by omega, j4⟩, hlt3⟩
      · have c2 : (op == 2) = false := by simp [o2]
        have hm : mv1 (putR vs) ofA (.mk op nn a t e) lv ar = lv := by
          rw [mv1, if_neg o1, if_neg o2]
          unfold putR
          dsimp only
          rw [if_neg (by omega)]
        have hp : pl1 (putR vs) ofA (.mk op nn a t e) lv ar n = [(n, .mk op nn a t e, lv, ar)] := by rw [pl1, if_neg o1, if_neg o2]
        rw [hm, hp]
        have hfin := hfin1 lv
        clear hm hp hAv hOv hfin1 ihs ihl hok
        apply W_call Tryz.func133 rfl (Nat.le_of_ble_eq_true rfl) rfl rfl
        (repeat' (first | apply W_seq | refine W_false rfl rfl ?_ | refine W_region (id := 0) rfl rfl ?_ | refine W_region (id := 1) rfl rfl ?_ | refine W_region (id := 2) rfl rfl ?_ | (refine W_ops (id := 3) rfl ?_ <;> refine T_ch 3 rfl ?_ <;> (refine T_go rfl ?_; refine G_op (O_call rfl rfl rfl rfl ‹_›) ?_) <;> (refine T_go rfl ?_; refine G_op (O_call rfl rfl rfl rfl ‹_›) ?_) <;> refine T_ch 1 rfl ?_ <;> apply T_nil) | refine W_region (id := 4) rfl rfl ?_ | (refine W_ops (id := 5) rfl ?_ <;> (refine T_go rfl ?_; refine G_false rfl (by with_reducible assumption) ?_) <;> refine T_ch 1 rfl ?_ <;> apply T_nil) | (refine W_ops (id := 7) rfl ?_ <;> (refine T_go rfl ?_; refine G_false rfl (by with_reducible assumption) ?_) <;> refine T_ch 1 rfl ?_ <;> apply T_nil) | (refine W_ops (id := 9) rfl ?_ <;> (refine T_go rfl ?_; refine G_false rfl (by with_reducible assumption) ?_) <;> refine T_ch 1 rfl ?_ <;> apply T_nil) | (refine W_ops (id := 13) rfl ?_ <;> (refine T_go rfl ?_; refine G_false rfl (by with_reducible assumption) ?_) <;> refine T_ch 1 rfl ?_ <;> apply T_nil) | refine W_region (id := 20) rfl rfl ?_ | apply W_skip | apply W_block | apply W_ret))
        exact ⟨.inl rfl, hfin⟩
    · intro l lv ar n hk hN hlen hb hvm hlv hB har h lo
      have hll := smsK_len l
      cases hl0 : l with
      | nil =>
        rw [mvL, plL]
        apply W_call Tryz.func96 rfl (Nat.le_of_ble_eq_true rfl) rfl rfl
        (repeat' (first | apply W_seq | refine W_region (id := 0) rfl rfl ?_ | refine W_region (id := 1) rfl rfl ?_ | refine W_region (id := 2) rfl rfl ?_ | apply W_block))
        apply W_iter (S := rwlS h vs ar .nils) (l := ([] : List Sm')) (a0 := ([], lv, n)) (fun _ a => a = ([], lv, n)) (by simp) (by simp; omega) rfl rfl
        · intro i st rest a hi; simp at hi
        · intro a hJ
          subst hJ
          (repeat' (first | apply W_seq | refine W_false rfl rfl ?_ | (refine W_ops (id := 3) rfl ?_ <;> refine T_ch 3 rfl ?_ <;> (refine T_go rfl ?_; refine G_false rfl rfl ?_) <;> apply T_nil) | refine W_region (id := 8) rfl rfl ?_ | apply W_ret | apply W_exit))
          exact ⟨.inl rfl, rfl⟩
      | cons s0 l0 =>
        rw [← hl0]
        have hR := plC_rows (plL (putR vs) ofA l lv ar n)
        have hfz := acc_frzA (h := h) (e := 102) _ hR
        have htot := plL_len (putR vs) ofA l lv ar n
        have hacc : accV 6 ((itemsL l n).map itC) = .vs 6 ((itemsL l n).map itC) := by subst hl0; rfl
        rw [hacc]
        generalize hRR : (plL (putR vs) ofA l lv ar n).map plC = R at hR hfz ⊢
        have hRl : R.length ≤ smsN l := by rw [← hRR, List.length_map]; exact htot
        generalize hMM : mvL (putR vs) ofA l lv ar = M
        apply W_call Tryz.func96 rfl (Nat.le_of_ble_eq_true rfl) rfl rfl
        (repeat' (first | apply W_seq | refine W_region (id := 0) rfl rfl ?_ | refine W_region (id := 1) rfl rfl ?_ | refine W_region (id := 2) rfl rfl ?_ | apply W_block))
        apply W_iterI (S := rwlS h vs ar (.vs 6 ((itemsL l n).map itC))) (l := l) (a0 := ([], lv, n)) (fun i rest a => a.1 ++ (plL (putR vs) ofA rest a.2.1 ar a.2.2).map plC = R ∧ (itemsL l n).drop i = itemsL rest a.2.2 ∧ mvL (putR vs) ofA rest a.2.1 ar = M ∧ a.2.1.length = vs.length ∧ lvsB a.2.1) (by omega) (by omega) rfl ⟨by simpa using hRR, rfl, hMM, hlv, hB⟩
        · intro i st rest a hi hd hil hJ
          obtain ⟨rows, x, m⟩ := a
          obtain ⟨hJ, hdr, hJM, jl, jB⟩ := hJ
          dsimp only at hJ hdr hJM jl jB
          have hlt := lt_its (n := n) hil
          have hmem := smsK_mem2 l i _ hi
          have hNm := smsN_mem l i _ hi
          have hbm := smsB_mem l i _ hb hi
          have hvm1 := vmL_mem hvm hi
          rw [itemsL] at hdr
          have hget : (itemsL l n)[i]? = some (m, st) := by
            have := congrArg (fun z => z[0]?) hdr
            simpa using this
          have hrow : ((itemsL l n).map itC)[i]? = some (itC (m, st)) := by rw [List.getElem?_map, hget]; rfl
          have hdr2 : (itemsL l n).drop (i + 1) = itemsL rest (cnt1 st m) := by rw [← List.drop_drop, hdr]; rfl
          rw [plL, List.map_append, ← List.append_assoc] at hJ
          rw [mvL] at hJM
          have hBh := ihs st x ar m (by omega) (by omega) hbm hvm1 jl jB har (accH h 102 rows) h.length
          obtain ⟨q1, q2⟩ := mv1_ok hMv st x ar jl jB har hvm1
          have hpl := congrArg List.length hJ
          rw [List.length_append, List.length_append] at hpl
          have q3 : ∀ r, r ∈ rows → r.length = 8 := fun r hr => (hR r (by rw [← hJ]; simp [hr])).1
          have hap := pl_append h rows ((pl1 (putR vs) ofA st x ar m).map plC) q3 (by omega)
          have hpne : accV 8 ((pl1 (putR vs) ofA st x ar m).map plC) = .vs 8 ((pl1 (putR vs) ofA st x ar m).map plC) := by
            obtain ⟨op, nn, a, t, e⟩ := st
            rw [pl1]
            split
            · rfl
            · split <;> rfl
          rw [hpne] at hap
          generalize mv1 (putR vs) ofA st x ar = x' at hBh q1 q2 hJ hJM
          generalize (pl1 (putR vs) ofA st x ar m).map plC = P at hBh hap hJ
          obtain ⟨op, nn, a, t, e⟩ := st
          (repeat' (first | apply W_seq | refine W_true rfl rfl ?_ | (refine W_ops (id := 3) rfl ?_ <;> refine T_ch 3 rfl ?_ <;> (refine T_go rfl ?_; refine G_true rfl (by with_reducible assumption) ?_) <;> apply T_nil) | refine W_region (id := 4) rfl rfl ?_ | (refine W_ops (id := 5) rfl ?_ <;> refine T_ch 5 rfl ?_ <;> (refine T_go rfl ?_; refine G_op (O_index rfl rfl rfl rfl rfl ‹_›) ?_) <;> (refine T_go rfl ?_; refine G_op rfl ?_) <;> (refine T_go rfl ?_; refine G_op (O_call rfl rfl rfl rfl ‹_›) ?_) <;> refine T_ch 5 rfl ?_ <;> apply T_nil) | (refine W_ops (id := 6) rfl ?_ <;> refine T_ch 2 rfl ?_ <;> (refine T_go rfl ?_; refine G_op (O_append rfl rfl rfl rfl rfl ‹_›) ?_) <;> refine T_ch 1 rfl ?_ <;> apply T_nil) | refine W_region (id := 7) rfl rfl ?_ | apply W_skip | apply W_block))
          exact ⟨(rows ++ P, x', cnt1 (.mk op nn a t e) m), rfl, hJ, hdr2, hJM, q1, q2⟩
        · intro a hJ
          have hlt := ge_its (l := l) (n := n)
          obtain ⟨rows, x, m⟩ := a
          obtain ⟨hJ, _, hJM, _, _⟩ := hJ
          have h1 : rows = R := by simpa [plL] using hJ
          have h2 : x = M := by simpa [mvL] using hJM
          subst h1 h2
          have hfin := hand_two (h := h) (H := accH h 102 rows) (a := .vs 1 (intsC x)) (b := accA h 8 rows) rfl hfz (fun _ => by simp) (fun _ => by cases rows <;> simp [accA])
          (repeat' (first | apply W_seq | refine W_false rfl rfl ?_ | (refine W_ops (id := 3) rfl ?_ <;> refine T_ch 3 rfl ?_ <;> (refine T_go rfl ?_; refine G_false rfl (by with_reducible assumption) ?_) <;> apply T_nil) | refine W_region (id := 8) rfl rfl ?_ | apply W_ret | apply W_exit))
          exact ⟨.inl rfl, hfin⟩
/- Types that move, in the reference: Places, Moved. -/
/-- What is asked of a place to say its level. -/
def plOk (m K : Nat) : Pl → Prop
  | (_, .mk _ _ a _ _, lv, _) => exsK a ≤ K ∧ a.length < 9223372036854775808 ∧ exsB a ∧ rdEs m a ∧ lv.length = m
section
variable {pt : List Int → Int → Sm' → List Int} {og : List Int → List Ex' → Int}
mutual
theorem pl1_ok {m K : Nat} (H : Mv pt og m) : ∀ (s : Sm') (lv : List Int) (ar n : Int), smK s ≤ K → smB s → vm1 m s → lv.length = m → lvsB lv → lvB ar → ∀ p, p ∈ pl1 pt og s lv ar n → plOk m K p
  | .mk op nn a t e, lv, ar, n, hK, hb, hv, hl, hB, har, p, hp => by
    obtain ⟨q1, q2⟩ := mv1_ok H (.mk op nn a t e) lv ar hl hB har hv
    rw [smK] at hK
    rw [smB] at hb
    rw [vm1] at hv
    obtain ⟨⟨ha1, ha2⟩, ⟨ht1, ht2⟩, he1, he2⟩ := hb
    rw [pl1] at hp
    have h0 : ∀ lv' : List Int, lv'.length = m → plOk m K (n, .mk op nn a t e, lv', ar) := fun lv' hl' => ⟨by omega, ha1, ha2, hv.1, hl'⟩
    split at hp
    · rcases List.mem_cons.1 hp with rfl | hp
      · exact h0 lv hl
      · rcases List.mem_append.1 hp with hp | hp
        · exact plL_ok H t lv _ _ (by omega) ht2 hv.2.2.2.1 hl hB (orI_B har (H.og lv a hB)) p hp
        · exact plL_ok H e lv _ _ (by omega) he2 hv.2.2.2.2 hl hB (orI_B har (H.og lv a hB)) p hp
    · split at hp
      · rcases List.mem_cons.1 hp with rfl | hp
        · exact h0 _ q1
        · exact plL_ok H t _ _ _ (by omega) ht2 hv.2.2.2.1 q1 q2 (orI_B har (H.og _ a q2)) p hp
      · rw [List.mem_singleton] at hp
        rw [hp]
        exact h0 lv hl
theorem plL_ok {m K : Nat} (H : Mv pt og m) : ∀ (l : List Sm') (lv : List Int) (ar n : Int), smsK l ≤ K → smsB l → vmL m l → lv.length = m → lvsB lv → lvB ar → ∀ p, p ∈ plL pt og l lv ar n → plOk m K p
  | [], lv, ar, n, _, _, _, _, _, _, p, hp => by rw [plL] at hp; cases hp
  | s :: l, lv, ar, n, hK, hb, hv, hl, hB, har, p, hp => by
    rw [smsK] at hK
    obtain ⟨q1, q2⟩ := mv1_ok H s lv ar hl hB har hv.1
    rw [plL] at hp
    rcases List.mem_append.1 hp with hp | hp
    · exact pl1_ok H s lv ar n (by omega) hb.1 hv.1 hl hB har p hp
    · exact plL_ok H l _ ar _ (by omega) hb.2 hv.2 q1 q2 har p hp
end
end
/-- The flow at a place, if there is one. -/
def flPl : Pl → List (List AV)
  | (n, .mk op nn a _ _, lv, ar) => if op = 3 then flowL n (orI ar (ofEs lv 0 a)) nn else []
theorem flPl_row (p : Pl) : ∀ r, r ∈ flPl p → r.length = 3 ∧ ∀ x, x ∈ r → static x = true := by
  obtain ⟨n, ⟨op, nn, a, t, e⟩, lv, ar⟩ := p
  intro r hr
  unfold flPl at hr
  dsimp only at hr
  split at hr
  · exact flowL_row _ _ _ r hr
  · cases hr
theorem flPl_len (p : Pl) : (flPl p).length ≤ 1 := by
  obtain ⟨n, ⟨op, nn, a, t, e⟩, lv, ar⟩ := p
  unfold flPl
  dsimp only
  split
  · exact flowL_len _ _ _
  · simp
theorem flPls_row (l : List Pl) : ∀ r, r ∈ l.flatMap flPl → r.length = 3 ∧ ∀ x, x ∈ r → static x = true := by
  intro r hr
  obtain ⟨p, _, hp⟩ := List.mem_flatMap.1 hr
  exact flPl_row p r hp
theorem flPls_len : ∀ l : List Pl, (l.flatMap flPl).length ≤ l.length
  | [] => by simp
  | p :: l => by
    have := flPl_len p
    have := flPls_len l
    rw [List.flatMap_cons, List.length_append, List.length_cons]; omega
def plsR (p : Pr') : List Pl := plL (putR p.vars) ofA p.body (levs p) 0 0
def lastR (p : Pr') : List Int := mvL (putR p.vars) ofA p.body (levs p) 0
theorem places_run (p : Pr') (k : Nat) (hk : smsK p.body + p.vars.length + 1310 ≤ k) (hN : smsN p.body ≤ 600) (hb : prB p) (hv1 : 1 ≤ p.vars.length) (hv2 : p.vars.length ≤ 18) (hvm : vmL p.vars.length p.body) (hB : lvsB (levs p)) (h : Heap) (lo : Nat) :
    call Tryz.prog cfg (k + 1) lo (.func 50) [.agg (prC p)] h = some (.tup [.vs 1 (intsC (lastR p)), accV 8 ((plsR p).map plC)], h) := by
  have hln := smsN_len p.body
  have hL := levelsR_run p (k - 1) (by omega) (by omega) h h.length
  have hI := items_run p.body 0 (k - 1) (by omega) (by omega) hb.2.2 h h.length
  rw [show k - 1 + 1 = k by omega] at hL hI
  rw [accV_ne (levs_ne hv1)] at hL
  have hR := (behind_run p.vars hv1 hv2 k).2 p.body (levs p) 0 0 (by omega) hN (by omega) hb.2.2 hvm (levs_len p) hB lvB0 h h.length
  show _ = some (AV.tup [.vs 1 (intsC (mvL (putR p.vars) ofA p.body (levs p) 0)), accV 8 ((plL (putR p.vars) ofA p.body (levs p) 0 0).map plC)], h)
  generalize plL (putR p.vars) ofA p.body (levs p) 0 0 = R at hR ⊢
  generalize mvL (putR p.vars) ofA p.body (levs p) 0 = M at hR ⊢
  generalize levs p = lv at hL hR
  obtain ⟨w, vs, body⟩ := p
  dsimp only at hI hR
  cases R with
  | nil =>
    apply W_call Tryz.func50 rfl (Nat.le_of_ble_eq_true rfl) rfl rfl
    (repeat' (first | apply W_seq | refine W_region (id := 0) rfl rfl ?_ | (refine W_dops (id := 1) (bs := [0, 1, 0, 4, 0, 16, 60, 127, 255, 255, 1023, 2047]) rfl (by decide +kernel) (by decide +kernel) ?_ <;> (refine U_go rfl ?_; refine H_free (by decide +kernel) rfl rfl rfl rfl rfl ?_) <;> (refine U_go rfl ?_; refine H_free (by decide +kernel) rfl rfl rfl rfl rfl ?_) <;> (refine U_go rfl ?_; refine H_free (by decide +kernel) rfl rfl rfl rfl rfl ?_) <;> (refine U_go rfl ?_; refine H_free (by decide +kernel) rfl (O_call rfl rfl rfl rfl ‹_›) rfl rfl rfl ?_) <;> (refine U_go rfl ?_; refine H_free (by decide +kernel) rfl rfl rfl rfl rfl ?_) <;> (refine U_go rfl ?_; refine H_free (by decide +kernel) rfl rfl rfl rfl rfl ?_) <;> (refine U_go rfl ?_; refine H_free (by decide +kernel) rfl (O_call rfl rfl rfl rfl ‹_›) rfl rfl rfl ?_) <;> (refine U_go rfl ?_; refine H_op (by decide +kernel) (O_call rfl rfl rfl rfl ‹_›) ?_) <;> (refine U_go rfl ?_; refine H_free (by decide +kernel) rfl rfl rfl rfl rfl ?_) <;> (refine U_go rfl ?_; refine H_free (by decide +kernel) rfl rfl rfl rfl rfl ?_) <;> (refine U_go rfl ?_; refine H_op (by decide +kernel) rfl ?_) <;> (refine U_go rfl ?_; refine H_op (by decide +kernel) rfl ?_) <;> apply U_nil) | apply W_ret))
    exact ⟨.inl rfl, rfl⟩
  | cons r R =>
    apply W_call Tryz.func50 rfl (Nat.le_of_ble_eq_true rfl) rfl rfl
    (repeat' (first | apply W_seq | refine W_region (id := 0) rfl rfl ?_ | (refine W_dops (id := 1) (bs := [0, 1, 0, 4, 0, 16, 60, 127, 255, 255, 1023, 2047]) rfl (by decide +kernel) (by decide +kernel) ?_ <;> (refine U_go rfl ?_; refine H_free (by decide +kernel) rfl rfl rfl rfl rfl ?_) <;> (refine U_go rfl ?_; refine H_free (by decide +kernel) rfl rfl rfl rfl rfl ?_) <;> (refine U_go rfl ?_; refine H_free (by decide +kernel) rfl rfl rfl rfl rfl ?_) <;> (refine U_go rfl ?_; refine H_free (by decide +kernel) rfl (O_call rfl rfl rfl rfl ‹_›) rfl rfl rfl ?_) <;> (refine U_go rfl ?_; refine H_free (by decide +kernel) rfl rfl rfl rfl rfl ?_) <;> (refine U_go rfl ?_; refine H_free (by decide +kernel) rfl rfl rfl rfl rfl ?_) <;> (refine U_go rfl ?_; refine H_free (by decide +kernel) rfl (O_call rfl rfl rfl rfl ‹_›) rfl rfl rfl ?_) <;> (refine U_go rfl ?_; refine H_op (by decide +kernel) (O_call rfl rfl rfl rfl ‹_›) ?_) <;> (refine U_go rfl ?_; refine H_free (by decide +kernel) rfl rfl rfl rfl rfl ?_) <;> (refine U_go rfl ?_; refine H_free (by decide +kernel) rfl rfl rfl rfl rfl ?_) <;> (refine U_go rfl ?_; refine H_op (by decide +kernel) rfl ?_) <;> (refine U_go rfl ?_; refine H_op (by decide +kernel) rfl ?_) <;> apply U_nil) | apply W_ret))
    exact ⟨.inl rfl, rfl⟩
def mrS (h : Heap) (lv v : AV) (i : Int) (rows : List (List AV)) : St :=
  { env := [(4, .v lv), (5, .v v), (6, .v (accA h 3 rows)), (7, .v (.int .i64 i))], loc := [], heap := accH h 72 rows, inRound := false, lo := h.length }
set_option maxHeartbeats 1000000 in
theorem movedR_run (p : Pr') (k : Nat) (hk : smsK p.body + p.vars.length + 1320 ≤ k) (hN : smsN p.body ≤ 600) (hb : prB p) (hv1 : 1 ≤ p.vars.length) (hv2 : p.vars.length ≤ 18) (hvm : vmL p.vars.length p.body) (hB : lvsB (levs p)) (h : Heap) (lo : Nat) :
    call Tryz.prog cfg (k + 1) lo (.func 47) [.agg (prC p)] h = some (.tup [.vs 1 (intsC (lastR p)), accV 3 ((plsR p).flatMap flPl)], h) := by
  have hP := places_run p (k - 1) (by omega) hN hb hv1 hv2 hvm hB h h.length
  rw [show k - 1 + 1 = k by omega] at hP
  have hok := plL_ok (K := smsK p.body) (mvR_ok p.vars p.vars.length) p.body (levs p) 0 0 (Nat.le_refl _) hb.2.2 hvm (levs_len p) hB lvB0
  have hlen := plL_len (putR p.vars) ofA p.body (levs p) 0 0
  have e1 : plsR p = plL (putR p.vars) ofA p.body (levs p) 0 0 := rfl
  rw [← e1] at hok hlen
  generalize lastR p = M at hP ⊢
  generalize plsR p = pls at hP hok hlen ⊢
  have hz := acc_frzA (h := h) (e := 72) _ (flPls_row pls)
  have hfl := flPls_len pls
  have hrw := flPls_row pls
  have hfin := hand_two (h := h) (H := accH h 72 (pls.flatMap flPl)) (a := .vs 1 (intsC M)) (b := accA h 3 (pls.flatMap flPl)) rfl hz (fun _ => by simp) (fun _ => by cases pls.flatMap flPl <;> simp [accA])
  generalize hm : p.vars.length = m at hok
  obtain ⟨w, vs, body⟩ := p
  dsimp only at hlen hk hN hm hok
  cases hpl : pls with
  | nil =>
    rw [hpl] at hP
    apply W_call Tryz.func47 rfl (Nat.le_of_ble_eq_true rfl) rfl rfl
    (repeat' (first | apply W_seq | refine W_region (id := 0) rfl rfl ?_ | (refine W_ops (id := 1) rfl ?_ <;> refine T_ch 1 rfl ?_ <;> (refine T_go rfl ?_; refine G_op (O_call rfl rfl rfl rfl ‹_›) ?_) <;> refine T_ch 5 rfl ?_ <;> apply T_nil) | refine W_region (id := 2) rfl rfl ?_ | refine W_region (id := 3) rfl rfl ?_ | apply W_block))
    apply W_iter (S := mrS h (.vs 1 (intsC M)) .nils) (l := ([] : List Nat)) (a0 := []) (fun _ a => a = []) (by simp) (by simp; omega) rfl rfl
    · intro i st rest a hi; simp at hi
    · intro a hJ
      subst hJ
      (repeat' (first | apply W_seq | refine W_false rfl rfl ?_ | (refine W_ops (id := 4) rfl ?_ <;> refine T_ch 3 rfl ?_ <;> (refine T_go rfl ?_; refine G_false rfl rfl ?_) <;> apply T_nil) | refine W_region (id := 9) rfl rfl ?_ | apply W_ret | apply W_exit))
      exact ⟨.inl rfl, rfl⟩
  | cons p0 pls0 =>
    rw [← hpl]
    have hacc : accV 8 (pls.map plC) = .vs 8 (pls.map plC) := by subst hpl; rfl
    rw [hacc] at hP
    have hll : ((pls.map plC).length : Int) = pls.length := by simp
    generalize hR : pls.flatMap flPl = R at hz hfl hrw hfin ⊢
    apply W_call Tryz.func47 rfl (Nat.le_of_ble_eq_true rfl) rfl rfl
    (repeat' (first | apply W_seq | refine W_region (id := 0) rfl rfl ?_ | (refine W_ops (id := 1) rfl ?_ <;> refine T_ch 1 rfl ?_ <;> (refine T_go rfl ?_; refine G_op (O_call rfl rfl rfl rfl ‹_›) ?_) <;> refine T_ch 5 rfl ?_ <;> apply T_nil) | refine W_region (id := 2) rfl rfl ?_ | refine W_region (id := 3) rfl rfl ?_ | apply W_block))
    apply W_iterI (S := mrS h (.vs 1 (intsC M)) (.vs 8 (pls.map plC))) (l := pls) (a0 := []) (fun i rest a => a ++ rest.flatMap flPl = R) (by omega) (by omega) rfl (by simpa using hR)
    · intro i x rest a hi hd hil hJ
      have hlt : decide ((i : Int) < ((pls.map plC).length : Int)) = true := decide_eq_true (by rw [hll]; omega)
      have hrow : (pls.map plC)[i]? = some (plC x) := by rw [List.getElem?_map, hi]; rfl
      have hxo := hok x (List.mem_of_getElem? hi)
      rw [List.flatMap_cons, ← List.append_assoc] at hJ
      have q1 : ∀ r, r ∈ a → r.length = 3 := fun r hr => (hrw r (by rw [← hJ]; simp [hr])).1
      have q2 := congrArg List.length hJ
      rw [List.length_append, List.length_append] at q2
      have hap := fl_append h a (flPl x) q1 (by omega)
      obtain ⟨n, ⟨op, nn, ar, t, e⟩, lv, rd⟩ := x
      obtain ⟨o1, o2, o3, o4, o5⟩ := hxo
      have hla := exsK_len ar
      by_cases h3 : op = 3
      · have c3 : (op == 3) = true := by simp [h3]
        have hA := argsR_run op nn ar t e lv (k - 1) (by omega) o2 o3 (by rw [o5]; exact o4) (accH h 72 a) (accH h 72 a).length
        have hO := or_run (k - 1) (accH h 72 a).length rd (ofEs lv 0 ar) (accH h 72 a)
        have hF := flow_run n (orI rd (ofEs lv 0 ar)) nn (k - 2) (accH h 72 a).length (accH h 72 a)
        rw [show k - 1 + 1 = k by omega] at hA hO
        rw [show k - 2 + 2 = k by omega] at hF
        have hfp : flPl (n, .mk op nn ar t e, lv, rd) = flowL n (orI rd (ofEs lv 0 ar)) nn := by unfold flPl; dsimp only; rw [if_pos h3]
        rw [hfp] at hJ hap
        (repeat' (first | apply W_seq | refine W_true rfl rfl ?_ | (refine W_ops (id := 4) rfl ?_ <;> refine T_ch 3 rfl ?_ <;> (refine T_go rfl ?_; refine G_true rfl (by with_reducible assumption) ?_) <;> apply T_nil) | refine W_region (id := 5) rfl rfl ?_ | (refine W_ops (id := 6) rfl ?_ <;> refine T_ch 2 rfl ?_ <;> (refine T_go rfl ?_; refine G_op (O_index rfl rfl rfl rfl rfl ‹_›) ?_) <;> refine T_ch 2 rfl ?_ <;> (refine T_go rfl ?_; refine G_op rfl ?_) <;> refine T_ch 2 rfl ?_ <;> apply T_nil) | (refine W_ops (id := 7) rfl ?_ <;> refine T_ch 2 rfl ?_ <;> (refine T_go rfl ?_; refine G_true rfl (by with_reducible assumption) ?_) <;> apply T_nil) | (refine W_dops (id := 8) (bs := [0, 0, 0, 6, 14, 30, 62, 0, 0, 384, 896, 1920, 0, 0, 12288, 28672, 61440, 0, 258048, 524160, 0, 1048576, 4194302, 8388607, 16777215]) rfl (by decide +kernel) (by decide +kernel) ?_ <;> (refine U_go rfl ?_; refine H_free (by decide +kernel) rfl rfl rfl rfl rfl ?_) <;> (refine U_go rfl ?_; refine H_free (by decide +kernel) rfl rfl rfl rfl rfl ?_) <;> (refine U_go rfl ?_; refine H_free (by decide +kernel) rfl rfl rfl rfl rfl ?_) <;> (refine U_go rfl ?_; refine H_free (by decide +kernel) rfl (O_index rfl rfl rfl rfl rfl ‹_›) rfl rfl rfl ?_) <;> (refine U_go rfl ?_; refine H_free (by decide +kernel) rfl rfl rfl rfl rfl ?_) <;> (refine U_go rfl ?_; refine H_free (by decide +kernel) rfl rfl rfl rfl rfl ?_) <;> (refine U_go rfl ?_; refine H_free (by decide +kernel) rfl rfl rfl rfl rfl ?_) <;> (refine U_go rfl ?_; refine H_free (by decide +kernel) rfl rfl rfl rfl rfl ?_) <;> (refine U_go rfl ?_; refine H_free (by decide +kernel) rfl rfl rfl rfl rfl ?_) <;> (refine U_go rfl ?_; refine H_free (by decide +kernel) rfl (O_index rfl rfl rfl rfl rfl ‹_›) rfl rfl rfl ?_) <;> (refine U_go rfl ?_; refine H_free (by decide +kernel) rfl rfl rfl rfl rfl ?_) <;> (refine U_go rfl ?_; refine H_free (by decide +kernel) rfl rfl rfl rfl rfl ?_) <;> (refine U_go rfl ?_; refine H_free (by decide +kernel) rfl rfl rfl rfl rfl ?_) <;> (refine U_go rfl ?_; refine H_free (by decide +kernel) rfl rfl rfl rfl rfl ?_) <;> (refine U_go rfl ?_; refine H_free (by decide +kernel) rfl (O_index rfl rfl rfl rfl rfl ‹_›) rfl rfl rfl ?_) <;> (refine U_go rfl ?_; refine H_free (by decide +kernel) rfl rfl rfl rfl rfl ?_) <;> (refine U_go rfl ?_; refine H_free (by decide +kernel) rfl rfl rfl rfl rfl ?_) <;> (refine U_go rfl ?_; refine H_free (by decide +kernel) rfl rfl rfl rfl rfl ?_) <;> (refine U_go rfl ?_; refine H_free (by decide +kernel) rfl (O_call rfl rfl rfl rfl ‹_›) rfl rfl rfl ?_) <;> (refine U_go rfl ?_; refine H_free (by decide +kernel) rfl (O_call rfl rfl rfl rfl ‹_›) rfl rfl rfl ?_) <;> (refine U_go rfl ?_; refine H_free (by decide +kernel) rfl rfl rfl rfl rfl ?_) <;> (refine U_go rfl ?_; refine H_free (by decide +kernel) rfl rfl rfl rfl rfl ?_) <;> (refine U_go rfl ?_; refine H_free (by decide +kernel) rfl (O_call rfl rfl rfl rfl ‹_›) rfl rfl rfl ?_) <;> (refine U_go rfl ?_; refine H_op (by decide +kernel) (O_append rfl rfl rfl rfl rfl ‹_›) ?_) <;> (refine U_go rfl ?_; refine H_op (by decide +kernel) rfl ?_) <;> apply U_nil) | apply W_skip | apply W_block))
        exact ⟨a ++ flowL n (orI rd (ofEs lv 0 ar)) nn, rfl, hJ⟩
      · have c3 : (op == 3) = false := by simp [h3]
        have hfp : flPl (n, .mk op nn ar t e, lv, rd) = [] := by unfold flPl; dsimp only; rw [if_neg h3]
        rw [hfp, List.append_nil] at hJ
        (repeat' (first | apply W_seq | refine W_true rfl rfl ?_ | refine W_false rfl rfl ?_ | (refine W_ops (id := 4) rfl ?_ <;> refine T_ch 3 rfl ?_ <;> (refine T_go rfl ?_; refine G_true rfl (by with_reducible assumption) ?_) <;> apply T_nil) | refine W_region (id := 5) rfl rfl ?_ | (refine W_ops (id := 6) rfl ?_ <;> refine T_ch 2 rfl ?_ <;> (refine T_go rfl ?_; refine G_op (O_index rfl rfl rfl rfl rfl ‹_›) ?_) <;> refine T_ch 2 rfl ?_ <;> (refine T_go rfl ?_; refine G_op rfl ?_) <;> refine T_ch 2 rfl ?_ <;> apply T_nil) | (refine W_ops (id := 7) rfl ?_ <;> refine T_ch 2 rfl ?_ <;> (refine T_go rfl ?_; refine G_false rfl (by with_reducible assumption) ?_) <;> apply T_nil) | apply W_skip | apply W_block))
        exact ⟨a, rfl, hJ⟩
    · intro a hJ
      have hlt : decide ((pls.length : Int) < ((pls.map plC).length : Int)) = false := decide_eq_false (by rw [hll]; omega)
      have : a = R := by simpa using hJ
      subst this
      (repeat' (first | apply W_seq | refine W_false rfl rfl ?_ | (refine W_ops (id := 4) rfl ?_ <;> refine T_ch 3 rfl ?_ <;> (refine T_go rfl ?_; refine G_false rfl (by with_reducible assumption) ?_) <;> apply T_nil) | refine W_region (id := 9) rfl rfl ?_ | apply W_ret | apply W_exit))
      exact ⟨.inl rfl, hfin⟩
end Go.Proofs.YtelobnllkhnpaaaGreat.L
