/- Plain laws: a program is one for both. -/
import Derived.Test.YtelobnllkhnpaaaLvP
import Derived.Test.YtelobnllkhnpaaaLvN
open Go Go.Proofs Go.Ev
namespace Go.Proofs.Ytelobnllkhnpaaa.L
set_option linter.unusedVariables false
set_option linter.unusedSimpArgs false
set_option maxRecDepth 100000

mutual
theorem fine1_iff {w : Int} {vs : List Vr'} (hh : headPB w vs = true) (hc : ∀ v, v ∈ vs → 1 ≤ v.cells) : ∀ (s : Sm') (deep st nd : Int), 1 ≤ deep → deep ≤ 16 → 0 ≤ nd → nd + smN s < 1000000 →
    ((fine1 w vs s deep st nd).1 = true ↔ deep + smD s ≤ 17 ∧ rowB w vs s = true ∧ nd + smN s ≤ 400) ∧ ((fine1 w vs s deep st nd).1 = true → (fine1 w vs s deep st nd).2.2 = nd + smN s)
  | .mk op n a t e, deep, st, nd, d0, d1, n0, n1 => by
    rw [smN] at n1
    rw [fine1_eq, smD, smN, rowB, wsm (n := nd + 1) (by omega) (by omega), wsm (n := deep + 1) (by omega) (by omega), headS_eq hc]
    generalize IntKind.i64.wrap (st + 1) = st1
    by_cases hb : nd + 1 > 400
    · rw [decide_eq_true hb, Bool.true_or, if_pos rfl]
      refine ⟨⟨fun h => (by cases h), fun ⟨_, _, h⟩ => by omega⟩, fun h => (by cases h)⟩
    rw [decide_eq_false hb, Bool.false_or]
    cases hH : headB vs (.mk op n a t e) with
    | false => simp
    | true =>
      rw [Bool.not_true, if_neg (by simp)]
      obtain ⟨a1, a2⟩ := argsF_eq w vs hh a (nd + 1) (by omega) (by omega)
      generalize argsF w vs a (nd + 1) = q at a1 a2
      unfold aftA
      cases hq : q.1 with
      | false =>
        rw [hq] at a1
        rw [if_neg (by simp), ← a1]; simp
      | true =>
        rw [hq] at a1
        rw [if_pos rfl, ← a1, a2 hq]
        unfold thenElse
        obtain ⟨t1, t2⟩ := fineG_iff hh hc t (deep + 1) st1 (nd + 1 + exsN a) (by omega) (by omega) (by omega) (by omega)
        generalize fineG w vs t (deep + 1) st1 (nd + 1 + exsN a) = T at t1 t2
        cases hT : T.1 with
        | false =>
          rw [if_neg (by simp)]
          refine ⟨⟨fun h => (by rw [hT] at h; cases h), fun ⟨g1, g2, g3⟩ => ?_⟩, fun h => (by rw [hT] at h; cases h)⟩
          have : T.1 = true := t1.2 ⟨by omega, by simp only [Bool.and_eq_true] at g2; exact g2.1.1.2, by omega⟩
          rw [hT] at this; cases this
        | true =>
          rw [if_pos rfl, t2 hT]
          obtain ⟨g1, g2, g3⟩ := t1.1 hT
          obtain ⟨e1, e2⟩ := fineG_iff hh hc e (deep + 1) T.2.1 (nd + 1 + exsN a + smsN t) (by omega) (by omega) (by omega) (by omega)
          refine ⟨?_, fun h => by rw [e2 h]; omega⟩
          rw [e1]
          simp only [g2, Bool.true_and, Bool.and_true]
          constructor
          · rintro ⟨k1, k2, k3⟩; exact ⟨by omega, k2, by omega⟩
          · rintro ⟨k1, k2, k3⟩; exact ⟨by omega, k2, by omega⟩
theorem fineL_iff {w : Int} {vs : List Vr'} (hh : headPB w vs = true) (hc : ∀ v, v ∈ vs → 1 ≤ v.cells) : ∀ (l : List Sm') (deep st nd : Int), 1 ≤ deep → deep ≤ 16 → 0 ≤ nd → nd + smsN l < 1000000 →
    ((fineL w vs l deep st nd).1 = true ↔ deep + smsD l ≤ 17 ∧ rowsB w vs l = true ∧ nd + smsN l ≤ 400) ∧ ((fineL w vs l deep st nd).1 = true → (fineL w vs l deep st nd).2.2 = nd + smsN l)
  | [], deep, st, nd, d0, d1, n0, n1 => by
    rw [fineL, smsD, rowsB, smsN]
    simp only [decide_eq_true_eq]
    refine ⟨⟨fun h => ⟨by omega, by trivial, by omega⟩, fun ⟨_, _, h⟩ => by omega⟩, fun _ => by omega⟩
  | s :: l, deep, st, nd, d0, d1, n0, n1 => by
    rw [smsN] at n1
    rw [fineL_cons, smsD, rowsB, smsN]
    obtain ⟨t1, t2⟩ := fine1_iff hh hc s deep st nd d0 d1 n0 (by omega)
    generalize fine1 w vs s deep st nd = T at t1 t2
    unfold nxtL
    cases hT : T.1 with
    | false =>
      rw [if_neg (by simp)]
      refine ⟨⟨fun h => (by rw [hT] at h; cases h), fun ⟨g1, g2, g3⟩ => ?_⟩, fun h => (by rw [hT] at h; cases h)⟩
      have : T.1 = true := t1.2 ⟨by omega, by simp only [Bool.and_eq_true] at g2; exact g2.1, by omega⟩
      rw [hT] at this; cases this
    | true =>
      rw [if_pos rfl, t2 hT]
      obtain ⟨g1, g2, g3⟩ := t1.1 hT
      obtain ⟨e1, e2⟩ := fineL_iff hh hc l deep T.2.1 (nd + smN s) d0 d1 (by omega) (by omega)
      refine ⟨?_, fun h => by rw [e2 h]; omega⟩
      rw [e1, g2, Bool.true_and]
      constructor
      · rintro ⟨k1, k2, k3⟩; exact ⟨by omega, k2, by omega⟩
      · rintro ⟨k1, k2, k3⟩; exact ⟨by omega, k2, by omega⟩
theorem fineG_iff {w : Int} {vs : List Vr'} (hh : headPB w vs = true) (hc : ∀ v, v ∈ vs → 1 ≤ v.cells) : ∀ (l : List Sm') (deep st nd : Int), 1 ≤ deep → deep ≤ 17 → 0 ≤ nd → nd + smsN l < 1000000 →
    ((fineG w vs l deep st nd).1 = true ↔ deep + smsD l ≤ 17 ∧ rowsB w vs l = true ∧ nd + smsN l ≤ 400) ∧ ((fineG w vs l deep st nd).1 = true → (fineG w vs l deep st nd).2.2 = nd + smsN l)
  | [], deep, st, nd, d0, d1, n0, n1 => by
    unfold fineG guardS
    simp only [List.length_nil, smsD, rowsB, smsN, fineL]
    rw [if_neg (by simp)]
    simp only [decide_eq_true_eq]
    refine ⟨⟨fun h => ⟨by omega, by trivial, by omega⟩, fun ⟨_, _, h⟩ => by omega⟩, fun _ => by omega⟩
  | s :: l, deep, st, nd, d0, d1, n0, n1 => by
    by_cases hd : deep > 16
    · unfold fineG guardS
      rw [if_pos (by rw [decide_eq_true hd]; simp)]
      refine ⟨⟨fun h => (by cases h), fun ⟨g, _, _⟩ => ?_⟩, fun h => (by cases h)⟩
      rw [smsD] at g
      have : 1 ≤ smD s := by cases s; rw [smD]; omega
      omega
    · have hg : fineG w vs (s :: l) deep st nd = fineL w vs (s :: l) deep st nd := by
        unfold fineG guardS
        rw [if_neg (by rw [decide_eq_false hd]; simp)]
      rw [hg]
      rw [smsN] at n1
      rw [fineL_cons, smsD, rowsB, smsN]
      obtain ⟨t1, t2⟩ := fine1_iff hh hc s deep st nd d0 (by omega) n0 (by omega)
      generalize fine1 w vs s deep st nd = T at t1 t2
      unfold nxtL
      cases hT : T.1 with
      | false =>
        rw [if_neg (by simp)]
        refine ⟨⟨fun h => (by rw [hT] at h; cases h), fun ⟨g1, g2, g3⟩ => ?_⟩, fun h => (by rw [hT] at h; cases h)⟩
        have : T.1 = true := t1.2 ⟨by omega, by simp only [Bool.and_eq_true] at g2; exact g2.1, by omega⟩
        rw [hT] at this; cases this
      | true =>
        rw [if_pos rfl, t2 hT]
        obtain ⟨g1, g2, g3⟩ := t1.1 hT
        obtain ⟨e1, e2⟩ := fineL_iff hh hc l deep T.2.1 (nd + smN s) d0 (by omega) (by omega) (by omega)
        refine ⟨?_, fun h => by rw [e2 h]; omega⟩
        rw [e1, g2, Bool.true_and]
        constructor
        · rintro ⟨k1, k2, k3⟩; exact ⟨by omega, k2, by omega⟩
        · rintro ⟨k1, k2, k3⟩; exact ⟨by omega, k2, by omega⟩
end

theorem okP_eq (p : Pr') (hN : smsN p.body ≤ 600) : okP p = isP p := by
  unfold okP isP
  rw [← head_eq]
  cases hh : headPB p.width p.vars with
  | false => simp
  | true =>
    have hc : ∀ v, v ∈ p.vars → 1 ≤ v.cells := by
      have := hh
      rw [head_eq] at this
      unfold headRB at this
      simp only [Bool.and_eq_true] at this
      exact varB_cells this.2
    obtain ⟨g1, _⟩ := fineG_iff hh hc p.body 1 0 0 (by omega) (by omega) (by omega) (by omega)
    have hD := smsD_le p.body
    rw [fitsS_eq _ _ (by omega) (by omega), depSs_eq _ _ (by omega) (by omega) (by omega)]
    rw [Bool.eq_iff_iff, Bool.true_and, Bool.true_and, g1]
    simp only [Bool.and_eq_true, decide_eq_true_eq]
    constructor
    · rintro ⟨k1, k2, k3⟩; exact ⟨⟨by omega, by omega⟩, k2⟩
    · rintro ⟨⟨k1, k2⟩, k3⟩; exact ⟨by omega, k3, by omega⟩
mutual
theorem form_rd {w c : Int} {vs : List Vr'} : ∀ (e : Ex'), formE w vs c e = true → rdE vs.length e
  | .mk op n cp es, h => by
    rw [formE, Bool.and_eq_true] at h
    rw [rdE]
    refine ⟨fun ho => ?_, forms_rd es h.2⟩
    have := h.1
    unfold nodeB at this
    dsimp only at this
    rw [if_pos ho] at this
    simp only [Bool.and_eq_true, decide_eq_true_eq] at this
    exact ⟨this.1.1.1.1, this.1.1.1.2⟩
theorem forms_rd {w c : Int} {vs : List Vr'} : ∀ (es : List Ex'), formEs w vs c es = true → rdEs vs.length es
  | [], _ => trivial
  | e :: es, h => by
    rw [formEs, Bool.and_eq_true] at h
    exact ⟨form_rd e h.1, forms_rd es h.2⟩
end
theorem isE_rd {w c : Int} {vs : List Vr'} {e : Ex'} (h : isE w vs c e = true) : rdE vs.length e := by
  unfold isE at h
  simp only [Bool.and_eq_true] at h
  exact form_rd e h.2
theorem chk_eq (p : Pr') (hN : smsN p.body ≤ 600) : chkI p = faultI p := by
  unfold chkI faultI singleP
  rw [okP_eq p hN]
  cases isP p <;> simp
theorem isP_head {p : Pr'} (h : isP p = true) : headPB p.width p.vars = true ∧ 1 ≤ p.vars.length ∧ p.vars.length ≤ 18 := by
  unfold isP at h
  simp only [Bool.and_eq_true] at h
  have := h.1.1.1
  rw [head_eq]
  refine ⟨this, ?_⟩
  unfold headRB at this
  simp only [Bool.and_eq_true, Bool.not_eq_true', decide_eq_false_iff_not] at this
  omega
end Go.Proofs.Ytelobnllkhnpaaa.L
