/- Releases: which outputs may be named. -/
import Derived.Test.YtelobnllkhnpaaaGreatK7
import Derived.ChangeShapes
set_option linter.unusedVariables false
set_option linter.unusedSimpArgs false
set_option maxHeartbeats 2000000
set_option maxRecDepth 100000
open Go Go.Proofs Go.Ev Go.Proofs.YtelobnllkhnpaaaGreat.E
namespace Go.Proofs.YtelobnllkhnpaaaGreat.L
/-! ### Outs -/
def ouS (h : Heap) (l : List Int) (v : AV) (i : Int) (_ : Unit) : St :=
  { env := [(1, .v (.vs 1 (intsC l))), (5, .v v), (6, .v (.int .i64 i))], loc := [], heap := h, inRound := false, lo := h.length }
def prevI (l : List Int) (i : Nat) : Option Int := if i = 0 then none else l[i - 1]?
set_option maxHeartbeats 30000000 in
theorem outs_run (p : Pr') (l : List Int) (k : Nat) (hk : smsK p.body + l.length + 40 ≤ k) (hl : l.length < 9223372036854775808) (hN : smsN p.body ≤ 600) (hb : prB p) (h : Heap) (lo : Nat) : call Tryz.prog cfg (k + 1) lo (.func 9) [.agg (prC p), .vs 1 (intsC l)] h = some (.bool (outsB p l), h) := by
  have hE := every_run p (k - 1) (by omega) hN hb h h.length
  rw [show k - 1 + 1 = k by omega] at hE
  have hlen := evL_len p.body 0
  unfold outsB
  have hL : every p = evL p.body 0 := rfl
  generalize every p = L at hE hL ⊢
  rw [← hL] at hlen
  obtain ⟨w, vs, body⟩ := p
  dsimp only at hlen hN hk
  have hv : ∃ V, accV 6 (L.map itC) = V ∧ ((L = [] ∧ V = .nils) ∨ V = .vs 6 (L.map itC)) := by
    cases L with
    | nil => exact ⟨_, rfl, .inl ⟨rfl, rfl⟩⟩
    | cons x L => exact ⟨_, rfl, .inr rfl⟩
  obtain ⟨V, hV, hVc⟩ := hv
  rw [hV] at hE
  have hVc' : V = .nils ∨ V = .vs 6 (L.map itC) := by rcases hVc with ⟨_, h⟩ | h <;> simp [h]
  rcases hVc with ⟨hL0, rfl⟩ | rfl
  · subst hL0
    apply W_call Tryz.func9 rfl (Nat.le_of_ble_eq_true rfl) rfl rfl
    (repeat' (first | apply W_seq | refine W_region (id := 0) rfl rfl ?_ | (refine W_ops (id := 1) rfl ?_ <;> refine T_ch 1 rfl ?_ <;> (refine T_go rfl ?_; refine G_op (O_call rfl rfl rfl rfl ‹_›) ?_) <;> refine T_ch 1 rfl ?_ <;> apply T_nil) | refine W_region (id := 2) rfl rfl ?_ | apply W_block))
    apply W_iter (S := ouS h l .nils) (l := l) (a0 := ()) (fun rest _ => rest = l) (by omega) (by omega) rfl rfl
    · intro i x rest a hi hd hil hJ
      have hrow := intsC_gt hi
      have hlt := lt_ints' hil
      have hz : outsF [] none (x :: rest) = false := by
        rw [outsF]
        unfold okAt
        by_cases h0 : x < 0
        · simp [h0]
        · have h1 : x ≥ (0 : Int) := by omega
          simp [h1]
      rw [hJ] at hz
      rw [hz]
      cases c1 : decide (x < 0) with
      | true =>
        (repeat' (first | apply W_seq | refine W_true rfl rfl ?_ | (refine W_ops (id := 3) rfl ?_ <;> refine T_ch 3 rfl ?_ <;> (refine T_go rfl ?_; refine G_true rfl (by with_reducible assumption) ?_) <;> apply T_nil) | (refine W_dops (id := 5) (bs := [0, 0, 3, 7, 15, 31, 63, 63, 255, 511, 63, 1087, 4095, 8191, 16383, 32767, 32767, 32767, 229375, 491519, 1048575, 2097151, 4194303, 8388607, 16777215, 33554431, 67108863, 134217727, 268435455, 536870911, 1073741823, 1073741823, 4294967295, 8589934591, 1073741823, 1073741823, 35433480191, 121332826111, 258771779583, 549755813887, 1099511627775, 2199023255551]) rfl (by decide +kernel) (by decide +kernel) ?_ <;> (refine U_go rfl ?_; refine H_free (by decide +kernel) rfl rfl rfl rfl rfl ?_) <;> (refine U_go rfl ?_; refine H_free (by decide +kernel) rfl rfl rfl rfl rfl ?_) <;> (refine U_go rfl ?_; refine H_op (by decide +kernel) (O_index rfl rfl rfl rfl rfl ‹_›) ?_) <;> (refine U_go rfl ?_; refine H_op (by decide +kernel) rfl ?_) <;> (refine U_go rfl ?_; refine H_true (by decide +kernel) rfl (by with_reducible assumption) ?_) <;> (refine U_go rfl ?_; refine H_op (by decide +kernel) rfl ?_) <;> refine U_skip rfl ?_ <;> refine U_skip rfl ?_ <;> refine U_skip rfl ?_ <;> refine U_skip rfl ?_ <;> refine U_skip rfl ?_ <;> refine U_skip rfl ?_ <;> refine U_skip rfl ?_ <;> (refine U_go rfl ?_; refine H_op (by decide +kernel) rfl ?_) <;> (refine U_go rfl ?_; refine H_op (by decide +kernel) rfl ?_) <;> refine U_skip rfl ?_ <;> refine U_skip rfl ?_ <;> refine U_skip rfl ?_ <;> refine U_skip rfl ?_ <;> refine U_skip rfl ?_ <;> refine U_skip rfl ?_ <;> refine U_skip rfl ?_ <;> refine U_skip rfl ?_ <;> refine U_skip rfl ?_ <;> refine U_skip rfl ?_ <;> (refine U_go rfl ?_; refine H_op (by decide +kernel) rfl ?_) <;> (refine U_go rfl ?_; refine H_op (by decide +kernel) rfl ?_) <;> refine U_skip rfl ?_ <;> refine U_skip rfl ?_ <;> refine U_skip rfl ?_ <;> refine U_skip rfl ?_ <;> refine U_skip rfl ?_ <;> refine U_skip rfl ?_ <;> refine U_skip rfl ?_ <;> refine U_skip rfl ?_ <;> refine U_skip rfl ?_ <;> refine U_skip rfl ?_ <;> refine U_skip rfl ?_ <;> refine U_skip rfl ?_ <;> refine U_skip rfl ?_ <;> refine U_skip rfl ?_ <;> (refine U_go rfl ?_; refine H_op (by decide +kernel) rfl ?_) <;> apply U_nil) | refine W_region (id := 6) rfl rfl ?_ | apply W_skip | apply W_block | apply W_ret))
        exact ⟨.inl rfl, rfl⟩
      | false =>
        have c2 : decide (x ≥ (0 : Int)) = true := by
          have := of_decide_eq_false c1
          exact decide_eq_true (by omega)
        (repeat' (first | apply W_seq | refine W_true rfl rfl ?_ | (refine W_ops (id := 3) rfl ?_ <;> refine T_ch 3 rfl ?_ <;> (refine T_go rfl ?_; refine G_true rfl (by with_reducible assumption) ?_) <;> apply T_nil) | (refine W_dops (id := 5) (bs := [0, 0, 3, 7, 15, 31, 63, 63, 255, 511, 63, 1087, 4095, 8191, 16383, 32767, 32767, 32767, 229375, 491519, 1048575, 2097151, 4194303, 8388607, 16777215, 33554431, 67108863, 134217727, 268435455, 536870911, 1073741823, 1073741823, 4294967295, 8589934591, 1073741823, 1073741823, 35433480191, 121332826111, 258771779583, 549755813887, 1099511627775, 2199023255551]) rfl (by decide +kernel) (by decide +kernel) ?_ <;> (refine U_go rfl ?_; refine H_free (by decide +kernel) rfl rfl rfl rfl rfl ?_) <;> (refine U_go rfl ?_; refine H_free (by decide +kernel) rfl rfl rfl rfl rfl ?_) <;> (refine U_go rfl ?_; refine H_op (by decide +kernel) (O_index rfl rfl rfl rfl rfl ‹_›) ?_) <;> (refine U_go rfl ?_; refine H_op (by decide +kernel) rfl ?_) <;> (refine U_go rfl ?_; refine H_false (by decide +kernel) rfl (by with_reducible assumption) ?_) <;> (refine U_go rfl ?_; refine H_op (by decide +kernel) rfl ?_) <;> (refine U_go rfl ?_; refine H_free (by decide +kernel) rfl rfl rfl rfl rfl ?_) <;> (refine U_go rfl ?_; refine H_free (by decide +kernel) rfl rfl rfl rfl rfl ?_) <;> (refine U_go rfl ?_; refine H_free (by decide +kernel) rfl (O_index rfl rfl rfl rfl rfl ‹_›) rfl rfl rfl ?_) <;> (refine U_go rfl ?_; refine H_free (by decide +kernel) rfl rfl rfl rfl rfl ?_) <;> (refine U_go rfl ?_; refine H_free (by decide +kernel) rfl rfl rfl rfl rfl ?_) <;> (refine U_go rfl ?_; refine H_free (by decide +kernel) rfl rfl rfl rfl rfl ?_) <;> (refine U_go rfl ?_; refine H_true (by decide +kernel) rfl (by with_reducible assumption) ?_) <;> (refine U_go rfl ?_; refine H_op (by decide +kernel) rfl ?_) <;> (refine U_go rfl ?_; refine H_op (by decide +kernel) rfl ?_) <;> refine U_skip rfl ?_ <;> refine U_skip rfl ?_ <;> refine U_skip rfl ?_ <;> refine U_skip rfl ?_ <;> refine U_skip rfl ?_ <;> refine U_skip rfl ?_ <;> refine U_skip rfl ?_ <;> refine U_skip rfl ?_ <;> refine U_skip rfl ?_ <;> refine U_skip rfl ?_ <;> (refine U_go rfl ?_; refine H_op (by decide +kernel) rfl ?_) <;> (refine U_go rfl ?_; refine H_op (by decide +kernel) rfl ?_) <;> refine U_skip rfl ?_ <;> refine U_skip rfl ?_ <;> refine U_skip rfl ?_ <;> refine U_skip rfl ?_ <;> refine U_skip rfl ?_ <;> refine U_skip rfl ?_ <;> refine U_skip rfl ?_ <;> refine U_skip rfl ?_ <;> refine U_skip rfl ?_ <;> refine U_skip rfl ?_ <;> refine U_skip rfl ?_ <;> refine U_skip rfl ?_ <;> refine U_skip rfl ?_ <;> refine U_skip rfl ?_ <;> (refine U_go rfl ?_; refine H_op (by decide +kernel) rfl ?_) <;> apply U_nil) | refine W_region (id := 6) rfl rfl ?_ | apply W_skip | apply W_block | apply W_ret))
        exact ⟨.inl rfl, rfl⟩
    · intro a hJ
      have hlt := ge_ints' (l := l)
      subst hJ
      (repeat' (first | apply W_seq | refine W_false rfl rfl ?_ | (refine W_ops (id := 3) rfl ?_ <;> refine T_ch 3 rfl ?_ <;> (refine T_go rfl ?_; refine G_false rfl rfl ?_) <;> apply T_nil) | refine W_region (id := 7) rfl rfl ?_ | apply W_ret | apply W_exit))
      exact ⟨.inl rfl, rfl⟩
  · apply W_call Tryz.func9 rfl (Nat.le_of_ble_eq_true rfl) rfl rfl
    (repeat' (first | apply W_seq | refine W_region (id := 0) rfl rfl ?_ | (refine W_ops (id := 1) rfl ?_ <;> refine T_ch 1 rfl ?_ <;> (refine T_go rfl ?_; refine G_op (O_call rfl rfl rfl rfl ‹_›) ?_) <;> refine T_ch 1 rfl ?_ <;> apply T_nil) | refine W_region (id := 2) rfl rfl ?_ | apply W_block))
    apply W_iterI (S := ouS h l (.vs 6 (L.map itC))) (l := l) (a0 := ()) (fun i rest _ => outsF L (prevI l i) rest = outsF L none l) (by omega) (by omega) rfl rfl
    · intro i x rest a hi hd hil hJ
      have hrow := intsC_gt hi
      have hlt := lt_ints' hil
      have hst : outsF L (prevI l i) (x :: rest) = (okAt L x && (match prevI l i with | none => true | some y => !decide (x ≤ y)) && outsF L (some x) rest) := rfl
      rw [hst] at hJ
      have hnext : prevI l (i + 1) = some x := by unfold prevI; rw [if_neg (by omega), Nat.add_sub_cancel]; exact hi
      have hcL : ((L.map itC).length : Int) = (L.length : Int) := by rw [List.length_map]
      cases c1 : decide (x < 0) with
      | true =>
        have hz : okAt L x = false := by unfold okAt; rw [c1]; rfl
        rw [hz] at hJ
        (repeat' (first | apply W_seq | refine W_true rfl rfl ?_ | (refine W_ops (id := 3) rfl ?_ <;> refine T_ch 3 rfl ?_ <;> (refine T_go rfl ?_; refine G_true rfl (by with_reducible assumption) ?_) <;> apply T_nil) | (refine W_dops (id := 5) (bs := [0, 0, 3, 7, 15, 31, 63, 63, 255, 511, 63, 1087, 4095, 8191, 16383, 32767, 32767, 32767, 229375, 491519, 1048575, 2097151, 4194303, 8388607, 16777215, 33554431, 67108863, 134217727, 268435455, 536870911, 1073741823, 1073741823, 4294967295, 8589934591, 1073741823, 1073741823, 35433480191, 121332826111, 258771779583, 549755813887, 1099511627775, 2199023255551]) rfl (by decide +kernel) (by decide +kernel) ?_ <;> (refine U_go rfl ?_; refine H_free (by decide +kernel) rfl rfl rfl rfl rfl ?_) <;> (refine U_go rfl ?_; refine H_free (by decide +kernel) rfl rfl rfl rfl rfl ?_) <;> (refine U_go rfl ?_; refine H_op (by decide +kernel) (O_index rfl rfl rfl rfl rfl ‹_›) ?_) <;> (refine U_go rfl ?_; refine H_op (by decide +kernel) rfl ?_) <;> (refine U_go rfl ?_; refine H_true (by decide +kernel) rfl (by with_reducible assumption) ?_) <;> (refine U_go rfl ?_; refine H_op (by decide +kernel) rfl ?_) <;> refine U_skip rfl ?_ <;> refine U_skip rfl ?_ <;> refine U_skip rfl ?_ <;> refine U_skip rfl ?_ <;> refine U_skip rfl ?_ <;> refine U_skip rfl ?_ <;> refine U_skip rfl ?_ <;> (refine U_go rfl ?_; refine H_op (by decide +kernel) rfl ?_) <;> (refine U_go rfl ?_; refine H_op (by decide +kernel) rfl ?_) <;> refine U_skip rfl ?_ <;> refine U_skip rfl ?_ <;> refine U_skip rfl ?_ <;> refine U_skip rfl ?_ <;> refine U_skip rfl ?_ <;> refine U_skip rfl ?_ <;> refine U_skip rfl ?_ <;> refine U_skip rfl ?_ <;> refine U_skip rfl ?_ <;> refine U_skip rfl ?_ <;> (refine U_go rfl ?_; refine H_op (by decide +kernel) rfl ?_) <;> (refine U_go rfl ?_; refine H_op (by decide +kernel) rfl ?_) <;> refine U_skip rfl ?_ <;> refine U_skip rfl ?_ <;> refine U_skip rfl ?_ <;> refine U_skip rfl ?_ <;> refine U_skip rfl ?_ <;> refine U_skip rfl ?_ <;> refine U_skip rfl ?_ <;> refine U_skip rfl ?_ <;> refine U_skip rfl ?_ <;> refine U_skip rfl ?_ <;> refine U_skip rfl ?_ <;> refine U_skip rfl ?_ <;> refine U_skip rfl ?_ <;> refine U_skip rfl ?_ <;> (refine U_go rfl ?_; refine H_op (by decide +kernel) rfl ?_) <;> apply U_nil) | refine W_region (id := 6) rfl rfl ?_ | apply W_skip | apply W_block | apply W_ret))
        exact ⟨.inl rfl, Eq.trans (b := some (AV.bool _, _)) rfl (by rw [← hJ]; rfl)⟩
      | false =>
        cases c2 : decide (x ≥ (L.length : Int)) with
        | true =>
          have hz : okAt L x = false := by unfold okAt; rw [c1, c2]; rfl
          rw [hz] at hJ
          have c2' : decide (x ≥ ((L.map itC).length : Int)) = true := by rw [hcL]; exact c2
          (repeat' (first | apply W_seq | refine W_true rfl rfl ?_ | (refine W_ops (id := 3) rfl ?_ <;> refine T_ch 3 rfl ?_ <;> (refine T_go rfl ?_; refine G_true rfl (by with_reducible assumption) ?_) <;> apply T_nil) | (refine W_dops (id := 5) (bs := [0, 0, 3, 7, 15, 31, 63, 63, 255, 511, 63, 1087, 4095, 8191, 16383, 32767, 32767, 32767, 229375, 491519, 1048575, 2097151, 4194303, 8388607, 16777215, 33554431, 67108863, 134217727, 268435455, 536870911, 1073741823, 1073741823, 4294967295, 8589934591, 1073741823, 1073741823, 35433480191, 121332826111, 258771779583, 549755813887, 1099511627775, 2199023255551]) rfl (by decide +kernel) (by decide +kernel) ?_ <;> (refine U_go rfl ?_; refine H_free (by decide +kernel) rfl rfl rfl rfl rfl ?_) <;> (refine U_go rfl ?_; refine H_free (by decide +kernel) rfl rfl rfl rfl rfl ?_) <;> (refine U_go rfl ?_; refine H_op (by decide +kernel) (O_index rfl rfl rfl rfl rfl ‹_›) ?_) <;> (refine U_go rfl ?_; refine H_op (by decide +kernel) rfl ?_) <;> (refine U_go rfl ?_; refine H_false (by decide +kernel) rfl (by with_reducible assumption) ?_) <;> (refine U_go rfl ?_; refine H_op (by decide +kernel) rfl ?_) <;> (refine U_go rfl ?_; refine H_free (by decide +kernel) rfl rfl rfl rfl rfl ?_) <;> (refine U_go rfl ?_; refine H_free (by decide +kernel) rfl rfl rfl rfl rfl ?_) <;> (refine U_go rfl ?_; refine H_free (by decide +kernel) rfl (O_index rfl rfl rfl rfl rfl ‹_›) rfl rfl rfl ?_) <;> (refine U_go rfl ?_; refine H_free (by decide +kernel) rfl rfl rfl rfl rfl ?_) <;> (refine U_go rfl ?_; refine H_free (by decide +kernel) rfl rfl rfl rfl rfl ?_) <;> (refine U_go rfl ?_; refine H_free (by decide +kernel) rfl rfl rfl rfl rfl ?_) <;> (refine U_go rfl ?_; refine H_true (by decide +kernel) rfl (by with_reducible assumption) ?_) <;> (refine U_go rfl ?_; refine H_op (by decide +kernel) rfl ?_) <;> (refine U_go rfl ?_; refine H_op (by decide +kernel) rfl ?_) <;> refine U_skip rfl ?_ <;> refine U_skip rfl ?_ <;> refine U_skip rfl ?_ <;> refine U_skip rfl ?_ <;> refine U_skip rfl ?_ <;> refine U_skip rfl ?_ <;> refine U_skip rfl ?_ <;> refine U_skip rfl ?_ <;> refine U_skip rfl ?_ <;> refine U_skip rfl ?_ <;> (refine U_go rfl ?_; refine H_op (by decide +kernel) rfl ?_) <;> (refine U_go rfl ?_; refine H_op (by decide +kernel) rfl ?_) <;> refine U_skip rfl ?_ <;> refine U_skip rfl ?_ <;> refine U_skip rfl ?_ <;> refine U_skip rfl ?_ <;> refine U_skip rfl ?_ <;> refine U_skip rfl ?_ <;> refine U_skip rfl ?_ <;> refine U_skip rfl ?_ <;> refine U_skip rfl ?_ <;> refine U_skip rfl ?_ <;> refine U_skip rfl ?_ <;> refine U_skip rfl ?_ <;> refine U_skip rfl ?_ <;> refine U_skip rfl ?_ <;> (refine U_go rfl ?_; refine H_op (by decide +kernel) rfl ?_) <;> apply U_nil) | refine W_region (id := 6) rfl rfl ?_ | apply W_skip | apply W_block | apply W_ret))
          exact ⟨.inl rfl, Eq.trans (b := some (AV.bool _, _)) rfl (by rw [← hJ]; rfl)⟩
        | false =>
          have c2' : decide (x ≥ ((L.map itC).length : Int)) = false := by rw [hcL]; exact c2
          have x0 : 0 ≤ x := by have := of_decide_eq_false c1; omega
          have x1 : x.toNat < L.length := by have := of_decide_eq_false c2; omega
          obtain ⟨y, hy⟩ : ∃ y, L[x.toNat]? = some y := ⟨_, List.getElem?_eq_getElem x1⟩
          obtain ⟨m, ⟨op, nn, ar, t, el⟩⟩ := y
          have hrow2 : 0 ≤ x ∧ (L.map itC)[x.toNat]? = some (itC (m, .mk op nn ar t el)) := ⟨x0, by rw [List.getElem?_map, hy]; rfl⟩
          have hz : okAt L x = !(op != 3) := by unfold okAt; rw [c1, c2, hy]; rfl
          rw [hz] at hJ
          cases c3 : (op != 3) with
          | true =>
            rw [c3] at hJ
            (repeat' (first | apply W_seq | refine W_true rfl rfl ?_ | (refine W_ops (id := 3) rfl ?_ <;> refine T_ch 3 rfl ?_ <;> (refine T_go rfl ?_; refine G_true rfl (by with_reducible assumption) ?_) <;> apply T_nil) | (refine W_dops (id := 5) (bs := [0, 0, 3, 7, 15, 31, 63, 63, 255, 511, 63, 1087, 4095, 8191, 16383, 32767, 32767, 32767, 229375, 491519, 1048575, 2097151, 4194303, 8388607, 16777215, 33554431, 67108863, 134217727, 268435455, 536870911, 1073741823, 1073741823, 4294967295, 8589934591, 1073741823, 1073741823, 35433480191, 121332826111, 258771779583, 549755813887, 1099511627775, 2199023255551]) rfl (by decide +kernel) (by decide +kernel) ?_ <;> (refine U_go rfl ?_; refine H_free (by decide +kernel) rfl rfl rfl rfl rfl ?_) <;> (refine U_go rfl ?_; refine H_free (by decide +kernel) rfl rfl rfl rfl rfl ?_) <;> (refine U_go rfl ?_; refine H_op (by decide +kernel) (O_index rfl rfl rfl rfl rfl ‹_›) ?_) <;> (refine U_go rfl ?_; refine H_op (by decide +kernel) rfl ?_) <;> (refine U_go rfl ?_; refine H_false (by decide +kernel) rfl (by with_reducible assumption) ?_) <;> (refine U_go rfl ?_; refine H_op (by decide +kernel) rfl ?_) <;> (refine U_go rfl ?_; refine H_free (by decide +kernel) rfl rfl rfl rfl rfl ?_) <;> (refine U_go rfl ?_; refine H_free (by decide +kernel) rfl rfl rfl rfl rfl ?_) <;> (refine U_go rfl ?_; refine H_free (by decide +kernel) rfl (O_index rfl rfl rfl rfl rfl ‹_›) rfl rfl rfl ?_) <;> (refine U_go rfl ?_; refine H_free (by decide +kernel) rfl rfl rfl rfl rfl ?_) <;> (refine U_go rfl ?_; refine H_free (by decide +kernel) rfl rfl rfl rfl rfl ?_) <;> (refine U_go rfl ?_; refine H_free (by decide +kernel) rfl rfl rfl rfl rfl ?_) <;> (refine U_go rfl ?_; refine H_false (by decide +kernel) rfl (by with_reducible assumption) ?_) <;> (refine U_go rfl ?_; refine H_op (by decide +kernel) rfl ?_) <;> (refine U_go rfl ?_; refine H_op (by decide +kernel) rfl ?_) <;> (refine U_go rfl ?_; refine H_free (by decide +kernel) rfl rfl rfl rfl rfl ?_) <;> (refine U_go rfl ?_; refine H_free (by decide +kernel) rfl rfl rfl rfl rfl ?_) <;> (refine U_go rfl ?_; refine H_free (by decide +kernel) rfl rfl rfl rfl rfl ?_) <;> (refine U_go rfl ?_; refine H_free (by decide +kernel) rfl (O_index rfl rfl rfl rfl rfl ‹_›) rfl rfl rfl ?_) <;> (refine U_go rfl ?_; refine H_free (by decide +kernel) rfl rfl rfl rfl rfl ?_) <;> (refine U_go rfl ?_; refine H_op (by decide +kernel) (O_indexI rfl rfl rfl rfl rfl ‹_›) ?_) <;> (refine U_go rfl ?_; refine H_op (by decide +kernel) rfl ?_) <;> (refine U_go rfl ?_; refine H_op (by decide +kernel) rfl ?_) <;> (refine U_go rfl ?_; refine H_op (by decide +kernel) rfl ?_) <;> (refine U_go rfl ?_; refine H_true (by decide +kernel) rfl (by with_reducible assumption) ?_) <;> (refine U_go rfl ?_; refine H_op (by decide +kernel) rfl ?_) <;> (refine U_go rfl ?_; refine H_op (by decide +kernel) rfl ?_) <;> refine U_skip rfl ?_ <;> refine U_skip rfl ?_ <;> refine U_skip rfl ?_ <;> refine U_skip rfl ?_ <;> refine U_skip rfl ?_ <;> refine U_skip rfl ?_ <;> refine U_skip rfl ?_ <;> refine U_skip rfl ?_ <;> refine U_skip rfl ?_ <;> refine U_skip rfl ?_ <;> refine U_skip rfl ?_ <;> refine U_skip rfl ?_ <;> refine U_skip rfl ?_ <;> refine U_skip rfl ?_ <;> (refine U_go rfl ?_; refine H_op (by decide +kernel) rfl ?_) <;> apply U_nil) | refine W_region (id := 6) rfl rfl ?_ | apply W_skip | apply W_block | apply W_ret))
            exact ⟨.inl rfl, Eq.trans (b := some (AV.bool _, _)) rfl (by rw [← hJ]; rfl)⟩
          | false =>
            rw [c3] at hJ
            cases i with
            | zero =>
              have hp : prevI l 0 = none := rfl
              rw [hp] at hJ
              (repeat' (first | apply W_seq | refine W_true rfl rfl ?_ | refine W_false rfl rfl ?_ | (refine W_ops (id := 3) rfl ?_ <;> refine T_ch 3 rfl ?_ <;> (refine T_go rfl ?_; refine G_true rfl (by with_reducible assumption) ?_) <;> apply T_nil) | refine W_region (id := 4) rfl rfl ?_ | (refine W_dops (id := 5) (bs := [0, 0, 3, 7, 15, 31, 63, 63, 255, 511, 63, 1087, 4095, 8191, 16383, 32767, 32767, 32767, 229375, 491519, 1048575, 2097151, 4194303, 8388607, 16777215, 33554431, 67108863, 134217727, 268435455, 536870911, 1073741823, 1073741823, 4294967295, 8589934591, 1073741823, 1073741823, 35433480191, 121332826111, 258771779583, 549755813887, 1099511627775, 2199023255551]) rfl (by decide +kernel) (by decide +kernel) ?_ <;> (refine U_go rfl ?_; refine H_free (by decide +kernel) rfl rfl rfl rfl rfl ?_) <;> (refine U_go rfl ?_; refine H_free (by decide +kernel) rfl rfl rfl rfl rfl ?_) <;> (refine U_go rfl ?_; refine H_op (by decide +kernel) (O_index rfl rfl rfl rfl rfl ‹_›) ?_) <;> (refine U_go rfl ?_; refine H_op (by decide +kernel) rfl ?_) <;> (refine U_go rfl ?_; refine H_false (by decide +kernel) rfl (by with_reducible assumption) ?_) <;> (refine U_go rfl ?_; refine H_op (by decide +kernel) rfl ?_) <;> (refine U_go rfl ?_; refine H_free (by decide +kernel) rfl rfl rfl rfl rfl ?_) <;> (refine U_go rfl ?_; refine H_free (by decide +kernel) rfl rfl rfl rfl rfl ?_) <;> (refine U_go rfl ?_; refine H_free (by decide +kernel) rfl (O_index rfl rfl rfl rfl rfl ‹_›) rfl rfl rfl ?_) <;> (refine U_go rfl ?_; refine H_free (by decide +kernel) rfl rfl rfl rfl rfl ?_) <;> (refine U_go rfl ?_; refine H_free (by decide +kernel) rfl rfl rfl rfl rfl ?_) <;> (refine U_go rfl ?_; refine H_free (by decide +kernel) rfl rfl rfl rfl rfl ?_) <;> (refine U_go rfl ?_; refine H_false (by decide +kernel) rfl (by with_reducible assumption) ?_) <;> (refine U_go rfl ?_; refine H_op (by decide +kernel) rfl ?_) <;> (refine U_go rfl ?_; refine H_op (by decide +kernel) rfl ?_) <;> (refine U_go rfl ?_; refine H_free (by decide +kernel) rfl rfl rfl rfl rfl ?_) <;> (refine U_go rfl ?_; refine H_free (by decide +kernel) rfl rfl rfl rfl rfl ?_) <;> (refine U_go rfl ?_; refine H_free (by decide +kernel) rfl rfl rfl rfl rfl ?_) <;> (refine U_go rfl ?_; refine H_free (by decide +kernel) rfl (O_index rfl rfl rfl rfl rfl ‹_›) rfl rfl rfl ?_) <;> (refine U_go rfl ?_; refine H_free (by decide +kernel) rfl rfl rfl rfl rfl ?_) <;> (refine U_go rfl ?_; refine H_op (by decide +kernel) (O_indexI rfl rfl rfl rfl rfl ‹_›) ?_) <;> (refine U_go rfl ?_; refine H_op (by decide +kernel) rfl ?_) <;> (refine U_go rfl ?_; refine H_op (by decide +kernel) rfl ?_) <;> (refine U_go rfl ?_; refine H_op (by decide +kernel) rfl ?_) <;> (refine U_go rfl ?_; refine H_false (by decide +kernel) rfl (by with_reducible assumption) ?_) <;> (refine U_go rfl ?_; refine H_op (by decide +kernel) rfl ?_) <;> (refine U_go rfl ?_; refine H_op (by decide +kernel) rfl ?_) <;> (refine U_go rfl ?_; refine H_op (by decide +kernel) rfl ?_) <;> (refine U_go rfl ?_; refine H_false (by decide +kernel) rfl rfl ?_) <;> (refine U_go rfl ?_; refine H_op (by decide +kernel) rfl ?_) <;> refine U_skip rfl ?_ <;> refine U_skip rfl ?_ <;> refine U_skip rfl ?_ <;> refine U_skip rfl ?_ <;> refine U_skip rfl ?_ <;> refine U_skip rfl ?_ <;> refine U_skip rfl ?_ <;> refine U_skip rfl ?_ <;> refine U_skip rfl ?_ <;> refine U_skip rfl ?_ <;> (refine U_go rfl ?_; refine H_op (by decide +kernel) rfl ?_) <;> (refine U_go rfl ?_; refine H_op (by decide +kernel) rfl ?_) <;> apply U_nil) | apply W_skip | apply W_block))
              exact ⟨(), rfl, by rw [hnext]; simpa using hJ⟩
            | succ i =>
              obtain ⟨z, hz⟩ : ∃ z, l[i]? = some z := ⟨_, List.getElem?_eq_getElem (show i < l.length by omega)⟩
              have hp : prevI l (i + 1) = some z := by unfold prevI; rw [if_neg (by omega), Nat.add_sub_cancel]; exact hz
              rw [hp] at hJ
              dsimp only at hJ
              have hw : IntKind.i64.wrap (((i + 1 : Nat) : Int) - 1) = (i : Int) := by rw [wrap_i64 (by omega) (by omega)]; omega
              have hrow3 : 0 ≤ IntKind.i64.wrap (((i + 1 : Nat) : Int) - 1) ∧ (intsC l)[(IntKind.i64.wrap (((i + 1 : Nat) : Int) - 1)).toNat]? = some [.int .i64 z] := by
                rw [hw]; exact ⟨by omega, by simpa using intsC_gt hz⟩
              have ci : decide (((i + 1 : Nat) : Int) > 0) = true := decide_eq_true (by omega)
              cases c5 : decide (x ≤ z) with
              | true =>
                rw [c5] at hJ
                (repeat' (first | apply W_seq | refine W_true rfl rfl ?_ | (refine W_ops (id := 3) rfl ?_ <;> refine T_ch 3 rfl ?_ <;> (refine T_go rfl ?_; refine G_true rfl (by with_reducible assumption) ?_) <;> apply T_nil) | (refine W_dops (id := 5) (bs := [0, 0, 3, 7, 15, 31, 63, 63, 255, 511, 63, 1087, 4095, 8191, 16383, 32767, 32767, 32767, 229375, 491519, 1048575, 2097151, 4194303, 8388607, 16777215, 33554431, 67108863, 134217727, 268435455, 536870911, 1073741823, 1073741823, 4294967295, 8589934591, 1073741823, 1073741823, 35433480191, 121332826111, 258771779583, 549755813887, 1099511627775, 2199023255551]) rfl (by decide +kernel) (by decide +kernel) ?_ <;> (refine U_go rfl ?_; refine H_free (by decide +kernel) rfl rfl rfl rfl rfl ?_) <;> (refine U_go rfl ?_; refine H_free (by decide +kernel) rfl rfl rfl rfl rfl ?_) <;> (refine U_go rfl ?_; refine H_op (by decide +kernel) (O_index rfl rfl rfl rfl rfl ‹_›) ?_) <;> (refine U_go rfl ?_; refine H_op (by decide +kernel) rfl ?_) <;> (refine U_go rfl ?_; refine H_false (by decide +kernel) rfl (by with_reducible assumption) ?_) <;> (refine U_go rfl ?_; refine H_op (by decide +kernel) rfl ?_) <;> (refine U_go rfl ?_; refine H_free (by decide +kernel) rfl rfl rfl rfl rfl ?_) <;> (refine U_go rfl ?_; refine H_free (by decide +kernel) rfl rfl rfl rfl rfl ?_) <;> (refine U_go rfl ?_; refine H_free (by decide +kernel) rfl (O_index rfl rfl rfl rfl rfl ‹_›) rfl rfl rfl ?_) <;> (refine U_go rfl ?_; refine H_free (by decide +kernel) rfl rfl rfl rfl rfl ?_) <;> (refine U_go rfl ?_; refine H_free (by decide +kernel) rfl rfl rfl rfl rfl ?_) <;> (refine U_go rfl ?_; refine H_free (by decide +kernel) rfl rfl rfl rfl rfl ?_) <;> (refine U_go rfl ?_; refine H_false (by decide +kernel) rfl (by with_reducible assumption) ?_) <;> (refine U_go rfl ?_; refine H_op (by decide +kernel) rfl ?_) <;> (refine U_go rfl ?_; refine H_op (by decide +kernel) rfl ?_) <;> (refine U_go rfl ?_; refine H_free (by decide +kernel) rfl rfl rfl rfl rfl ?_) <;> (refine U_go rfl ?_; refine H_free (by decide +kernel) rfl rfl rfl rfl rfl ?_) <;> (refine U_go rfl ?_; refine H_free (by decide +kernel) rfl rfl rfl rfl rfl ?_) <;> (refine U_go rfl ?_; refine H_free (by decide +kernel) rfl (O_index rfl rfl rfl rfl rfl ‹_›) rfl rfl rfl ?_) <;> (refine U_go rfl ?_; refine H_free (by decide +kernel) rfl rfl rfl rfl rfl ?_) <;> (refine U_go rfl ?_; refine H_op (by decide +kernel) (O_indexI rfl rfl rfl rfl rfl ‹_›) ?_) <;> (refine U_go rfl ?_; refine H_op (by decide +kernel) rfl ?_) <;> (refine U_go rfl ?_; refine H_op (by decide +kernel) rfl ?_) <;> (refine U_go rfl ?_; refine H_op (by decide +kernel) rfl ?_) <;> (refine U_go rfl ?_; refine H_false (by decide +kernel) rfl (by with_reducible assumption) ?_) <;> (refine U_go rfl ?_; refine H_op (by decide +kernel) rfl ?_) <;> (refine U_go rfl ?_; refine H_op (by decide +kernel) rfl ?_) <;> (refine U_go rfl ?_; refine H_op (by decide +kernel) rfl ?_) <;> (refine U_go rfl ?_; refine H_true (by decide +kernel) rfl (by with_reducible assumption) ?_) <;> (refine U_go rfl ?_; refine H_op (by decide +kernel) rfl ?_) <;> (refine U_go rfl ?_; refine H_free (by decide +kernel) rfl rfl rfl rfl rfl ?_) <;> (refine U_go rfl ?_; refine H_free (by decide +kernel) rfl rfl rfl rfl rfl ?_) <;> (refine U_go rfl ?_; refine H_free (by decide +kernel) rfl (O_index rfl rfl rfl rfl rfl ‹_›) rfl rfl rfl ?_) <;> (refine U_go rfl ?_; refine H_free (by decide +kernel) rfl rfl rfl rfl rfl ?_) <;> (refine U_go rfl ?_; refine H_free (by decide +kernel) rfl rfl rfl rfl rfl ?_) <;> (refine U_go rfl ?_; refine H_free (by decide +kernel) rfl rfl rfl rfl rfl ?_) <;> (refine U_go rfl ?_; refine H_free (by decide +kernel) rfl rfl rfl rfl rfl ?_) <;> (refine U_go rfl ?_; refine H_free (by decide +kernel) rfl (O_indexI rfl rfl rfl rfl rfl ‹_›) rfl rfl rfl ?_) <;> (refine U_go rfl ?_; refine H_free (by decide +kernel) rfl rfl rfl rfl rfl ?_) <;> (refine U_go rfl ?_; refine H_true (by decide +kernel) rfl (by with_reducible assumption) ?_) <;> (refine U_go rfl ?_; refine H_op (by decide +kernel) rfl ?_) <;> (refine U_go rfl ?_; refine H_op (by decide +kernel) rfl ?_) <;> apply U_nil) | refine W_region (id := 6) rfl rfl ?_ | apply W_skip | apply W_block | apply W_ret))
                exact ⟨.inl rfl, Eq.trans (b := some (AV.bool _, _)) rfl (by rw [← hJ]; rfl)⟩
              | false =>
                rw [c5] at hJ
                (repeat' (first | apply W_seq | refine W_true rfl rfl ?_ | refine W_false rfl rfl ?_ | (refine W_ops (id := 3) rfl ?_ <;> refine T_ch 3 rfl ?_ <;> (refine T_go rfl ?_; refine G_true rfl (by with_reducible assumption) ?_) <;> apply T_nil) | refine W_region (id := 4) rfl rfl ?_ | (refine W_dops (id := 5) (bs := [0, 0, 3, 7, 15, 31, 63, 63, 255, 511, 63, 1087, 4095, 8191, 16383, 32767, 32767, 32767, 229375, 491519, 1048575, 2097151, 4194303, 8388607, 16777215, 33554431, 67108863, 134217727, 268435455, 536870911, 1073741823, 1073741823, 4294967295, 8589934591, 1073741823, 1073741823, 35433480191, 121332826111, 258771779583, 549755813887, 1099511627775, 2199023255551]) rfl (by decide +kernel) (by decide +kernel) ?_ <;> (refine U_go rfl ?_; refine H_free (by decide +kernel) rfl rfl rfl rfl rfl ?_) <;> (refine U_go rfl ?_; refine H_free (by decide +kernel) rfl rfl rfl rfl rfl ?_) <;> (refine U_go rfl ?_; refine H_op (by decide +kernel) (O_index rfl rfl rfl rfl rfl ‹_›) ?_) <;> (refine U_go rfl ?_; refine H_op (by decide +kernel) rfl ?_) <;> (refine U_go rfl ?_; refine H_false (by decide +kernel) rfl (by with_reducible assumption) ?_) <;> (refine U_go rfl ?_; refine H_op (by decide +kernel) rfl ?_) <;> (refine U_go rfl ?_; refine H_free (by decide +kernel) rfl rfl rfl rfl rfl ?_) <;> (refine U_go rfl ?_; refine H_free (by decide +kernel) rfl rfl rfl rfl rfl ?_) <;> (refine U_go rfl ?_; refine H_free (by decide +kernel) rfl (O_index rfl rfl rfl rfl rfl ‹_›) rfl rfl rfl ?_) <;> (refine U_go rfl ?_; refine H_free (by decide +kernel) rfl rfl rfl rfl rfl ?_) <;> (refine U_go rfl ?_; refine H_free (by decide +kernel) rfl rfl rfl rfl rfl ?_) <;> (refine U_go rfl ?_; refine H_free (by decide +kernel) rfl rfl rfl rfl rfl ?_) <;> (refine U_go rfl ?_; refine H_false (by decide +kernel) rfl (by with_reducible assumption) ?_) <;> (refine U_go rfl ?_; refine H_op (by decide +kernel) rfl ?_) <;> (refine U_go rfl ?_; refine H_op (by decide +kernel) rfl ?_) <;> (refine U_go rfl ?_; refine H_free (by decide +kernel) rfl rfl rfl rfl rfl ?_) <;> (refine U_go rfl ?_; refine H_free (by decide +kernel) rfl rfl rfl rfl rfl ?_) <;> (refine U_go rfl ?_; refine H_free (by decide +kernel) rfl rfl rfl rfl rfl ?_) <;> (refine U_go rfl ?_; refine H_free (by decide +kernel) rfl (O_index rfl rfl rfl rfl rfl ‹_›) rfl rfl rfl ?_) <;> (refine U_go rfl ?_; refine H_free (by decide +kernel) rfl rfl rfl rfl rfl ?_) <;> (refine U_go rfl ?_; refine H_op (by decide +kernel) (O_indexI rfl rfl rfl rfl rfl ‹_›) ?_) <;> (refine U_go rfl ?_; refine H_op (by decide +kernel) rfl ?_) <;> (refine U_go rfl ?_; refine H_op (by decide +kernel) rfl ?_) <;> (refine U_go rfl ?_; refine H_op (by decide +kernel) rfl ?_) <;> (refine U_go rfl ?_; refine H_false (by decide +kernel) rfl (by with_reducible assumption) ?_) <;> (refine U_go rfl ?_; refine H_op (by decide +kernel) rfl ?_) <;> (refine U_go rfl ?_; refine H_op (by decide +kernel) rfl ?_) <;> (refine U_go rfl ?_; refine H_op (by decide +kernel) rfl ?_) <;> (refine U_go rfl ?_; refine H_true (by decide +kernel) rfl (by with_reducible assumption) ?_) <;> (refine U_go rfl ?_; refine H_op (by decide +kernel) rfl ?_) <;> (refine U_go rfl ?_; refine H_free (by decide +kernel) rfl rfl rfl rfl rfl ?_) <;> (refine U_go rfl ?_; refine H_free (by decide +kernel) rfl rfl rfl rfl rfl ?_) <;> (refine U_go rfl ?_; refine H_free (by decide +kernel) rfl (O_index rfl rfl rfl rfl rfl ‹_›) rfl rfl rfl ?_) <;> (refine U_go rfl ?_; refine H_free (by decide +kernel) rfl rfl rfl rfl rfl ?_) <;> (refine U_go rfl ?_; refine H_free (by decide +kernel) rfl rfl rfl rfl rfl ?_) <;> (refine U_go rfl ?_; refine H_free (by decide +kernel) rfl rfl rfl rfl rfl ?_) <;> (refine U_go rfl ?_; refine H_free (by decide +kernel) rfl rfl rfl rfl rfl ?_) <;> (refine U_go rfl ?_; refine H_free (by decide +kernel) rfl (O_indexI rfl rfl rfl rfl rfl ‹_›) rfl rfl rfl ?_) <;> (refine U_go rfl ?_; refine H_free (by decide +kernel) rfl rfl rfl rfl rfl ?_) <;> (refine U_go rfl ?_; refine H_false (by decide +kernel) rfl (by with_reducible assumption) ?_) <;> (refine U_go rfl ?_; refine H_op (by decide +kernel) rfl ?_) <;> (refine U_go rfl ?_; refine H_op (by decide +kernel) rfl ?_) <;> apply U_nil) | apply W_skip | apply W_block))
                exact ⟨(), rfl, by rw [hnext]; simpa using hJ⟩
    · intro a hJ
      have hlt := ge_ints' (l := l)
      (repeat' (first | apply W_seq | refine W_false rfl rfl ?_ | (refine W_ops (id := 3) rfl ?_ <;> refine T_ch 3 rfl ?_ <;> (refine T_go rfl ?_; refine G_false rfl (by with_reducible assumption) ?_) <;> apply T_nil) | refine W_region (id := 7) rfl rfl ?_ | apply W_ret | apply W_exit))
      exact ⟨.inl rfl, Eq.trans (b := some (AV.bool _, _)) rfl (by rw [← hJ]; rfl)⟩
/- Releases: level.Released, walked. -/
theorem progOkF : progOk Tryz.prog = true ∧ Tryz.prog.follows .mixedOrders = true ∧ ∀ t, t ∈ cfg.eqs → EqOk Tryz.prog t := by
  have := sound.ok
  unfold cfgOk at this
  simp only [Bool.and_eq_true] at this
  exact ⟨this.1.1, this.1.2, fun t ht => eqOkB_ok (List.all_eq_true.1 this.2 t ht)⟩
theorem hypF (k : Nat) : Hyp Tryz.prog cfgF (call Tryz.prog cfg k) := ⟨sound.tab, progOkF.2.2, sound.all k⟩
abbrev CA (l : List Int) : HObj := .cells 26 [.vs 1 (intsC l)]
abbrev CSm (x : AV) : HObj := .cells 76 [x]
def zc11 : List AV := [.int .i64 0, .int .i64 0, .int .i64 0, .int .i64 0, .nils, .int .i64 0, .int .i64 0, .int .i64 0, .nils, .int .i64 0, .int .i64 0]
def relS1 (h : Heap) (p : Pr') (low : Int) (at_ : List Int) (n : Int) : St :=
  { env := [(3, .p 3 0), (4, .v (.hp h.length 1 0)), (5, .v (.hp (h ++ [CN low]).length 1 0)), (6, .p 6 0), (35, .v (.vs 1 (intsC at_))), (36, .v (.int .i64 (intsC at_).length)), (37, .v (.int .i64 n))],
    loc := [(3, prC p), (6, zc11)], heap := h ++ [CN low] ++ [CA at_], inRound := false, lo := h.length }
abbrev H2 (h : Heap) (low : Int) (at_ : List Int) : Heap := h ++ [CN low] ++ [CA at_]
abbrev H13 (h : Heap) (low : Int) (at_ : List Int) : Heap := ((H2 h low at_ ++ [HObj.map []]) ++ [CSm .nilm]).set (H2 h low at_ ++ [HObj.map []]).length (CSm (.mp (H2 h low at_).length))
theorem both_len : ∀ (xs : List Ex') (e : Ex'), xs.length + exK e ≤ exK (xs.foldl bothE e)
  | [], e => by simp
  | x :: xs, e => by
    have := both_len xs (bothE e x)
    rw [List.foldl_cons, List.length_cons]
    have h2 : exK e + 1 ≤ exK (bothE e x) := by simp only [bothE, exK, exsK]; omega
    omega
theorem preE_len (vs : List Vr') (low : Int) (l : List Int) (xs : List Ex') : xs.length ≤ exK (preE vs low l xs) := by
  have := both_len xs (halfE vs low l)
  unfold preE
  omega
set_option maxHeartbeats 40000000 in
theorem released_at (p : Pr') (low : Int) (at_ : List Int) (hP : isP p = true) (hS : singleR p = true) (hN : smsN p.body ≤ 600) (hsk : smsK p.body ≤ 6100) (hb : prB p) (hl1 : decide (low < 0) = false) (hl2 : decide (low > 15) = false) (hal : at_.length < 9223372036854775808)
    (hats : atsF p none at_ = true → at_.length ≤ 1000) (hatB : ∀ x s, atF p x = some s → 0 ≤ x ∧ x < 600) (hX1 : atsF p none at_ = true → exK (preE p.vars low (levs p) (relX p low at_).2) ≤ 50000) (hX2 : atsF p none at_ = true → exB (preE p.vars low (levs p) (relX p low at_).2))
    (hX3 : exK (halfE p.vars low (lastP p)) ≤ 2000) (hX4 : exB (halfE p.vars low (lastP p))) (hvc : ∀ v, v ∈ p.vars → 1 ≤ v.cells ∧ v.cells ≤ 8) (hX5 : exK (halfE p.vars low (levs p)) ≤ 2000) (h : Heap) (lo : Nat) :
    SoundAt Tryz.prog lo 7 [.agg (prC p), .int .i64 low, .vs 1 (intsC at_)] h (relV p low at_) h := by
  have hH := hypF 60000
  have hD := draws_sound progOkF.2.1 hH
  have hF := ranges_sound hH
  obtain ⟨_, hv1, hv2⟩ := isP_head hP
  have hvm := rows_vm _ (isP_rows hP)
  have hB := levs_B hP hS
  have hf : faultI p = 0 := by unfold faultI; rw [hP, hS]; rfl
  have hchk := chk_eq p hN
  rw [hf] at hchk
  have hok : okP p = true := by
    unfold chkI at hchk
    cases hh : okP p with
    | true => rfl
    | false => rw [hh] at hchk; simp at hchk
  have hC := levcheck_run p 59999 (by omega) hb (H2 h low at_) h.length
  rw [hchk] at hC
  have hAt := fun x => at_run p x hok (by omega) 59999 (by omega) (by omega) hb (H2 h low at_) h.length
  have hr : relV p low at_ = if atsF p none at_ = true then relT p low at_ else .tup [.agg zC, .bool false, .int .i64 1] := rfl
  have hloA : h.length ≤ (h ++ [CN low]).length := by simp
  have gC4 : (H2 h low at_)[h.length]? = some (CN low) := by simp [H2]
  have gC5 : (H2 h low at_)[(h ++ [CN low]).length]? = some (CA at_) := by simp [H2]
  -- behind the loop
  have rest : atsF p none at_ = true → ∀ (n : Int), Does Tryz.prog Tryz.f7.ntmps
      (match Tryz.f7.body with
        | some (.seq _ (.seq _ (.seq _ (.seq _ y)))) => y
        | _ => .skip) { relS1 h p low at_ n with env := (38, .v (.bool false)) :: (relS1 h p low at_ n).env } (fun e s1 => (e = .ret ∨ e = .normal) ∧ finish cfgF Tryz.f7 7 h s1 = some (relV p low at_, h)) := by
    intro hall n
    rw [if_pos hall] at hr
    have hatl := hats hall
    have hx1 := hX1 hall
    have hx2 := hX2 hall
    have hlast : (lastP p).length = p.vars.length := (mvL_ok (mvP_ok p.vars.length) p.body (levs p) 0 (levs_len p) hB lvB0 hvm).1
    have hlevl := levs_len p
    have hne := levs_ne (p := p) hv1
    have hL := fun H L => levels_run p 59999 (by omega) (by omega) H L
    rw [accV_ne hne] at hL
    have hlo13 : h.length ≤ (H2 h low at_ ++ [HObj.map []]).length := by first | (simp [H2]; done) | (simp [H2]; omega)
    have g13 : ((H2 h low at_ ++ [HObj.map []]) ++ [CSm .nilm])[(H2 h low at_ ++ [HObj.map []]).length]? = some (CSm .nilm) := by simp
    have hl13 : (H13 h low at_).length = h.length + 4 := by simp [H13, H2]
    obtain ⟨tail, hT⟩ := targets_run p hb hok (by omega) 59999 (by omega) (by omega) (H13 h low at_) h.length (by omega)
    have k4 : ∀ l, ((H13 h low at_ ++ [HObj.map (mapC (tgt p))] ++ tail).set (H2 h low at_).length (.map (setB l)))[h.length]? = some (CN low) := fun l => by
      rw [List.getElem?_set_ne (by first | (simp [H2]; done) | (simp [H2]; omega))]; simp [H13, H2, List.getElem?_append, List.getElem?_set]
    have k5 : ∀ l, ((H13 h low at_ ++ [HObj.map (mapC (tgt p))] ++ tail).set (H2 h low at_).length (.map (setB l)))[(h ++ [CN low]).length]? = some (CA at_) := fun l => by
      rw [List.getElem?_set_ne (by simp [H2])]; simp [H13, H2, List.getElem?_append, List.getElem?_set]
    have kS : ∀ l, ((H13 h low at_ ++ [HObj.map (mapC (tgt p))] ++ tail).set (H2 h low at_).length (.map (setB l)))[(H2 h low at_).length]? = some (.map (setB l)) := fun l => by
      rw [List.getElem?_set_self (by simp [H2])]
    have k14 : ∀ l, ((H13 h low at_ ++ [HObj.map (mapC (tgt p))] ++ tail).set (H2 h low at_).length (.map (setB l)))[(H2 h low at_ ++ [HObj.map []]).length]? = some (CSm (.mp (H2 h low at_).length)) := fun l => by
      rw [List.getElem?_set_ne (by simp)]; simp [H13, H2, List.getElem?_append, List.getElem?_set]
    have kl : ∀ l, h.length + 4 ≤ ((H13 h low at_ ++ [HObj.map (mapC (tgt p))] ++ tail).set (H2 h low at_).length (.map (setB l))).length := fun l => by rw [List.length_set, List.length_append, List.length_append, hl13]; omega
    have qM : (H13 h low at_ ++ [HObj.map (mapC (tgt p))] ++ tail)[(H13 h low at_).length]? = some (.map (mapI (tgt p))) := by
      rw [List.getElem?_append_left (by simp), List.getElem?_append_right (Nat.le_refl _)]; simp [mapC, mapI]
    have qS : (H13 h low at_ ++ [HObj.map (mapC (tgt p))] ++ tail)[(H2 h low at_).length]? = some (.map (setB [])) := by
      simp [H13, H2, List.getElem?_append, List.getElem?_set, setB]
    have hXq : ∀ l, (∀ v, v ∈ l ↔ ∃ k, (k, v) ∈ tgt p) → (spL putP ofH (updR low at_ l) p.body (levs p) 0 (true, []) 0).1 = relX p low at_ := fun l hl => by rw [updR_Q hN hl]; rfl
    have hsc := scs_le p.body
    have hrT : relT p low at_ = if (relX p low at_).1 = true then .tup [.agg (relC p low (relX p low at_).2).1, .bool ((relC p low (relX p low at_).2).2 == 0), .int .i64 (relC p low (relX p low at_).2).2] else .tup [.agg zC, .bool false, .int .i64 0] := rfl
    rw [hrT] at hr
    have hclD : ∀ xs, relC p low xs = clmM p.width p.vars low (levs p) (lastP p) xs := fun _ => rfl
    have hAllR := fun (r : RId) l (hlo : h.length ≤ r.L17) G (hG : h.length ≤ G.length) hSB => all_run p (seeR r low at_ l) h.length 30010 (seeR_ok r low at_ l p.vars.length h.length hlo hatl) 59999 (by omega) hb hv1 hv2 hvm hB (true, []) G hG r.base 0 hSB
    have hClP := fun H L => claimP_run p.width p.vars p.body low (levs p) (lastP p) 59999 (by omega) (by omega) (fun v hv => by have := hvc v hv; omega) hlevl hlast (by omega) (by omega) (halfE_ok p.vars low (levs p)).2 hX4 H L
    have hClM := fun xs jd e1 e2 e3 e4 H L => claimM_run p.width p.vars p.body low (levs p) (lastP p) xs jd 59999 (by omega) (by omega) (fun v hv => by have := hvc v hv; omega) hlevl hlast e1 (by omega) e2 hX4 e3 e4 H L
    have hic : (ic (lastP p)).length = p.vars.length := by rw [ic_len, hlast]
    have hch := chunks_one (lastP p) p.vars.length hlast
    have his := ic_static (lastP p)
    have hmvl : mvL putP ofH p.body (levs p) 0 = lastP p := rfl
    clear hAt hC hats hX1 hX2 hatB hchk
    have hl2' : (H2 h low at_).length = h.length + 2 := by simp [H2]
    have hne2 : (H2 h low at_).length ≠ (H13 h low at_).length := by rw [hl13, hl2']; omega
    have hloS : h.length ≤ (H2 h low at_).length := by rw [hl2']; omega
    obtain ⟨w, vs, body⟩ := p
    refine Does.then (f := 7) (fuel := 60000) hH hD hF (by decide +kernel) ?_
    (repeat' (refine W_ops (id := 13) rfl ?_ <;> refine T_ch 2 rfl ?_ <;> (refine T_go rfl ?_; refine G_op (O_storeH rfl rfl rfl rfl ‹_› ⟨by assumption, rfl, rfl, Nat.le_of_ble_eq_true rfl⟩) ?_) <;> apply T_nil))
    refine .inl ⟨rfl, ?_⟩
    refine Does.set (f := 7) (LV := [3, 4, 5, 6, 14]) hH rfl ⟨rfl, rfl, rfl⟩ ⟨rfl, rfl, rfl⟩ ⟨rfl, rfl, rfl⟩ ⟨rfl, rfl, rfl⟩ ⟨rfl, rfl, rfl⟩ ⟨rfl, rfl, rfl⟩ ⟨rfl, rfl, rfl⟩ ⟨rfl, rfl, rfl⟩ ⟨rfl, rfl, rfl⟩ (by decide +kernel) rfl rfl rfl rfl rfl rfl rfl (fun _ => rfl) ?_
    refine T_go rfl (G_op rfl ?_)
    refine T_go rfl (G_op (O_call rfl rfl rfl rfl hT) ?_)
    refine T_nil ⟨[(3, .p 3 0), (4, .v (.hp h.length 1 0)), (5, .v (.hp (h ++ [CN low]).length 1 0)), (6, .p 6 0), (14, .v (.hp (H2 h low at_ ++ [HObj.map []]).length 1 0))], (H13 h low at_).length, (H2 h low at_).length, tgt ⟨w, vs, body⟩, rfl, rfl, qM, qS, hne2, hloS, fun l => O_loadH rfl rfl rfl (k14 l) rfl rfl, fun l hl => ?_⟩
    have hXl := hXq l hl
    have k4 := k4 l
    have k5 := k5 l
    have kS := kS l
    have k14 := k14 l
    have kl := kl l
    show Does _ _ _ { env := [(3, .p 3 0), (4, .v (.hp h.length 1 0)), (5, .v (.hp (h ++ [CN low]).length 1 0)), (6, .p 6 0), (14, .v (.hp (H2 h low at_ ++ [HObj.map []]).length 1 0))], loc := [(3, prC ⟨w, vs, body⟩), (6, zc11)], heap := (H13 h low at_ ++ [HObj.map (mapC (tgt ⟨w, vs, body⟩))] ++ tail).set (H2 h low at_).length (.map (setB l)), inRound := false, lo := h.length } _
    generalize (H13 h low at_ ++ [HObj.map (mapC (tgt ⟨w, vs, body⟩))] ++ tail).set (H2 h low at_).length (.map (setB l)) = G at k4 k5 kS k14 kl ⊢
    refine Does.of (f := 7) (fuel := 60000) hH hD hF (by decide +kernel) ?_
    have hloG : h.length ≤ G.length := by omega
    have g17 : (G ++ [HObj.cells 4 [.bool false]])[G.length]? = some (.cells 4 [.bool false]) := by simp
    generalize hH18 : (G ++ [HObj.cells 4 [.bool false]]).set G.length (.cells 4 [.bool true]) = H18
    have hl18 : H18.length = G.length + 1 := by rw [← hH18]; simp
    have e18 : ∀ i, i < G.length → H18[i]? = G[i]? := fun i hi => by rw [← hH18, List.getElem?_set_ne (by omega), List.getElem?_append_left hi]
    have f17 : H18[G.length]? = some (.cells 4 [.bool true]) := by rw [← hH18, List.getElem?_set_self (by simp)]
    have hr14 : (H2 h low at_ ++ [HObj.map []]).length = h.length + 3 := by rw [List.length_append, hl2']; rfl
    have hr5 : (h ++ [CN low]).length = h.length + 1 := by simp
    let r : RId := { i4 := h.length, i5 := (h ++ [CN low]).length, iS := (H2 h low at_).length, i14 := (H2 h low at_ ++ [HObj.map []]).length, L17 := G.length, L18 := H18.length, o1 := by omega, o2 := by omega, o3 := by omega, o4 := by omega, o5 := by omega }
    have e19 : ∀ i, i < H18.length → (H18 ++ [HObj.cells 29 [.nils]])[i]? = H18[i]? := fun i hi => List.getElem?_append_left hi
    have hSB : (seeR r low at_ l).B (scs body + 0) (true, []) (H18 ++ [HObj.cells 29 [.nils]]) r.base := by
      refine ⟨by dsimp only; simp only [List.length_nil]; dsimp only at hsc hN; omega, ⟨?_, ?_, ?_, ?_⟩, ?_, .inl ⟨rfl, ?_, fun i => Iff.rfl⟩⟩
      · show (H18 ++ [HObj.cells 29 [.nils]])[h.length]? = _
        rw [e19 _ (by omega), e18 _ (by omega)]; exact k4
      · show (H18 ++ [HObj.cells 29 [.nils]])[(h ++ [CN low]).length]? = _
        rw [e19 _ (by omega), e18 _ (by omega)]; exact k5
      · show (H18 ++ [HObj.cells 29 [.nils]])[(H2 h low at_).length]? = _
        rw [e19 _ (by omega), e18 _ (by omega)]; exact kS
      · show (H18 ++ [HObj.cells 29 [.nils]])[(H2 h low at_ ++ [HObj.map []]).length]? = _
        rw [e19 _ (by omega), e18 _ (by omega)]; exact k14
      · show (H18 ++ [HObj.cells 29 [.nils]])[G.length]? = _
        rw [e19 _ (by omega)]; exact f17
      · show (H18 ++ [HObj.cells 29 [.nils]])[H18.length]? = _
        simp
    obtain ⟨out, c1, id, O', p1, p2, p3, p4, p5, p6⟩ := hAllR r l hloG (H18 ++ [HObj.cells 29 [.nils]]) (by rw [List.length_append]; omega) hSB
    obtain ⟨ov, HZ⟩ := out
    dsimp only at p1 p2 p3 p4 p6
    subst p1
    have c1' : call Tryz.prog cfg 60000 h.length (.func 32) [.agg (prC ⟨w, vs, body⟩), .fn (.func 33) [.hp (h ++ [CN low]).length 1 0, .hp G.length 1 0, .hp (H2 h low at_ ++ [HObj.map []]).length 1 0, .hp h.length 1 0, .hp H18.length 1 0]] (H18 ++ [HObj.cells 29 [.nils]]) = some (.sl id 1 0 vs.length, HZ) := c1
    have p3' : (seeR r low at_ l).B 0 (relX ⟨w, vs, body⟩ low at_) HZ O' := by rw [← hXl]; exact p3
    obtain ⟨b1, bfx, b17, bm⟩ := p3'
    have z17 : HZ[G.length]? = some (.cells 4 [.bool (relX ⟨w, vs, body⟩ low at_).1]) := b17
    have hidl : h.length ≤ id := by rw [List.length_append] at p6; omega
    have p2' : HZ[id]? = some (.cells 3 (ic (lastP ⟨w, vs, body⟩))) := p2
    clear c1 p3 hSB hAllR p2
    cases hbl : (relX ⟨w, vs, body⟩ low at_).1 with
    | false =>
      rw [hbl] at z17 hr
      rw [if_neg (by simp)] at hr
      clear hXl hXq hClP hClM hL bm b17
      subst hH18
      (repeat' (first | apply W_seq | refine W_true rfl rfl ?_ | (refine W_ops (id := 18) rfl ?_ <;> refine T_ch 1 rfl ?_ <;> (refine T_go rfl ?_; refine G_op (O_storeH rfl rfl rfl rfl ‹_› ⟨by assumption, rfl, rfl, Nat.le_of_ble_eq_true rfl⟩) ?_) <;> apply T_nil) | refine W_region (id := 19) rfl rfl ?_ | (refine W_ops (id := 20) rfl ?_ <;> refine T_ch 2 rfl ?_ <;> (refine T_go rfl ?_; refine G_op (O_call rfl rfl rfl rfl ‹_›) ?_) <;> refine T_ch 1 rfl ?_ <;> apply T_nil) | (refine W_ops (id := 21) rfl ?_ <;> (refine T_go rfl ?_; refine G_false (O_loadH rfl rfl rfl ‹_› rfl rfl) rfl ?_) <;> refine T_ch 1 rfl ?_ <;> apply T_nil) | refine W_region (id := 22) rfl rfl ?_ | apply W_ret))
      exact ⟨.inl rfl, Eq.trans (b := some (.tup [.agg zC, .bool false, .int .i64 0], h)) rfl (by rw [hr])⟩
    | true =>
      rw [hbl] at z17 hr
      rw [if_pos rfl] at hr
      have hdl : (HZ.set id HObj.dead).length = HZ.length := by simp
      have hLd := hL (HZ.set id .dead) (HZ.set id .dead).length
      generalize hxs : (relX ⟨w, vs, body⟩ low at_).2 = xs at hr bm hx1 hx2 b1
      have hx1' : exK (preE vs low (levs ⟨w, vs, body⟩) xs) ≤ 50000 := hx1
      have hx2' : exB (preE vs low (levs ⟨w, vs, body⟩) xs) := hx2
      have bm0 := bm
      have hcl : ∃ V, (HZ.set id HObj.dead)[H18.length]? = some (.cells 29 [V]) ∧ call Tryz.prog cfg 60000 (HZ.set id HObj.dead).length (.func 40) [.agg (prC ⟨w, vs, body⟩), .int .i64 low, .vs 1 (intsC (levs ⟨w, vs, body⟩)), .vs 1 (intsC (lastP ⟨w, vs, body⟩)), V] (HZ.set id HObj.dead) =
          some (.tup [.agg (clmM w vs low (levs ⟨w, vs, body⟩) (lastP ⟨w, vs, body⟩) xs).1, .int .i64 (clmM w vs low (levs ⟨w, vs, body⟩) (lastP ⟨w, vs, body⟩) xs).2], HZ.set id HObj.dead) := by
        have nb : ∀ i, O' i → id ≠ i := fun i hi e => p5 (e ▸ hi)
        have q18 : O' H18.length := RId.more_base bm (.inr (.inr (.inr (.inr (.inr rfl)))))
        rcases bm with ⟨q0, q1, q2⟩ | ⟨jd, q0, q1, q2, q3, q4⟩
        · subst q0
          exact ⟨.nils, by rw [List.getElem?_set_ne (nb _ q18)]; exact q1, hClP _ _⟩
        · exact ⟨_, by rw [List.getElem?_set_ne (nb _ q18)]; exact q2, hClM xs jd (by show exK (preE vs low (levs ⟨w, vs, body⟩) xs) + 60 ≤ 59999; omega) hx2' (by have := preE_len vs low (levs ⟨w, vs, body⟩) xs; omega) (by have := preE_len vs low (levs ⟨w, vs, body⟩) xs; omega) _ _ (by rw [List.getElem?_set_ne (nb _ ((q4 jd).2 (.inr rfl)))]; exact q3)⟩
      have v0 : (HZ.set id HObj.dead)[h.length]? = some (CN low) := by
        rw [List.getElem?_set_ne (fun (e : id = h.length) => p5 (by rw [e]; exact RId.more_base bm0 (.inl rfl)))]; exact bfx.1
      obtain ⟨V, v1, v2⟩ := hcl
      have v20 : (HZ.set id HObj.dead ++ [HObj.cells 33 [.int .i64 0, .int .i64 0, .int .i64 0, .int .i64 0, .nils, .int .i64 0, .int .i64 0, .int .i64 0, .nils, .int .i64 0, .int .i64 0]])[(HZ.set id HObj.dead).length]? = some (.cells 33 [.int .i64 0, .int .i64 0, .int .i64 0, .int .i64 0, .nils, .int .i64 0, .int .i64 0, .int .i64 0, .nils, .int .i64 0, .int .i64 0]) := by simp
      have v21 : h.length ≤ (HZ.set id HObj.dead).length := by
        have : id < HZ.length := cells_lt p2'
        rw [hdl]; omega
      rw [hclD] at hr
      have hfc : h.length ≤ id ∧ 0 + vs.length * 1 = (ic (lastP ⟨w, vs, body⟩)).length ∧ (ic (lastP ⟨w, vs, body⟩)).all static = true ∧ chunks 1 vs.length (ic (lastP ⟨w, vs, body⟩)) = intsC (lastP ⟨w, vs, body⟩) := ⟨hidl, by rw [hic]; dsimp only; omega, his, hch⟩
      have htwo : clmM w vs low (levs ⟨w, vs, body⟩) (lastP ⟨w, vs, body⟩) xs = (zC, 2) ∨ clmM w vs low (levs ⟨w, vs, body⟩) (lastP ⟨w, vs, body⟩) xs = (clC 2 (preE vs low (levs ⟨w, vs, body⟩) xs) (halfE vs low (lastP ⟨w, vs, body⟩)) low 1, 0) := by
        unfold clmM
        split
        · exact .inl rfl
        · exact .inr rfl
      dsimp only at hr
      clear hXl hXq hClP hClM hL bm bm0 bfx b17 hx1 hx2 b1 hx1' hx2'
      subst hH18
      rcases htwo with e | e
      · rw [e] at v2 hr
        clear e
        generalize lastP ⟨w, vs, body⟩ = M at *
        have v22 : ((HZ.set id HObj.dead ++ [HObj.cells 33 [.int .i64 0, .int .i64 0, .int .i64 0, .int .i64 0, .nils, .int .i64 0, .int .i64 0, .int .i64 0, .nils, .int .i64 0, .int .i64 0]]).set (HZ.set id HObj.dead).length (.cells 33 (zC)))[(HZ.set id HObj.dead).length]? = some (.cells 33 (zC)) := by simp
        (repeat' (first | apply W_seq | refine W_false rfl rfl ?_ | (refine W_ops (id := 18) rfl ?_ <;> refine T_ch 1 rfl ?_ <;> (refine T_go rfl ?_; refine G_op (O_storeH rfl rfl rfl rfl ‹_› ⟨by assumption, rfl, rfl, Nat.le_of_ble_eq_true rfl⟩) ?_) <;> apply T_nil) | refine W_region (id := 19) rfl rfl ?_ | (refine W_ops (id := 20) rfl ?_ <;> refine T_ch 2 rfl ?_ <;> (refine T_go rfl ?_; refine G_op (O_call rfl rfl rfl rfl ‹_›) ?_) <;> refine T_ch 1 rfl ?_ <;> apply T_nil) | (refine W_ops (id := 21) rfl ?_ <;> (refine T_go rfl ?_; refine G_true (O_loadH rfl rfl rfl ‹_› rfl rfl) rfl ?_) <;> refine T_ch 1 rfl ?_ <;> apply T_nil) | (refine W_dopsF (id := 23) (bs := [0, 0, 0, 4, 0, 0, 63, 127, 255, 255, 0, 1535, 4095]) (by first | assumption | exact frz_oneF rfl ‹_› ‹_›) (by decide +kernel) (by decide +kernel) ?_ <;> (refine U_go rfl ?_; refine H_free (by decide +kernel) rfl rfl rfl rfl rfl ?_) <;> (refine U_go rfl ?_; refine H_free (by decide +kernel) rfl (O_loadH rfl rfl rfl ‹_› rfl rfl) rfl rfl rfl ?_) <;> (refine U_go rfl ?_; refine H_free (by decide +kernel) rfl rfl rfl rfl rfl ?_) <;> (refine U_go rfl ?_; refine H_free (by decide +kernel) rfl (O_call rfl rfl rfl rfl ‹_›) rfl rfl rfl ?_) <;> (refine U_go rfl ?_; refine H_free (by decide +kernel) rfl rfl rfl rfl rfl ?_) <;> (refine U_go rfl ?_; refine H_free (by decide +kernel) rfl (O_loadH rfl rfl rfl ‹_› rfl rfl) rfl rfl rfl ?_) <;> (refine U_go rfl ?_; refine H_free (by decide +kernel) rfl (O_call rfl rfl rfl rfl ‹_›) rfl rfl rfl ?_) <;> (refine U_go rfl ?_; refine H_free (by decide +kernel) rfl rfl rfl rfl rfl ?_) <;> (refine U_go rfl ?_; refine H_free (by decide +kernel) rfl rfl rfl rfl rfl ?_) <;> (refine U_go rfl ?_; refine H_free (by decide +kernel) rfl rfl rfl rfl rfl ?_) <;> (refine U_go rfl ?_; refine H_make (by decide +kernel) rfl rfl rfl rfl rfl ?_) <;> (refine U_go rfl ?_; refine H_near (by decide +kernel) rfl (O_storeH rfl rfl rfl rfl ‹_› ⟨by assumption, rfl, rfl, Nat.le_of_ble_eq_true rfl⟩) ?_) <;> (refine U_go rfl ?_; refine H_op (by decide +kernel) rfl ?_) <;> apply U_nil) | (refine W_ops (id := 24) rfl ?_ <;> (refine T_go rfl ?_; refine G_op (O_loadH rfl rfl rfl ‹_› rfl rfl) ?_) <;> refine T_ch 1 rfl ?_ <;> (refine T_go rfl ?_; refine G_false rfl rfl ?_) <;> refine T_ch 4 rfl ?_ <;> apply T_nil) | apply W_skip | apply W_ret))
        exact ⟨.inl rfl, Eq.trans (b := some (AV.tup [.agg zC, .bool false, .int .i64 2], h)) rfl (by rw [hr]; rfl)⟩
      · rw [e] at v2 hr
        clear e
        generalize preE vs low (levs ⟨w, vs, body⟩) xs = E1 at v2 hr
        generalize halfE vs low (lastP ⟨w, vs, body⟩) = E2 at v2 hr
        obtain ⟨b1o, b1n, b1c, b1s⟩ := E1
        obtain ⟨b2o, b2n, b2c, b2s⟩ := E2
        have v22 : ((HZ.set id HObj.dead ++ [HObj.cells 33 [.int .i64 0, .int .i64 0, .int .i64 0, .int .i64 0, .nils, .int .i64 0, .int .i64 0, .int .i64 0, .nils, .int .i64 0, .int .i64 0]]).set (HZ.set id HObj.dead).length (.cells 33 (clC 2 (.mk b1o b1n b1c b1s) (.mk b2o b2n b2c b2s) low 1)))[(HZ.set id HObj.dead).length]? = some (.cells 33 (clC 2 (.mk b1o b1n b1c b1s) (.mk b2o b2n b2c b2s) low 1)) := by simp
        (repeat' (first | apply W_seq | refine W_false rfl rfl ?_ | (refine W_ops (id := 18) rfl ?_ <;> refine T_ch 1 rfl ?_ <;> (refine T_go rfl ?_; refine G_op (O_storeH rfl rfl rfl rfl ‹_› ⟨by assumption, rfl, rfl, Nat.le_of_ble_eq_true rfl⟩) ?_) <;> apply T_nil) | refine W_region (id := 19) rfl rfl ?_ | (refine W_ops (id := 20) rfl ?_ <;> refine T_ch 2 rfl ?_ <;> (refine T_go rfl ?_; refine G_op (O_call rfl rfl rfl rfl ‹_›) ?_) <;> refine T_ch 1 rfl ?_ <;> apply T_nil) | (refine W_ops (id := 21) rfl ?_ <;> (refine T_go rfl ?_; refine G_true (O_loadH rfl rfl rfl ‹_› rfl rfl) rfl ?_) <;> refine T_ch 1 rfl ?_ <;> apply T_nil) | (refine W_dopsF (id := 23) (bs := [0, 0, 0, 4, 0, 0, 63, 127, 255, 255, 0, 1535, 4095]) (by first | assumption | exact frz_oneF rfl ‹_› ‹_›) (by decide +kernel) (by decide +kernel) ?_ <;> (refine U_go rfl ?_; refine H_free (by decide +kernel) rfl rfl rfl rfl rfl ?_) <;> (refine U_go rfl ?_; refine H_free (by decide +kernel) rfl (O_loadH rfl rfl rfl ‹_› rfl rfl) rfl rfl rfl ?_) <;> (refine U_go rfl ?_; refine H_free (by decide +kernel) rfl rfl rfl rfl rfl ?_) <;> (refine U_go rfl ?_; refine H_free (by decide +kernel) rfl (O_call rfl rfl rfl rfl ‹_›) rfl rfl rfl ?_) <;> (refine U_go rfl ?_; refine H_free (by decide +kernel) rfl rfl rfl rfl rfl ?_) <;> (refine U_go rfl ?_; refine H_free (by decide +kernel) rfl (O_loadH rfl rfl rfl ‹_› rfl rfl) rfl rfl rfl ?_) <;> (refine U_go rfl ?_; refine H_free (by decide +kernel) rfl (O_call rfl rfl rfl rfl ‹_›) rfl rfl rfl ?_) <;> (refine U_go rfl ?_; refine H_free (by decide +kernel) rfl rfl rfl rfl rfl ?_) <;> (refine U_go rfl ?_; refine H_free (by decide +kernel) rfl rfl rfl rfl rfl ?_) <;> (refine U_go rfl ?_; refine H_free (by decide +kernel) rfl rfl rfl rfl rfl ?_) <;> (refine U_go rfl ?_; refine H_make (by decide +kernel) rfl rfl rfl rfl rfl ?_) <;> (refine U_go rfl ?_; refine H_near (by decide +kernel) rfl (O_storeH rfl rfl rfl rfl ‹_› ⟨by assumption, rfl, rfl, Nat.le_of_ble_eq_true rfl⟩) ?_) <;> (refine U_go rfl ?_; refine H_op (by decide +kernel) rfl ?_) <;> apply U_nil) | (refine W_ops (id := 24) rfl ?_ <;> (refine T_go rfl ?_; refine G_op (O_loadH rfl rfl rfl ‹_› rfl rfl) ?_) <;> refine T_ch 1 rfl ?_ <;> (refine T_go rfl ?_; refine G_true rfl rfl ?_) <;> refine T_ch 4 rfl ?_ <;> apply T_nil) | apply W_skip | apply W_ret))
        exact ⟨.inl rfl, Eq.trans (b := some (AV.tup [.agg (clC 2 (.mk b1o b1n b1c b1s) (.mk b2o b2n b2c b2s) low 1), .bool true, .int .i64 0], h)) rfl (by rw [hr]; rfl)⟩
  have hfin : (fun e s1 => (e = Ex.ret ∨ e = .normal) ∧ finish cfgF Tryz.f7 7 h s1 = some (relV p low at_, h)) = (fun e s1 => (e = Ex.ret ∨ e = .normal) ∧ finish cfgF Tryz.f7 7 h s1 = some (relV p low at_, h)) := rfl
  clear hfin
  obtain ⟨w, vs, body⟩ := p
  refine Does.call (C := cfgF) sound.tab progOkF.1 Tryz.func7 rfl (Nat.le_of_ble_eq_true rfl) rfl ?_
  refine Does.then (f := 7) (fuel := 60000) hH hD hF (by decide +kernel) ?_
  (repeat' refine W_region (id := 0) rfl rfl ?_)
  refine .inl ⟨rfl, ?_⟩
  refine Does.then (f := 7) (fuel := 60000) hH hD hF (by decide +kernel) ?_
  (repeat' (first | apply W_seq | refine W_false rfl rfl ?_ | (refine W_ops (id := 1) rfl ?_ <;> refine T_ch 1 rfl ?_ <;> (refine T_go rfl ?_; refine G_op (O_call rfl rfl rfl rfl ‹_›) ?_) <;> refine T_ch 1 rfl ?_ <;> apply T_nil) | (refine W_ops (id := 2) rfl ?_ <;> refine T_ch 1 rfl ?_ <;> (refine T_go rfl ?_; refine G_false rfl rfl ?_) <;> apply T_nil) | apply W_skip))
  refine .inl ⟨rfl, ?_⟩
  refine Does.then (f := 7) (fuel := 60000) hH hD hF (by decide +kernel) ?_
  (repeat' (first | apply W_seq | refine W_false rfl rfl ?_ | (refine W_ops (id := 4) rfl ?_ <;> (refine T_go rfl ?_; refine G_op (O_loadH rfl rfl rfl ‹_› rfl rfl) ?_) <;> (refine T_go rfl ?_; refine G_false rfl (by with_reducible assumption) ?_) <;> refine T_ch 1 rfl ?_ <;> (refine T_go rfl ?_; refine G_op (O_loadH rfl rfl rfl ‹_› rfl rfl) ?_) <;> (refine T_go rfl ?_; refine G_false rfl (by with_reducible assumption) ?_) <;> refine T_ch 1 rfl ?_ <;> apply T_nil) | apply W_skip))
  refine .inl ⟨rfl, ?_⟩
  refine Does.then (f := 7) (fuel := 60000) hH hD hF (by decide +kernel) ?_
  (repeat' (first | apply W_seq | (refine W_ops (id := 6) rfl ?_ <;> (refine T_go rfl ?_; refine G_op (O_loadH rfl rfl rfl ‹_› rfl rfl) ?_) <;> refine T_ch 2 rfl ?_ <;> apply T_nil) | apply W_block))
  apply W_while (A := Int) (fun n => ∃ i : Nat, n = i ∧ i ≤ at_.length ∧ atsF ⟨w, vs, body⟩ (prevI at_ i) (at_.drop i) = atsF ⟨w, vs, body⟩ none at_ ∧ (i = 0 ∨ ∃ y, at_[i - 1]? = some y ∧ (i : Int) - 1 ≤ y ∧ y < 600)) (relS1 h ⟨w, vs, body⟩ low at_) (fun n => 700 - n.toNat) (a0 := 0) (by omega) rfl ⟨0, rfl, by omega, rfl, .inl rfl⟩
  rintro n ⟨i, rfl, hi1, hi2, hi3⟩
  rcases Nat.lt_or_ge i at_.length with hil | hil
  · obtain ⟨x, hx⟩ : ∃ x, at_[i]? = some x := ⟨_, List.getElem?_eq_getElem hil⟩
    have hdr : at_.drop i = x :: at_.drop (i + 1) := by
      rw [List.drop_eq_getElem_cons hil]
      rw [List.getElem?_eq_getElem hil] at hx
      injection hx with hx
      rw [hx]
    rw [hdr] at hi2
    have hi6 : (i : Int) ≤ 600 := by
      rcases hi3 with e | ⟨y, _, e1, e2⟩
      · omega
      · omega
    have hst : atsF ⟨w, vs, body⟩ (prevI at_ i) (x :: at_.drop (i + 1)) = ((match atF ⟨w, vs, body⟩ x with | none => false | some s => !(opOf s != 3)) && (match prevI at_ i with | none => true | some y => !decide (x ≤ y)) && atsF ⟨w, vs, body⟩ (some x) (at_.drop (i + 1))) := rfl
    rw [hst] at hi2
    have hrow : 0 ≤ (i : Int) ∧ (intsC at_)[(i : Int).toNat]? = some [.int .i64 x] := ⟨by omega, by simpa using intsC_gt hx⟩
    have hlt : decide ((i : Int) < ((intsC at_).length : Int)) = true := decide_eq_true (by rw [intsC_len]; omega)
    have hAx := hAt x
    have hnext : prevI at_ (i + 1) = some x := by unfold prevI; rw [if_neg (by omega), Nat.add_sub_cancel]; exact hx
    have hw : IntKind.i64.wrap ((i : Int) + 1) = ((i + 1 : Nat) : Int) := by rw [wrap_i64 (by omega) (by omega)]; omega
    cases hax : atF ⟨w, vs, body⟩ x with
    | none =>
      rw [hax] at hAx hi2
      rw [show atsF ⟨w, vs, body⟩ none at_ = false by rw [← hi2]; rfl, if_neg (by simp)] at hr
      simp only [Option.isSome_none, Bool.false_eq_true, if_false] at hAx
      clear hi2 hst rest
      (repeat' (first | apply W_seq | refine W_true rfl rfl ?_ | (refine W_ops (id := 7) rfl ?_ <;> (refine T_go rfl ?_; refine G_true rfl (by with_reducible assumption) ?_) <;> apply T_nil) | (refine W_ops (id := 8) rfl ?_ <;> refine T_ch 1 rfl ?_ <;> (refine T_go rfl ?_; refine G_op (O_indexI rfl rfl rfl rfl rfl ‹_›) ?_) <;> (refine T_go rfl ?_; refine G_op rfl ?_) <;> refine T_ch 2 rfl ?_ <;> apply T_nil) | (refine W_ops (id := 9) rfl ?_ <;> refine T_ch 2 rfl ?_ <;> (refine T_go rfl ?_; refine G_op (O_call rfl rfl rfl rfl ‹_›) ?_) <;> refine T_ch 6 rfl ?_ <;> apply T_nil) | (refine W_ops (id := 10) rfl ?_ <;> refine T_ch 1 rfl ?_ <;> (refine T_go rfl ?_; refine G_true rfl rfl ?_) <;> refine T_ch 3 rfl ?_ <;> refine T_skip rfl ?_ <;> refine T_ch 3 rfl ?_ <;> refine T_skip rfl ?_ <;> refine T_ch 2 rfl ?_ <;> refine T_skip rfl ?_ <;> refine T_ch 2 rfl ?_ <;> refine T_skip rfl ?_ <;> refine T_skip rfl ?_ <;> refine T_skip rfl ?_ <;> refine T_ch 2 rfl ?_ <;> apply T_nil) | refine W_region (id := 11) rfl rfl ?_ | apply W_skip | apply W_block | apply W_ret))
      exact .inr ⟨by simp, .inl rfl, Eq.trans (b := some (.tup [.agg zC, .bool false, .int .i64 1], h)) rfl (by rw [hr])⟩
    | some s =>
      obtain ⟨hx0, hx6⟩ := hatB x s hax
      rw [hax] at hAx hi2
      obtain ⟨op, nn, a, t, e⟩ := s
      have hop : (match (some (Sm'.mk op nn a t e) : Option Sm') with | none => false | some s => !(opOf s != 3)) = !(op != 3) := rfl
      simp only [Option.isSome_some, if_true] at hAx
      have hi2' : (!(op != 3) && (match prevI at_ i with | none => true | some y => !decide (x ≤ y)) && atsF ⟨w, vs, body⟩ (some x) (at_.drop (i + 1))) = atsF ⟨w, vs, body⟩ none at_ := hi2
      clear hi2 hop
      cases c3 : (op != 3) with
      | true =>
        rw [c3] at hi2'
        rw [show atsF ⟨w, vs, body⟩ none at_ = false by rw [← hi2']; rfl, if_neg (by simp)] at hr
        clear hi2' hst rest
        (repeat' (first | apply W_seq | refine W_true rfl rfl ?_ | (refine W_ops (id := 7) rfl ?_ <;> (refine T_go rfl ?_; refine G_true rfl (by with_reducible assumption) ?_) <;> apply T_nil) | (refine W_ops (id := 8) rfl ?_ <;> refine T_ch 1 rfl ?_ <;> (refine T_go rfl ?_; refine G_op (O_indexI rfl rfl rfl rfl rfl ‹_›) ?_) <;> (refine T_go rfl ?_; refine G_op rfl ?_) <;> refine T_ch 2 rfl ?_ <;> apply T_nil) | (refine W_ops (id := 9) rfl ?_ <;> refine T_ch 2 rfl ?_ <;> (refine T_go rfl ?_; refine G_op (O_call rfl rfl rfl rfl ‹_›) ?_) <;> refine T_ch 6 rfl ?_ <;> apply T_nil) | (refine W_ops (id := 10) rfl ?_ <;> refine T_ch 1 rfl ?_ <;> (refine T_go rfl ?_; refine G_false rfl rfl ?_) <;> refine T_ch 3 rfl ?_ <;> (refine T_go rfl ?_; refine G_true rfl (by with_reducible assumption) ?_) <;> refine T_ch 3 rfl ?_ <;> refine T_skip rfl ?_ <;> refine T_ch 2 rfl ?_ <;> refine T_skip rfl ?_ <;> refine T_ch 2 rfl ?_ <;> refine T_skip rfl ?_ <;> refine T_skip rfl ?_ <;> refine T_skip rfl ?_ <;> refine T_ch 2 rfl ?_ <;> apply T_nil) | refine W_region (id := 11) rfl rfl ?_ | apply W_skip | apply W_block | apply W_ret))
        exact .inr ⟨by simp, .inl rfl, Eq.trans (b := some (.tup [.agg zC, .bool false, .int .i64 1], h)) rfl (by rw [hr])⟩
      | false =>
        rw [c3] at hi2'
        cases i with
        | zero =>
          have hp : prevI at_ 0 = none := rfl
          rw [hp] at hi2'
          have hi2'' : atsF ⟨w, vs, body⟩ (some x) (at_.drop 1) = atsF ⟨w, vs, body⟩ none at_ := by rw [← hi2']; simp
          clear rest hi2' hst hr
          (repeat' (first | apply W_seq | refine W_true rfl rfl ?_ | refine W_false rfl rfl ?_ | (refine W_ops (id := 7) rfl ?_ <;> (refine T_go rfl ?_; refine G_true rfl (by with_reducible assumption) ?_) <;> apply T_nil) | (refine W_ops (id := 8) rfl ?_ <;> refine T_ch 1 rfl ?_ <;> (refine T_go rfl ?_; refine G_op (O_indexI rfl rfl rfl rfl rfl ‹_›) ?_) <;> (refine T_go rfl ?_; refine G_op rfl ?_) <;> refine T_ch 2 rfl ?_ <;> apply T_nil) | (refine W_ops (id := 9) rfl ?_ <;> refine T_ch 2 rfl ?_ <;> (refine T_go rfl ?_; refine G_op (O_call rfl rfl rfl rfl ‹_›) ?_) <;> refine T_ch 6 rfl ?_ <;> apply T_nil) | (refine W_ops (id := 10) rfl ?_ <;> refine T_ch 1 rfl ?_ <;> (refine T_go rfl ?_; refine G_false rfl rfl ?_) <;> refine T_ch 3 rfl ?_ <;> (refine T_go rfl ?_; refine G_false rfl (by with_reducible assumption) ?_) <;> refine T_ch 3 rfl ?_ <;> (refine T_go rfl ?_; refine G_false rfl rfl ?_) <;> refine T_ch 2 rfl ?_ <;> refine T_skip rfl ?_ <;> refine T_ch 2 rfl ?_ <;> refine T_skip rfl ?_ <;> refine T_skip rfl ?_ <;> refine T_skip rfl ?_ <;> refine T_ch 2 rfl ?_ <;> apply T_nil) | refine W_region (id := 12) rfl rfl ?_ | apply W_skip | apply W_block))
          exact ⟨IntKind.i64.wrap (((0 : Nat) : Int) + 1), rfl, ⟨1, hw, by omega, by rw [hnext]; exact hi2'', .inr ⟨x, by simpa using hx, by omega, hx6⟩⟩, by rw [hw]; simp⟩
        | succ i =>
          obtain ⟨z, hz⟩ : ∃ z, at_[i]? = some z := ⟨_, List.getElem?_eq_getElem (show i < at_.length by omega)⟩
          have hp : prevI at_ (i + 1) = some z := by unfold prevI; rw [if_neg (by omega), Nat.add_sub_cancel]; exact hz
          rw [hp] at hi2'
          have hi2'' : (!false && !decide (x ≤ z) && atsF ⟨w, vs, body⟩ (some x) (at_.drop (i + 1 + 1))) = atsF ⟨w, vs, body⟩ none at_ := hi2'
          have hw1 : IntKind.i64.wrap (((i + 1 : Nat) : Int) - 1) = (i : Int) := by rw [wrap_i64 (by omega) (by omega)]; omega
          have hrow3 : 0 ≤ IntKind.i64.wrap (((i + 1 : Nat) : Int) - 1) ∧ (intsC at_)[(IntKind.i64.wrap (((i + 1 : Nat) : Int) - 1)).toNat]? = some [.int .i64 z] := by
            rw [hw1]; exact ⟨by omega, by simpa using intsC_gt hz⟩
          have ci : decide (((i + 1 : Nat) : Int) > 0) = true := decide_eq_true (by omega)
          have hzy : (i : Int) ≤ z := by
            rcases hi3 with e | ⟨y, e0, e1, e2⟩
            · omega
            · rw [Nat.add_sub_cancel, hz] at e0
              injection e0 with e0
              omega
          clear hi2' hst
          cases c5 : decide (x ≤ z) with
          | true =>
            rw [c5] at hi2''
            rw [show atsF ⟨w, vs, body⟩ none at_ = false by rw [← hi2'']; rfl, if_neg (by simp)] at hr
            clear hi2'' rest
            (repeat' (first | apply W_seq | refine W_true rfl rfl ?_ | (refine W_ops (id := 7) rfl ?_ <;> (refine T_go rfl ?_; refine G_true rfl (by with_reducible assumption) ?_) <;> apply T_nil) | (refine W_ops (id := 8) rfl ?_ <;> refine T_ch 1 rfl ?_ <;> (refine T_go rfl ?_; refine G_op (O_indexI rfl rfl rfl rfl rfl ‹_›) ?_) <;> (refine T_go rfl ?_; refine G_op rfl ?_) <;> refine T_ch 2 rfl ?_ <;> apply T_nil) | (refine W_ops (id := 9) rfl ?_ <;> refine T_ch 2 rfl ?_ <;> (refine T_go rfl ?_; refine G_op (O_call rfl rfl rfl rfl ‹_›) ?_) <;> refine T_ch 6 rfl ?_ <;> apply T_nil) | (refine W_ops (id := 10) rfl ?_ <;> refine T_ch 1 rfl ?_ <;> (refine T_go rfl ?_; refine G_false rfl rfl ?_) <;> refine T_ch 3 rfl ?_ <;> (refine T_go rfl ?_; refine G_false rfl (by with_reducible assumption) ?_) <;> refine T_ch 3 rfl ?_ <;> (refine T_go rfl ?_; refine G_true rfl (by with_reducible assumption) ?_) <;> refine T_ch 2 rfl ?_ <;> (refine T_go rfl ?_; refine G_op (O_loadH rfl rfl rfl ‹_› rfl rfl) ?_) <;> refine T_ch 2 rfl ?_ <;> (refine T_go rfl ?_; refine G_op (O_indexI rfl rfl rfl rfl rfl ‹_›) ?_) <;> (refine T_go rfl ?_; refine G_op rfl ?_) <;> (refine T_go rfl ?_; refine G_true rfl (by with_reducible assumption) ?_) <;> refine T_ch 2 rfl ?_ <;> apply T_nil) | refine W_region (id := 11) rfl rfl ?_ | apply W_skip | apply W_block | apply W_ret))
            exact .inr ⟨by simp, .inl rfl, Eq.trans (b := some (.tup [.agg zC, .bool false, .int .i64 1], h)) rfl (by rw [hr])⟩
          | false =>
            rw [c5] at hi2''
            have hxz := of_decide_eq_false c5
            have hi4 : atsF ⟨w, vs, body⟩ (some x) (at_.drop (i + 1 + 1)) = atsF ⟨w, vs, body⟩ none at_ := by rw [← hi2'']; simp
            clear rest hi2'' hr
            (repeat' (first | apply W_seq | refine W_true rfl rfl ?_ | refine W_false rfl rfl ?_ | (refine W_ops (id := 7) rfl ?_ <;> (refine T_go rfl ?_; refine G_true rfl (by with_reducible assumption) ?_) <;> apply T_nil) | (refine W_ops (id := 8) rfl ?_ <;> refine T_ch 1 rfl ?_ <;> (refine T_go rfl ?_; refine G_op (O_indexI rfl rfl rfl rfl rfl ‹_›) ?_) <;> (refine T_go rfl ?_; refine G_op rfl ?_) <;> refine T_ch 2 rfl ?_ <;> apply T_nil) | (refine W_ops (id := 9) rfl ?_ <;> refine T_ch 2 rfl ?_ <;> (refine T_go rfl ?_; refine G_op (O_call rfl rfl rfl rfl ‹_›) ?_) <;> refine T_ch 6 rfl ?_ <;> apply T_nil) | (refine W_ops (id := 10) rfl ?_ <;> refine T_ch 1 rfl ?_ <;> (refine T_go rfl ?_; refine G_false rfl rfl ?_) <;> refine T_ch 3 rfl ?_ <;> (refine T_go rfl ?_; refine G_false rfl (by with_reducible assumption) ?_) <;> refine T_ch 3 rfl ?_ <;> (refine T_go rfl ?_; refine G_true rfl (by with_reducible assumption) ?_) <;> refine T_ch 2 rfl ?_ <;> (refine T_go rfl ?_; refine G_op (O_loadH rfl rfl rfl ‹_› rfl rfl) ?_) <;> refine T_ch 2 rfl ?_ <;> (refine T_go rfl ?_; refine G_op (O_indexI rfl rfl rfl rfl rfl ‹_›) ?_) <;> (refine T_go rfl ?_; refine G_op rfl ?_) <;> (refine T_go rfl ?_; refine G_false rfl (by with_reducible assumption) ?_) <;> refine T_ch 2 rfl ?_ <;> apply T_nil) | refine W_region (id := 12) rfl rfl ?_ | apply W_skip | apply W_block))
            exact ⟨IntKind.i64.wrap (((i + 1 : Nat) : Int) + 1), rfl, ⟨i + 1 + 1, hw, by omega, by rw [hnext]; exact hi4, .inr ⟨x, by simpa using hx, by omega, hx6⟩⟩, by rw [hw]; simp; omega⟩
  · have hlt : decide ((i : Int) < ((intsC at_).length : Int)) = false := decide_eq_false (by rw [intsC_len]; omega)
    have hall : atsF ⟨w, vs, body⟩ none at_ = true := by
      rw [← hi2, List.drop_eq_nil_of_le hil]; rfl
    have hrest := rest hall (i : Int)
    clear rest hr hi2 hi3
    (repeat' (first | apply W_seq | refine W_false rfl rfl ?_ | (refine W_ops (id := 7) rfl ?_ <;> (refine T_go rfl ?_; refine G_false rfl (by with_reducible assumption) ?_) <;> apply T_nil) | apply W_exit))
    exact .inl ⟨rfl, hrest⟩
/- Releases: what a program changes. -/
def chS (h : Heap) (v : AV) (e : Ex') (i : Int) (_ : Unit) : St :=
  { env := [(3, .p 3 0), (5, .v v), (6, .v (.int .i64 i))], loc := [(3, exC e)], heap := h, inRound := false, lo := h.length }
set_option maxHeartbeats 12000000 in
theorem changed_run (p : Pr') (e : Ex') (k : Nat) (hk : smsK p.body + exK e + 640 ≤ k) (hN : smsN p.body ≤ 600) (hb : prB p) (hbe : exB e) (h : Heap) (lo : Nat) : call Tryz.prog cfg (k + 1) lo (.func 52) [.agg (prC p), .agg (exC e)] h = some (.bool (changedB p e), h) := by
  have hE := every_run p (k - 1) (by omega) hN hb h h.length
  rw [show k - 1 + 1 = k by omega] at hE
  have hlen := evL_len p.body 0
  unfold changedB
  have hL : every p = evL p.body 0 := rfl
  generalize every p = L at hE hL ⊢
  rw [← hL] at hlen
  obtain ⟨w, vs, body⟩ := p
  cases L with
  | nil =>
    apply W_call Tryz.func52 rfl (Nat.le_of_ble_eq_true rfl) rfl rfl
    (repeat' (first | apply W_seq | refine W_region (id := 0) rfl rfl ?_ | (refine W_ops (id := 1) rfl ?_ <;> refine T_ch 1 rfl ?_ <;> (refine T_go rfl ?_; refine G_op (O_call rfl rfl rfl rfl ‹_›) ?_) <;> refine T_ch 1 rfl ?_ <;> apply T_nil) | refine W_region (id := 2) rfl rfl ?_ | apply W_block))
    apply W_iter (S := chS h .nils e) (l := ([] : List Unit)) (a0 := ()) (fun _ _ => True) (by simp) (by simp; omega) rfl trivial
    · intro i st rest a hi; simp at hi
    · intro a hJ
      (repeat' (first | apply W_seq | refine W_false rfl rfl ?_ | (refine W_ops (id := 3) rfl ?_ <;> refine T_ch 3 rfl ?_ <;> (refine T_go rfl ?_; refine G_false rfl rfl ?_) <;> apply T_nil) | refine W_region (id := 7) rfl rfl ?_ | apply W_ret | apply W_exit))
      exact ⟨.inl rfl, rfl⟩
  | cons x0 L0 =>
    generalize hLL : x0 :: L0 = L at *
    have hacc : accV 6 (L.map itC) = .vs 6 (L.map itC) := by subst hLL; rfl
    rw [hacc] at hE
    obtain ⟨eo, en, ec, es⟩ := e
    apply W_call Tryz.func52 rfl (Nat.le_of_ble_eq_true rfl) rfl rfl
    (repeat' (first | apply W_seq | refine W_region (id := 0) rfl rfl ?_ | (refine W_ops (id := 1) rfl ?_ <;> refine T_ch 1 rfl ?_ <;> (refine T_go rfl ?_; refine G_op (O_call rfl rfl rfl rfl ‹_›) ?_) <;> refine T_ch 1 rfl ?_ <;> apply T_nil) | refine W_region (id := 2) rfl rfl ?_ | apply W_block))
    apply W_iter (S := chS h (.vs 6 (L.map itC)) (.mk eo en ec es)) (l := L) (a0 := ()) (fun rest _ => rest.any (chB (.mk eo en ec es)) = L.any (chB (.mk eo en ec es))) (by dsimp only at hlen hN; omega) (by dsimp only at hlen hN hk; omega) rfl rfl
    · intro i x rest a hi hd hil hJ
      have hlt := lt_itm hil
      obtain ⟨m, ⟨op, nn, ar, t, el⟩⟩ := x
      have hrow : (L.map itC)[i]? = some (itC (m, .mk op nn ar t el)) := by rw [List.getElem?_map, hi]; rfl
      have hR := readsR_run nn k (.mk eo en ec es) (by omega) hbe h h.length
      rw [List.any_cons] at hJ
      have hc : chB (.mk eo en ec es) (m, .mk op nn ar t el) = ((op == 0 || op == 4) && rvE nn (.mk eo en ec es)) := rfl
      rw [hc] at hJ
      generalize rvE nn (.mk eo en ec es) = r at hR hJ
      cases c0 : (op == 0) with
      | true =>
        rw [c0] at hJ
        cases r
        · (repeat' (first | apply W_seq | refine W_true rfl rfl ?_ | refine W_false rfl rfl ?_ | (refine W_ops (id := 3) rfl ?_ <;> refine T_ch 3 rfl ?_ <;> (refine T_go rfl ?_; refine G_true rfl (by with_reducible assumption) ?_) <;> apply T_nil) | refine W_region (id := 4) rfl rfl ?_ | (refine W_dops (id := 5) (bs := [0, 0, 3, 7, 15, 31, 63, 127, 255, 255, 1023, 2047, 4095, 8191, 16383, 32767, 65535, 131071, 131071, 131071, 917503, 1966079, 4063231, 8257535, 16777215, 33554431]) rfl (by decide +kernel) (by decide +kernel) ?_ <;> (refine U_go rfl ?_; refine H_free (by decide +kernel) rfl rfl rfl rfl rfl ?_) <;> (refine U_go rfl ?_; refine H_free (by decide +kernel) rfl rfl rfl rfl rfl ?_) <;> (refine U_go rfl ?_; refine H_op (by decide +kernel) (O_index rfl rfl rfl rfl rfl ‹_›) ?_) <;> (refine U_go rfl ?_; refine H_op (by decide +kernel) rfl ?_) <;> (refine U_go rfl ?_; refine H_op (by decide +kernel) rfl ?_) <;> (refine U_go rfl ?_; refine H_op (by decide +kernel) rfl ?_) <;> (refine U_go rfl ?_; refine H_true (by decide +kernel) rfl (by with_reducible assumption) ?_) <;> (refine U_go rfl ?_; refine H_op (by decide +kernel) rfl ?_) <;> refine U_skip rfl ?_ <;> refine U_skip rfl ?_ <;> refine U_skip rfl ?_ <;> refine U_skip rfl ?_ <;> refine U_skip rfl ?_ <;> refine U_skip rfl ?_ <;> refine U_skip rfl ?_ <;> (refine U_go rfl ?_; refine H_op (by decide +kernel) rfl ?_) <;> (refine U_go rfl ?_; refine H_op (by decide +kernel) rfl ?_) <;> (refine U_go rfl ?_; refine H_free (by decide +kernel) rfl rfl rfl rfl rfl ?_) <;> (refine U_go rfl ?_; refine H_free (by decide +kernel) rfl rfl rfl rfl rfl ?_) <;> (refine U_go rfl ?_; refine H_free (by decide +kernel) rfl rfl rfl rfl rfl ?_) <;> (refine U_go rfl ?_; refine H_free (by decide +kernel) rfl (O_index rfl rfl rfl rfl rfl ‹_›) rfl rfl rfl ?_) <;> (refine U_go rfl ?_; refine H_free (by decide +kernel) rfl rfl rfl rfl rfl ?_) <;> (refine U_go rfl ?_; refine H_free (by decide +kernel) rfl rfl rfl rfl rfl ?_) <;> (refine U_go rfl ?_; refine H_free (by decide +kernel) rfl rfl rfl rfl rfl ?_) <;> (refine U_go rfl ?_; refine H_false (by decide +kernel) (O_call rfl rfl rfl rfl ‹_›) rfl ?_) <;> (refine U_go rfl ?_; refine H_op (by decide +kernel) rfl ?_) <;> apply U_nil) | apply W_skip | apply W_block))
          exact ⟨(), rfl, by simpa using hJ⟩
        · (repeat' (first | apply W_seq | refine W_true rfl rfl ?_ | (refine W_ops (id := 3) rfl ?_ <;> refine T_ch 3 rfl ?_ <;> (refine T_go rfl ?_; refine G_true rfl (by with_reducible assumption) ?_) <;> apply T_nil) | (refine W_dops (id := 5) (bs := [0, 0, 3, 7, 15, 31, 63, 127, 255, 255, 1023, 2047, 4095, 8191, 16383, 32767, 65535, 131071, 131071, 131071, 917503, 1966079, 4063231, 8257535, 16777215, 33554431]) rfl (by decide +kernel) (by decide +kernel) ?_ <;> (refine U_go rfl ?_; refine H_free (by decide +kernel) rfl rfl rfl rfl rfl ?_) <;> (refine U_go rfl ?_; refine H_free (by decide +kernel) rfl rfl rfl rfl rfl ?_) <;> (refine U_go rfl ?_; refine H_op (by decide +kernel) (O_index rfl rfl rfl rfl rfl ‹_›) ?_) <;> (refine U_go rfl ?_; refine H_op (by decide +kernel) rfl ?_) <;> (refine U_go rfl ?_; refine H_op (by decide +kernel) rfl ?_) <;> (refine U_go rfl ?_; refine H_op (by decide +kernel) rfl ?_) <;> (refine U_go rfl ?_; refine H_true (by decide +kernel) rfl (by with_reducible assumption) ?_) <;> (refine U_go rfl ?_; refine H_op (by decide +kernel) rfl ?_) <;> refine U_skip rfl ?_ <;> refine U_skip rfl ?_ <;> refine U_skip rfl ?_ <;> refine U_skip rfl ?_ <;> refine U_skip rfl ?_ <;> refine U_skip rfl ?_ <;> refine U_skip rfl ?_ <;> (refine U_go rfl ?_; refine H_op (by decide +kernel) rfl ?_) <;> (refine U_go rfl ?_; refine H_op (by decide +kernel) rfl ?_) <;> (refine U_go rfl ?_; refine H_free (by decide +kernel) rfl rfl rfl rfl rfl ?_) <;> (refine U_go rfl ?_; refine H_free (by decide +kernel) rfl rfl rfl rfl rfl ?_) <;> (refine U_go rfl ?_; refine H_free (by decide +kernel) rfl rfl rfl rfl rfl ?_) <;> (refine U_go rfl ?_; refine H_free (by decide +kernel) rfl (O_index rfl rfl rfl rfl rfl ‹_›) rfl rfl rfl ?_) <;> (refine U_go rfl ?_; refine H_free (by decide +kernel) rfl rfl rfl rfl rfl ?_) <;> (refine U_go rfl ?_; refine H_free (by decide +kernel) rfl rfl rfl rfl rfl ?_) <;> (refine U_go rfl ?_; refine H_free (by decide +kernel) rfl rfl rfl rfl rfl ?_) <;> (refine U_go rfl ?_; refine H_true (by decide +kernel) (O_call rfl rfl rfl rfl ‹_›) rfl ?_) <;> (refine U_go rfl ?_; refine H_op (by decide +kernel) rfl ?_) <;> apply U_nil) | refine W_region (id := 6) rfl rfl ?_ | apply W_skip | apply W_block | apply W_ret))
          exact ⟨.inl rfl, Eq.trans (b := some (AV.bool _, _)) rfl (by rw [← hJ]; rfl)⟩
      | false =>
        rw [c0] at hJ
        cases c4 : (op == 4) with
        | true =>
          rw [c4] at hJ
          cases r
          · (repeat' (first | apply W_seq | refine W_true rfl rfl ?_ | refine W_false rfl rfl ?_ | (refine W_ops (id := 3) rfl ?_ <;> refine T_ch 3 rfl ?_ <;> (refine T_go rfl ?_; refine G_true rfl (by with_reducible assumption) ?_) <;> apply T_nil) | refine W_region (id := 4) rfl rfl ?_ | (refine W_dops (id := 5) (bs := [0, 0, 3, 7, 15, 31, 63, 127, 255, 255, 1023, 2047, 4095, 8191, 16383, 32767, 65535, 131071, 131071, 131071, 917503, 1966079, 4063231, 8257535, 16777215, 33554431]) rfl (by decide +kernel) (by decide +kernel) ?_ <;> (refine U_go rfl ?_; refine H_free (by decide +kernel) rfl rfl rfl rfl rfl ?_) <;> (refine U_go rfl ?_; refine H_free (by decide +kernel) rfl rfl rfl rfl rfl ?_) <;> (refine U_go rfl ?_; refine H_op (by decide +kernel) (O_index rfl rfl rfl rfl rfl ‹_›) ?_) <;> (refine U_go rfl ?_; refine H_op (by decide +kernel) rfl ?_) <;> (refine U_go rfl ?_; refine H_op (by decide +kernel) rfl ?_) <;> (refine U_go rfl ?_; refine H_op (by decide +kernel) rfl ?_) <;> (refine U_go rfl ?_; refine H_false (by decide +kernel) rfl (by with_reducible assumption) ?_) <;> (refine U_go rfl ?_; refine H_op (by decide +kernel) rfl ?_) <;> (refine U_go rfl ?_; refine H_free (by decide +kernel) rfl rfl rfl rfl rfl ?_) <;> (refine U_go rfl ?_; refine H_free (by decide +kernel) rfl rfl rfl rfl rfl ?_) <;> (refine U_go rfl ?_; refine H_op (by decide +kernel) (O_index rfl rfl rfl rfl rfl ‹_›) ?_) <;> (refine U_go rfl ?_; refine H_op (by decide +kernel) rfl ?_) <;> (refine U_go rfl ?_; refine H_op (by decide +kernel) rfl ?_) <;> (refine U_go rfl ?_; refine H_op (by decide +kernel) rfl ?_) <;> (refine U_go rfl ?_; refine H_true (by decide +kernel) rfl (by with_reducible assumption) ?_) <;> (refine U_go rfl ?_; refine H_op (by decide +kernel) rfl ?_) <;> (refine U_go rfl ?_; refine H_op (by decide +kernel) rfl ?_) <;> (refine U_go rfl ?_; refine H_free (by decide +kernel) rfl rfl rfl rfl rfl ?_) <;> (refine U_go rfl ?_; refine H_free (by decide +kernel) rfl rfl rfl rfl rfl ?_) <;> (refine U_go rfl ?_; refine H_free (by decide +kernel) rfl rfl rfl rfl rfl ?_) <;> (refine U_go rfl ?_; refine H_free (by decide +kernel) rfl (O_index rfl rfl rfl rfl rfl ‹_›) rfl rfl rfl ?_) <;> (refine U_go rfl ?_; refine H_free (by decide +kernel) rfl rfl rfl rfl rfl ?_) <;> (refine U_go rfl ?_; refine H_free (by decide +kernel) rfl rfl rfl rfl rfl ?_) <;> (refine U_go rfl ?_; refine H_free (by decide +kernel) rfl rfl rfl rfl rfl ?_) <;> (refine U_go rfl ?_; refine H_false (by decide +kernel) (O_call rfl rfl rfl rfl ‹_›) rfl ?_) <;> (refine U_go rfl ?_; refine H_op (by decide +kernel) rfl ?_) <;> apply U_nil) | apply W_skip | apply W_block))
            exact ⟨(), rfl, by simpa using hJ⟩
          · (repeat' (first | apply W_seq | refine W_true rfl rfl ?_ | (refine W_ops (id := 3) rfl ?_ <;> refine T_ch 3 rfl ?_ <;> (refine T_go rfl ?_; refine G_true rfl (by with_reducible assumption) ?_) <;> apply T_nil) | (refine W_dops (id := 5) (bs := [0, 0, 3, 7, 15, 31, 63, 127, 255, 255, 1023, 2047, 4095, 8191, 16383, 32767, 65535, 131071, 131071, 131071, 917503, 1966079, 4063231, 8257535, 16777215, 33554431]) rfl (by decide +kernel) (by decide +kernel) ?_ <;> (refine U_go rfl ?_; refine H_free (by decide +kernel) rfl rfl rfl rfl rfl ?_) <;> (refine U_go rfl ?_; refine H_free (by decide +kernel) rfl rfl rfl rfl rfl ?_) <;> (refine U_go rfl ?_; refine H_op (by decide +kernel) (O_index rfl rfl rfl rfl rfl ‹_›) ?_) <;> (refine U_go rfl ?_; refine H_op (by decide +kernel) rfl ?_) <;> (refine U_go rfl ?_; refine H_op (by decide +kernel) rfl ?_) <;> (refine U_go rfl ?_; refine H_op (by decide +kernel) rfl ?_) <;> (refine U_go rfl ?_; refine H_false (by decide +kernel) rfl (by with_reducible assumption) ?_) <;> (refine U_go rfl ?_; refine H_op (by decide +kernel) rfl ?_) <;> (refine U_go rfl ?_; refine H_free (by decide +kernel) rfl rfl rfl rfl rfl ?_) <;> (refine U_go rfl ?_; refine H_free (by decide +kernel) rfl rfl rfl rfl rfl ?_) <;> (refine U_go rfl ?_; refine H_op (by decide +kernel) (O_index rfl rfl rfl rfl rfl ‹_›) ?_) <;> (refine U_go rfl ?_; refine H_op (by decide +kernel) rfl ?_) <;> (refine U_go rfl ?_; refine H_op (by decide +kernel) rfl ?_) <;> (refine U_go rfl ?_; refine H_op (by decide +kernel) rfl ?_) <;> (refine U_go rfl ?_; refine H_true (by decide +kernel) rfl (by with_reducible assumption) ?_) <;> (refine U_go rfl ?_; refine H_op (by decide +kernel) rfl ?_) <;> (refine U_go rfl ?_; refine H_op (by decide +kernel) rfl ?_) <;> (refine U_go rfl ?_; refine H_free (by decide +kernel) rfl rfl rfl rfl rfl ?_) <;> (refine U_go rfl ?_; refine H_free (by decide +kernel) rfl rfl rfl rfl rfl ?_) <;> (refine U_go rfl ?_; refine H_free (by decide +kernel) rfl rfl rfl rfl rfl ?_) <;> (refine U_go rfl ?_; refine H_free (by decide +kernel) rfl (O_index rfl rfl rfl rfl rfl ‹_›) rfl rfl rfl ?_) <;> (refine U_go rfl ?_; refine H_free (by decide +kernel) rfl rfl rfl rfl rfl ?_) <;> (refine U_go rfl ?_; refine H_free (by decide +kernel) rfl rfl rfl rfl rfl ?_) <;> (refine U_go rfl ?_; refine H_free (by decide +kernel) rfl rfl rfl rfl rfl ?_) <;> (refine U_go rfl ?_; refine H_true (by decide +kernel) (O_call rfl rfl rfl rfl ‹_›) rfl ?_) <;> (refine U_go rfl ?_; refine H_op (by decide +kernel) rfl ?_) <;> apply U_nil) | refine W_region (id := 6) rfl rfl ?_ | apply W_skip | apply W_block | apply W_ret))
            exact ⟨.inl rfl, Eq.trans (b := some (AV.bool _, _)) rfl (by rw [← hJ]; rfl)⟩
        | false =>
          rw [c4] at hJ
          (repeat' (first | apply W_seq | refine W_true rfl rfl ?_ | refine W_false rfl rfl ?_ | (refine W_ops (id := 3) rfl ?_ <;> refine T_ch 3 rfl ?_ <;> (refine T_go rfl ?_; refine G_true rfl (by with_reducible assumption) ?_) <;> apply T_nil) | refine W_region (id := 4) rfl rfl ?_ | (refine W_dops (id := 5) (bs := [0, 0, 3, 7, 15, 31, 63, 127, 255, 255, 1023, 2047, 4095, 8191, 16383, 32767, 65535, 131071, 131071, 131071, 917503, 1966079, 4063231, 8257535, 16777215, 33554431]) rfl (by decide +kernel) (by decide +kernel) ?_ <;> (refine U_go rfl ?_; refine H_free (by decide +kernel) rfl rfl rfl rfl rfl ?_) <;> (refine U_go rfl ?_; refine H_free (by decide +kernel) rfl rfl rfl rfl rfl ?_) <;> (refine U_go rfl ?_; refine H_op (by decide +kernel) (O_index rfl rfl rfl rfl rfl ‹_›) ?_) <;> (refine U_go rfl ?_; refine H_op (by decide +kernel) rfl ?_) <;> (refine U_go rfl ?_; refine H_op (by decide +kernel) rfl ?_) <;> (refine U_go rfl ?_; refine H_op (by decide +kernel) rfl ?_) <;> (refine U_go rfl ?_; refine H_false (by decide +kernel) rfl (by with_reducible assumption) ?_) <;> (refine U_go rfl ?_; refine H_op (by decide +kernel) rfl ?_) <;> (refine U_go rfl ?_; refine H_free (by decide +kernel) rfl rfl rfl rfl rfl ?_) <;> (refine U_go rfl ?_; refine H_free (by decide +kernel) rfl rfl rfl rfl rfl ?_) <;> (refine U_go rfl ?_; refine H_op (by decide +kernel) (O_index rfl rfl rfl rfl rfl ‹_›) ?_) <;> (refine U_go rfl ?_; refine H_op (by decide +kernel) rfl ?_) <;> (refine U_go rfl ?_; refine H_op (by decide +kernel) rfl ?_) <;> (refine U_go rfl ?_; refine H_op (by decide +kernel) rfl ?_) <;> (refine U_go rfl ?_; refine H_false (by decide +kernel) rfl (by with_reducible assumption) ?_) <;> (refine U_go rfl ?_; refine H_op (by decide +kernel) rfl ?_) <;> (refine U_go rfl ?_; refine H_op (by decide +kernel) rfl ?_) <;> refine U_skip rfl ?_ <;> refine U_skip rfl ?_ <;> refine U_skip rfl ?_ <;> refine U_skip rfl ?_ <;> refine U_skip rfl ?_ <;> refine U_skip rfl ?_ <;> refine U_skip rfl ?_ <;> refine U_skip rfl ?_ <;> (refine U_go rfl ?_; refine H_op (by decide +kernel) rfl ?_) <;> apply U_nil) | apply W_skip | apply W_block))
          exact ⟨(), rfl, by simpa using hJ⟩
    · intro a hJ
      have hlt := ge_itm (L := L)
      (repeat' (first | apply W_seq | refine W_false rfl rfl ?_ | (refine W_ops (id := 3) rfl ?_ <;> refine T_ch 3 rfl ?_ <;> (refine T_go rfl ?_; refine G_false rfl (by with_reducible assumption) ?_) <;> apply T_nil) | refine W_region (id := 7) rfl rfl ?_ | apply W_ret | apply W_exit))
      exact ⟨.inl rfl, Eq.trans (b := some (AV.bool _, _)) rfl (by rw [← hJ]; rfl)⟩
/- Releases: ref21.Released. -/
def argsS : Sm' → List Ex'
  | .mk _ _ a _ _ => a
def snn : Sm' → Int
  | .mk _ nn _ _ _ => nn
def eqM (a : Ex') : Ex' := .mk 13 0 0 [mvE 0 a, mvE 1 a]
def refF (p : Pr') (low : Int) (at_ : List Int) : List Pl → Ex' → Option Ex'
  | [], e => some e
  | (n, s, _, ar) :: r, e =>
    if inB at_ n = true then (if (withinB ar (snn s) && !changedB p (a0E (argsS s))) = true then refF p low at_ r (if withinB (snn s) low = true then bothE e (eqM (a0E (argsS s))) else e) else none)
    else refF p low at_ r e
def refO (p : Pr') (low : Int) (at_ : List Int) : Option Ex' → AV
  | some e => .tup [.agg (clC 2 e (halfE p.vars low (lastR p)) low 1), .bool true]
  | none => .tup [.agg zC, .bool false]
def refV (p : Pr') (low : Int) (at_ : List Int) (fl : List (Int × Int × Int)) : AV :=
  if fl.all (fun x => inB at_ x.1) = true then refO p low at_ (refF p low at_ (plsR p) (halfE p.vars low (levs p))) else .tup [.agg zC, .bool false]
def rrS1 (h : Heap) (p : Pr') (low : Int) (at_ : List Int) (v : AV) (i : Int) (_ : Unit) : St :=
  { env := [(1, .v (.int .i64 low)), (2, .v (.vs 1 (intsC at_))), (3, .p 3 0), (6, .p 6 0), (8, .v (.vs 1 (intsC (lastR p)))), (9, .v v), (10, .v (.int .i64 i))],
    loc := [(3, prC p), (6, [.int .i64 0, .int .i64 0, .int .i64 0, .int .i64 0, .nils, .int .i64 0, .int .i64 0, .int .i64 0, .nils, .int .i64 0, .int .i64 0])], heap := h, inRound := false, lo := h.length }
abbrev CC (e e2 : Ex') (low : Int) : HObj := .cells 33 (clC 2 e e2 low 1)
abbrev HC (h : Heap) (e e2 : Ex') (low : Int) : Heap := (h ++ [HObj.cells 33 [.int .i64 0, .int .i64 0, .int .i64 0, .int .i64 0, .nils, .int .i64 0, .int .i64 0, .int .i64 0, .nils, .int .i64 0, .int .i64 0]]).set h.length (CC e e2 low)
def rrS2 (h : Heap) (p : Pr') (low : Int) (at_ : List Int) (v : AV) (i : Int) (H : Heap) : St :=
  { env := [(1, .v (.int .i64 low)), (2, .v (.vs 1 (intsC at_))), (3, .p 3 0), (6, .p 6 0), (11, .v (.hp h.length 11 0)), (13, .v v), (14, .v (.int .i64 i))],
    loc := [(3, prC p), (6, [.int .i64 0, .int .i64 0, .int .i64 0, .int .i64 0, .nils, .int .i64 0, .int .i64 0, .int .i64 0, .nils, .int .i64 0, .int .i64 0])], heap := H, inRound := false, lo := h.length }
set_option maxHeartbeats 12000000 in
theorem relR_run (p : Pr') (low : Int) (at_ : List Int) (k : Nat) (hk : 2 * smsK p.body + p.vars.length + 1500 ≤ k) (hkM : smsK p.body ≤ 900000) (hN : smsN p.body ≤ 600) (hb : prB p) (hv1 : 1 ≤ p.vars.length) (hv2 : p.vars.length ≤ 18) (hvm : vmL p.vars.length p.body) (hB : lvsB (levs p))
    (hal : at_.length + 10 < k) (hal2 : at_.length < 9223372036854775808) (hvc : ∀ v, v ∈ p.vars → 1 ≤ v.cells ∧ v.cells ≤ 1000)
    (hat : ∀ x, x ∈ plsR p → inB at_ x.1 = true → ∃ a0, argsS x.2.1 = [a0]) (fl : List (Int × Int × Int)) (hfl : (plsR p).flatMap flPl = fl.map flC) (h : Heap) (lo : Nat) :
    call Tryz.prog cfg (k + 1) lo (.func 11) [.agg (prC p), .int .i64 low, .vs 1 (intsC at_)] h = some (refV p low at_ fl, h) := by
  have hMv := movedR_run p (k - 1) (by omega) hN hb hv1 hv2 hvm hB h h.length
  have hIn := fun n H L => inR_run at_ n (k - 1) (by omega) (by omega) H L
  rw [show k - 1 + 1 = k by omega] at hMv hIn
  have hlast : (lastR p).length = p.vars.length := (mvL_ok (mvR_ok p.vars p.vars.length) p.body (levs p) 0 (levs_len p) hB lvB0 hvm).1
  have hCl := claimR_run p.width p.vars p.body low (levs p) (lastR p) (k - 1) (by omega) (by omega) (fun v hv => by have := hvc v hv; omega) (levs_len p) hlast h h.length
  have hL := levelsR_run p (k - 1) (by omega) (by omega) h h.length
  have hPl := fun H L => places_run p (k - 1) (by omega) hN hb hv1 hv2 hvm hB H L
  rw [show k - 1 + 1 = k by omega] at hCl hL hPl
  rw [accV_ne (levs_ne hv1)] at hL
  have hok := plL_ok (K := smsK p.body) (mvR_ok p.vars p.vars.length) p.body (levs p) 0 0 (Nat.le_refl _) hb.2.2 hvm (levs_len p) hB lvB0
  have hlen := plL_len (putR p.vars) ofA p.body (levs p) 0 0
  have e1 : plsR p = plL (putR p.vars) ofA p.body (levs p) 0 0 := rfl
  rw [← e1] at hok hlen
  have hflr := flPls_len (plsR p)
  have hfll : fl.length ≤ (plsR p).length := by have := congrArg List.length hfl; rw [List.length_map] at this; omega
  unfold refV
  rw [hfl] at hMv
  clear hfl hflr
  have hch := fun a0 (ha : exK a0 ≤ smsK p.body + 1) (hb0 : exB a0) H L => changed_run p a0 (k - 1) (by omega) hN hb hb0 H L
  rw [show k - 1 + 1 = k by omega] at hch
  obtain ⟨R, hR⟩ : ∃ R, R = refO p low at_ (refF p low at_ (plsR p) (halfE p.vars low (levs p))) := ⟨_, rfl⟩
  rw [← hR]
  generalize hpl : plsR p = pls at *
  have hO : refO p low at_ = fun o => match o with | some e => .tup [.agg (clC 2 e (halfE p.vars low (lastR p)) low 1), .bool true] | none => .tup [.agg zC, .bool false] := by funext o; cases o <;> rfl
  have hX : ∀ x r e, refF p low at_ (x :: r) e = if inB at_ x.1 = true then (if (withinB x.2.2.2 (snn x.2.1) && !changedB p (a0E (argsS x.2.1))) = true then refF p low at_ r (if withinB (snn x.2.1) low = true then bothE e (eqM (a0E (argsS x.2.1))) else e) else none) else refF p low at_ r e := fun x r e => rfl
  have hX0 : ∀ e, refF p low at_ [] e = some e := fun e => rfl
  rw [hO] at hR
  generalize refF p low at_ = FF at *
  clear hO
  generalize halfE p.vars low (levs p) = E1 at *
  generalize halfE p.vars low (lastR p) = E2 at *
  generalize levs p = LV at *
  generalize hcB : changedB p = cB at *
  cases fl with
  | nil =>
    have hall : List.all ([] : List (Int × Int × Int)) (fun x => inB at_ x.1) = true := rfl
    rw [if_pos hall]
    obtain ⟨w, vs, body⟩ := p
    apply W_call Tryz.func11 rfl (Nat.le_of_ble_eq_true rfl) rfl rfl
    (repeat' (first | apply W_seq | refine W_region (id := 0) rfl rfl ?_ | (refine W_ops (id := 1) rfl ?_ <;> refine T_ch 1 rfl ?_ <;> (refine T_go rfl ?_; refine G_op (O_call rfl rfl rfl rfl ‹_›) ?_) <;> refine T_ch 5 rfl ?_ <;> apply T_nil) | refine W_region (id := 2) rfl rfl ?_ | apply W_block))
    apply W_iter (S := rrS1 h ⟨w, vs, body⟩ low at_ .nils) (l := ([] : List Unit)) (a0 := ()) (fun _ _ => True) (by simp) (by simp; omega) rfl trivial
    · intro i st rest a hi; simp at hi
    · intro _ _
      (repeat' (first | apply W_seq | refine W_false rfl rfl ?_ | (refine W_ops (id := 3) rfl ?_ <;> refine T_ch 3 rfl ?_ <;> (refine T_go rfl ?_; refine G_false rfl rfl ?_) <;> apply T_nil) | apply W_exit))
      have g0 : (h ++ [HObj.cells 33 [.int .i64 0, .int .i64 0, .int .i64 0, .int .i64 0, .nils, .int .i64 0, .int .i64 0, .int .i64 0, .nils, .int .i64 0, .int .i64 0]])[h.length]? = some (.cells 33 [.int .i64 0, .int .i64 0, .int .i64 0, .int .i64 0, .nils, .int .i64 0, .int .i64 0, .int .i64 0, .nils, .int .i64 0, .int .i64 0]) := by simp
      have g1 : h.length ≤ h.length := Nat.le_refl _
      obtain ⟨p1, n1, c1, a1⟩ := E1
      obtain ⟨p2, n2, c2, a2⟩ := E2
      have g2 : (HC h (.mk p1 n1 c1 a1) (.mk p2 n2 c2 a2) low)[h.length]? = some (CC (.mk p1 n1 c1 a1) (.mk p2 n2 c2 a2) low) := by simp [HC]
      have hPl0 := hPl (HC h (.mk p1 n1 c1 a1) (.mk p2 n2 c2 a2) low) h.length
      cases pls with
      | nil =>
        have hP1 : accV 8 (List.map plC []) = AV.nils := rfl
        rw [hP1] at hPl0
        rw [hX0] at hR
        (repeat' (first | apply W_seq | (refine W_dops (id := 7) (bs := [0, 0, 0, 4, 0, 31, 0, 127]) rfl (by decide +kernel) (by decide +kernel) ?_ <;> (refine U_go rfl ?_; refine H_free (by decide +kernel) rfl rfl rfl rfl rfl ?_) <;> (refine U_go rfl ?_; refine H_free (by decide +kernel) rfl rfl rfl rfl rfl ?_) <;> (refine U_go rfl ?_; refine H_free (by decide +kernel) rfl rfl rfl rfl rfl ?_) <;> (refine U_go rfl ?_; refine H_free (by decide +kernel) rfl (O_call rfl rfl rfl rfl ‹_›) rfl rfl rfl ?_) <;> (refine U_go rfl ?_; refine H_free (by decide +kernel) rfl rfl rfl rfl rfl ?_) <;> (refine U_go rfl ?_; refine H_free (by decide +kernel) rfl (O_call rfl rfl rfl rfl ‹_›) rfl rfl rfl ?_) <;> (refine U_go rfl ?_; refine H_make (by decide +kernel) rfl rfl rfl rfl rfl ?_) <;> (refine U_go rfl ?_; refine H_op (by decide +kernel) (O_storeH rfl rfl rfl rfl ‹_› ⟨by assumption, rfl, rfl, Nat.le_of_ble_eq_true rfl⟩) ?_) <;> apply U_nil) | (refine W_ops (id := 8) rfl ?_ <;> refine T_ch 1 rfl ?_ <;> (refine T_go rfl ?_; refine G_op (O_call rfl rfl rfl rfl ‹_›) ?_) <;> refine T_ch 5 rfl ?_ <;> apply T_nil) | refine W_region (id := 9) rfl rfl ?_ | apply W_block))
        apply W_iter (S := rrS2 h ⟨w, vs, body⟩ low at_ .nils) (l := ([] : List Unit)) (a0 := HC h (.mk p1 n1 c1 a1) (.mk p2 n2 c2 a2) low) (fun _ H => H[h.length]? = some (CC (.mk p1 n1 c1 a1) (.mk p2 n2 c2 a2) low)) (by simp) (by simp; omega) rfl g2
        · intro i st rest a hi; simp at hi
        · intro H hJ
          (repeat' (first | apply W_seq | refine W_false rfl rfl ?_ | (refine W_ops (id := 10) rfl ?_ <;> refine T_ch 3 rfl ?_ <;> (refine T_go rfl ?_; refine G_false rfl rfl ?_) <;> apply T_nil) | (refine W_ops (id := 18) rfl ?_ <;> (refine T_go rfl ?_; refine G_op (O_loadH rfl rfl rfl ‹_› rfl rfl) ?_) <;> refine T_ch 2 rfl ?_ <;> apply T_nil) | apply W_ret | apply W_exit))
          exact ⟨.inl rfl, Eq.trans (b := some (AV.tup [.agg (clC 2 (.mk p1 n1 c1 a1) (.mk p2 n2 c2 a2) low 1), .bool true], h)) rfl (by rw [hR])⟩
      | cons y0 pls0 =>
        have hP1 : accV 8 (List.map plC (y0 :: pls0)) = .vs 8 (List.map plC (y0 :: pls0)) := rfl
        rw [hP1] at hPl0
        generalize hpl0 : y0 :: pls0 = pls at *
        (repeat' (first | apply W_seq | (refine W_dops (id := 7) (bs := [0, 0, 0, 4, 0, 31, 0, 127]) rfl (by decide +kernel) (by decide +kernel) ?_ <;> (refine U_go rfl ?_; refine H_free (by decide +kernel) rfl rfl rfl rfl rfl ?_) <;> (refine U_go rfl ?_; refine H_free (by decide +kernel) rfl rfl rfl rfl rfl ?_) <;> (refine U_go rfl ?_; refine H_free (by decide +kernel) rfl rfl rfl rfl rfl ?_) <;> (refine U_go rfl ?_; refine H_free (by decide +kernel) rfl (O_call rfl rfl rfl rfl ‹_›) rfl rfl rfl ?_) <;> (refine U_go rfl ?_; refine H_free (by decide +kernel) rfl rfl rfl rfl rfl ?_) <;> (refine U_go rfl ?_; refine H_free (by decide +kernel) rfl (O_call rfl rfl rfl rfl ‹_›) rfl rfl rfl ?_) <;> (refine U_go rfl ?_; refine H_make (by decide +kernel) rfl rfl rfl rfl rfl ?_) <;> (refine U_go rfl ?_; refine H_op (by decide +kernel) (O_storeH rfl rfl rfl rfl ‹_› ⟨by assumption, rfl, rfl, Nat.le_of_ble_eq_true rfl⟩) ?_) <;> apply U_nil) | (refine W_ops (id := 8) rfl ?_ <;> refine T_ch 1 rfl ?_ <;> (refine T_go rfl ?_; refine G_op (O_call rfl rfl rfl rfl ‹_›) ?_) <;> refine T_ch 5 rfl ?_ <;> apply T_nil) | refine W_region (id := 9) rfl rfl ?_ | apply W_block))
        apply W_iter (S := rrS2 h ⟨w, vs, body⟩ low at_ (.vs 8 (pls.map plC))) (l := pls) (a0 := HC h (.mk p1 n1 c1 a1) (.mk p2 n2 c2 a2) low) (fun rest H => ∃ e, H[h.length]? = some (CC e (.mk p2 n2 c2 a2) low) ∧ R = (match FF rest e with | some e => .tup [.agg (clC 2 e (.mk p2 n2 c2 a2) low 1), .bool true] | none => .tup [.agg zC, .bool false])) (by omega) (by omega) rfl ⟨_, g2, hR⟩
        · rintro i x rest H hi hd hil ⟨e, hH, hJ⟩
          have hlt : decide ((i : Int) < ((pls.map plC).length : Int)) = true := decide_eq_true (by rw [List.length_map]; omega)
          have hrow : (pls.map plC)[i]? = some (plC x) := by rw [List.getElem?_map, hi]; rfl
          have hxo := hok x (List.mem_of_getElem? hi)
          have hxa := hat x (List.mem_of_getElem? hi)
          rw [hX] at hJ
          obtain ⟨n, ⟨op, nn, ar, t, el⟩, lv, rd⟩ := x
          have hI := hIn n H h.length
          dsimp only at hJ hxa
          cases hin : inB at_ n with
          | false =>
            rw [hin] at hI
            rw [hin, if_neg (by simp)] at hJ
            (repeat' (first | apply W_seq | refine W_true rfl rfl ?_ | (refine W_ops (id := 10) rfl ?_ <;> refine T_ch 3 rfl ?_ <;> (refine T_go rfl ?_; refine G_true rfl (by with_reducible assumption) ?_) <;> apply T_nil) | refine W_region (id := 11) rfl rfl ?_ | (refine W_ops (id := 12) rfl ?_ <;> refine T_ch 2 rfl ?_ <;> (refine T_go rfl ?_; refine G_op (O_index rfl rfl rfl rfl rfl ‹_›) ?_) <;> refine T_ch 2 rfl ?_ <;> (refine T_go rfl ?_; refine G_op rfl ?_) <;> refine T_ch 2 rfl ?_ <;> apply T_nil) | (refine W_ops (id := 13) rfl ?_ <;> refine T_ch 3 rfl ?_ <;> (refine T_go rfl ?_; refine G_op (O_index rfl rfl rfl rfl rfl ‹_›) ?_) <;> refine T_ch 2 rfl ?_ <;> (refine T_go rfl ?_; refine G_op rfl ?_) <;> (refine T_go rfl ?_; refine G_false (O_call rfl rfl rfl rfl ‹_›) rfl ?_) <;> refine T_ch 1 rfl ?_ <;> apply T_nil) | apply W_skip | apply W_block | apply W_exit))
            exact ⟨H, rfl, e, hH, hJ⟩
          | true =>
            rw [hin] at hI
            rw [hin, if_pos rfl] at hJ
            obtain ⟨a0, ha0⟩ := hxa hin
            have ha0' : ar = [a0] := ha0
            subst ha0'
            obtain ⟨o1, o2, o3, o4, o5⟩ := hxo
            have hm := exsK_mem [a0] 0 a0 rfl
            have hb0 : exB a0 := o3.1
            have hC := hch a0 (by omega) hb0 H h.length
            have hW := withinR_run rd nn (k - 1) h.length H
            have hW2 := withinR_run nn low (k - 1) h.length H
            have hM0 := moveR_run 0 k a0 (by omega) (by omega) hb0 H H.length
            have hM1 := moveR_run 1 k a0 (by omega) (by omega) hb0 H H.length
            have hOf := ofR2_run (k - 1) H H.length 13 [exC (mvE 0 a0), exC (mvE 1 a0)]
            have hBo := bothR_run (k - 2) H h.length e (.mk 13 0 0 [mvE 0 a0, mvE 1 a0])
            rw [show k - 1 + 1 = k by omega] at hW hW2 hOf
            rw [show k - 2 + 2 = k by omega] at hBo
            have hsn : snn (.mk op nn [a0] t el) = nn := rfl
            have hsa : a0E (argsS (.mk op nn [a0] t el)) = a0 := rfl
            rw [hsn, hsa] at hJ
            have heq : eqM a0 = .mk 13 0 0 [mvE 0 a0, mvE 1 a0] := rfl
            rw [heq] at hJ
            generalize withinB rd nn = q1 at *
            generalize withinB nn low = q2 at *
            generalize cB a0 = q3 at *
            generalize mvE 0 a0 = m0 at *
            generalize mvE 1 a0 = m1 at *
            have hbo2 : bothE e (.mk 13 0 0 [m0, m1]) = .mk 7 0 0 [e, .mk 13 0 0 [m0, m1]] := rfl
            rw [hbo2] at hJ hBo
            obtain ⟨z1, z2, z3, z4⟩ := a0
            obtain ⟨m01, m02, m03, m04⟩ := m0
            obtain ⟨m11, m12, m13, m14⟩ := m1
            obtain ⟨e1, e2, e3, e4⟩ := e
            cases q1
            · have hJ' : R = .tup [.agg zC, .bool false] := hJ
              (repeat' (first | apply W_seq | refine W_true rfl rfl ?_ | refine W_false rfl rfl ?_ | (refine W_ops (id := 10) rfl ?_ <;> refine T_ch 3 rfl ?_ <;> (refine T_go rfl ?_; refine G_true rfl (by with_reducible assumption) ?_) <;> apply T_nil) | (refine W_ops (id := 12) rfl ?_ <;> refine T_ch 2 rfl ?_ <;> (refine T_go rfl ?_; refine G_op (O_index rfl rfl rfl rfl rfl ‹_›) ?_) <;> refine T_ch 2 rfl ?_ <;> (refine T_go rfl ?_; refine G_op rfl ?_) <;> refine T_ch 2 rfl ?_ <;> apply T_nil) | (refine W_ops (id := 13) rfl ?_ <;> refine T_ch 3 rfl ?_ <;> (refine T_go rfl ?_; refine G_op (O_index rfl rfl rfl rfl rfl ‹_›) ?_) <;> refine T_ch 2 rfl ?_ <;> (refine T_go rfl ?_; refine G_op rfl ?_) <;> (refine T_go rfl ?_; refine G_true (O_call rfl rfl rfl rfl ‹_›) rfl ?_) <;> refine T_ch 1 rfl ?_ <;> apply T_nil) | (refine W_dops (id := 14) (bs := [0, 0, 3, 7, 15, 0, 32, 127, 255, 511, 1023, 1023, 3071, 7167, 15359, 32767, 65535]) rfl (by decide +kernel) (by decide +kernel) ?_ <;> (refine U_go rfl ?_; refine H_free (by decide +kernel) rfl rfl rfl rfl rfl ?_) <;> (refine U_go rfl ?_; refine H_free (by decide +kernel) rfl rfl rfl rfl rfl ?_) <;> (refine U_go rfl ?_; refine H_free (by decide +kernel) rfl (O_index rfl rfl rfl rfl rfl ‹_›) rfl rfl rfl ?_) <;> (refine U_go rfl ?_; refine H_free (by decide +kernel) rfl rfl rfl rfl rfl ?_) <;> (refine U_go rfl ?_; refine H_free (by decide +kernel) rfl rfl rfl rfl rfl ?_) <;> (refine U_go rfl ?_; refine H_free (by decide +kernel) rfl rfl rfl rfl rfl ?_) <;> (refine U_go rfl ?_; refine H_free (by decide +kernel) rfl rfl rfl rfl rfl ?_) <;> (refine U_go rfl ?_; refine H_false (by decide +kernel) (O_call rfl rfl rfl rfl ‹_›) rfl ?_) <;> (refine U_go rfl ?_; refine H_op (by decide +kernel) rfl ?_) <;> (refine U_go rfl ?_; refine H_op (by decide +kernel) rfl ?_) <;> refine U_skip rfl ?_ <;> refine U_skip rfl ?_ <;> refine U_skip rfl ?_ <;> refine U_skip rfl ?_ <;> refine U_skip rfl ?_ <;> refine U_skip rfl ?_ <;> (refine U_go rfl ?_; refine H_op (by decide +kernel) rfl ?_) <;> apply U_nil) | refine W_region (id := 15) rfl rfl ?_ | apply W_skip | apply W_block | apply W_ret))
              exact ⟨.inl rfl, Eq.trans (b := some (AV.tup [.agg zC, .bool false], h)) rfl (by rw [hJ'])⟩
            · cases q3
              · cases q2
                · (repeat' (first | apply W_seq | refine W_true rfl rfl ?_ | refine W_false rfl rfl ?_ | (refine W_ops (id := 10) rfl ?_ <;> refine T_ch 3 rfl ?_ <;> (refine T_go rfl ?_; refine G_true rfl (by with_reducible assumption) ?_) <;> apply T_nil) | refine W_region (id := 11) rfl rfl ?_ | (refine W_ops (id := 12) rfl ?_ <;> refine T_ch 2 rfl ?_ <;> (refine T_go rfl ?_; refine G_op (O_index rfl rfl rfl rfl rfl ‹_›) ?_) <;> refine T_ch 2 rfl ?_ <;> (refine T_go rfl ?_; refine G_op rfl ?_) <;> refine T_ch 2 rfl ?_ <;> apply T_nil) | (refine W_ops (id := 13) rfl ?_ <;> refine T_ch 3 rfl ?_ <;> (refine T_go rfl ?_; refine G_op (O_index rfl rfl rfl rfl rfl ‹_›) ?_) <;> refine T_ch 2 rfl ?_ <;> (refine T_go rfl ?_; refine G_op rfl ?_) <;> (refine T_go rfl ?_; refine G_true (O_call rfl rfl rfl rfl ‹_›) rfl ?_) <;> refine T_ch 1 rfl ?_ <;> apply T_nil) | (refine W_dops (id := 14) (bs := [0, 0, 3, 7, 15, 0, 32, 127, 255, 511, 1023, 1023, 3071, 7167, 15359, 32767, 65535]) rfl (by decide +kernel) (by decide +kernel) ?_ <;> (refine U_go rfl ?_; refine H_free (by decide +kernel) rfl rfl rfl rfl rfl ?_) <;> (refine U_go rfl ?_; refine H_free (by decide +kernel) rfl rfl rfl rfl rfl ?_) <;> (refine U_go rfl ?_; refine H_free (by decide +kernel) rfl (O_index rfl rfl rfl rfl rfl ‹_›) rfl rfl rfl ?_) <;> (refine U_go rfl ?_; refine H_free (by decide +kernel) rfl rfl rfl rfl rfl ?_) <;> (refine U_go rfl ?_; refine H_free (by decide +kernel) rfl rfl rfl rfl rfl ?_) <;> (refine U_go rfl ?_; refine H_free (by decide +kernel) rfl rfl rfl rfl rfl ?_) <;> (refine U_go rfl ?_; refine H_free (by decide +kernel) rfl rfl rfl rfl rfl ?_) <;> (refine U_go rfl ?_; refine H_true (by decide +kernel) (O_call rfl rfl rfl rfl ‹_›) rfl ?_) <;> (refine U_go rfl ?_; refine H_op (by decide +kernel) rfl ?_) <;> (refine U_go rfl ?_; refine H_op (by decide +kernel) rfl ?_) <;> (refine U_go rfl ?_; refine H_free (by decide +kernel) rfl rfl rfl rfl rfl ?_) <;> (refine U_go rfl ?_; refine H_free (by decide +kernel) rfl rfl rfl rfl rfl ?_) <;> (refine U_go rfl ?_; refine H_free (by decide +kernel) rfl rfl rfl rfl rfl ?_) <;> (refine U_go rfl ?_; refine H_free (by decide +kernel) rfl rfl rfl rfl rfl ?_) <;> (refine U_go rfl ?_; refine H_free (by decide +kernel) rfl rfl rfl rfl rfl ?_) <;> (refine U_go rfl ?_; refine H_false (by decide +kernel) (O_call rfl rfl rfl rfl ‹_›) rfl ?_) <;> (refine U_go rfl ?_; refine H_op (by decide +kernel) rfl ?_) <;> apply U_nil) | (refine W_ops (id := 16) rfl ?_ <;> refine T_ch 3 rfl ?_ <;> (refine T_go rfl ?_; refine G_false (O_call rfl rfl rfl rfl ‹_›) rfl ?_) <;> apply T_nil) | apply W_skip | apply W_block))
                  exact ⟨H, rfl, _, hH, hJ⟩
                · (repeat' (first | apply W_seq | refine W_true rfl rfl ?_ | refine W_false rfl rfl ?_ | (refine W_ops (id := 10) rfl ?_ <;> refine T_ch 3 rfl ?_ <;> (refine T_go rfl ?_; refine G_true rfl (by with_reducible assumption) ?_) <;> apply T_nil) | refine W_region (id := 11) rfl rfl ?_ | (refine W_ops (id := 12) rfl ?_ <;> refine T_ch 2 rfl ?_ <;> (refine T_go rfl ?_; refine G_op (O_index rfl rfl rfl rfl rfl ‹_›) ?_) <;> refine T_ch 2 rfl ?_ <;> (refine T_go rfl ?_; refine G_op rfl ?_) <;> refine T_ch 2 rfl ?_ <;> apply T_nil) | (refine W_ops (id := 13) rfl ?_ <;> refine T_ch 3 rfl ?_ <;> (refine T_go rfl ?_; refine G_op (O_index rfl rfl rfl rfl rfl ‹_›) ?_) <;> refine T_ch 2 rfl ?_ <;> (refine T_go rfl ?_; refine G_op rfl ?_) <;> (refine T_go rfl ?_; refine G_true (O_call rfl rfl rfl rfl ‹_›) rfl ?_) <;> refine T_ch 1 rfl ?_ <;> apply T_nil) | (refine W_dops (id := 14) (bs := [0, 0, 3, 7, 15, 0, 32, 127, 255, 511, 1023, 1023, 3071, 7167, 15359, 32767, 65535]) rfl (by decide +kernel) (by decide +kernel) ?_ <;> (refine U_go rfl ?_; refine H_free (by decide +kernel) rfl rfl rfl rfl rfl ?_) <;> (refine U_go rfl ?_; refine H_free (by decide +kernel) rfl rfl rfl rfl rfl ?_) <;> (refine U_go rfl ?_; refine H_free (by decide +kernel) rfl (O_index rfl rfl rfl rfl rfl ‹_›) rfl rfl rfl ?_) <;> (refine U_go rfl ?_; refine H_free (by decide +kernel) rfl rfl rfl rfl rfl ?_) <;> (refine U_go rfl ?_; refine H_free (by decide +kernel) rfl rfl rfl rfl rfl ?_) <;> (refine U_go rfl ?_; refine H_free (by decide +kernel) rfl rfl rfl rfl rfl ?_) <;> (refine U_go rfl ?_; refine H_free (by decide +kernel) rfl rfl rfl rfl rfl ?_) <;> (refine U_go rfl ?_; refine H_true (by decide +kernel) (O_call rfl rfl rfl rfl ‹_›) rfl ?_) <;> (refine U_go rfl ?_; refine H_op (by decide +kernel) rfl ?_) <;> (refine U_go rfl ?_; refine H_op (by decide +kernel) rfl ?_) <;> (refine U_go rfl ?_; refine H_free (by decide +kernel) rfl rfl rfl rfl rfl ?_) <;> (refine U_go rfl ?_; refine H_free (by decide +kernel) rfl rfl rfl rfl rfl ?_) <;> (refine U_go rfl ?_; refine H_free (by decide +kernel) rfl rfl rfl rfl rfl ?_) <;> (refine U_go rfl ?_; refine H_free (by decide +kernel) rfl rfl rfl rfl rfl ?_) <;> (refine U_go rfl ?_; refine H_free (by decide +kernel) rfl rfl rfl rfl rfl ?_) <;> (refine U_go rfl ?_; refine H_false (by decide +kernel) (O_call rfl rfl rfl rfl ‹_›) rfl ?_) <;> (refine U_go rfl ?_; refine H_op (by decide +kernel) rfl ?_) <;> apply U_nil) | (refine W_ops (id := 16) rfl ?_ <;> refine T_ch 3 rfl ?_ <;> (refine T_go rfl ?_; refine G_true (O_call rfl rfl rfl rfl ‹_›) rfl ?_) <;> apply T_nil) | (refine W_dops (id := 17) (bs := [0, 1, 0, 4, 12, 28, 60, 0, 128, 384, 896, 2044, 4092, 8188, 16383, 32767, 65535]) rfl (by decide +kernel) (by decide +kernel) ?_ <;> (refine U_go rfl ?_; refine H_free (by decide +kernel) rfl rfl rfl rfl rfl ?_) <;> (refine U_go rfl ?_; refine H_free (by decide +kernel) rfl (O_loadH rfl rfl rfl ‹_› rfl rfl) rfl rfl rfl ?_) <;> (refine U_go rfl ?_; refine H_free (by decide +kernel) rfl rfl rfl rfl rfl ?_) <;> (refine U_go rfl ?_; refine H_free (by decide +kernel) rfl rfl rfl rfl rfl ?_) <;> (refine U_go rfl ?_; refine H_free (by decide +kernel) rfl rfl rfl rfl rfl ?_) <;> (refine U_go rfl ?_; refine H_free (by decide +kernel) rfl rfl rfl rfl rfl ?_) <;> (refine U_go rfl ?_; refine H_free (by decide +kernel) rfl (O_call rfl rfl rfl rfl ‹_›) rfl rfl rfl ?_) <;> (refine U_go rfl ?_; refine H_free (by decide +kernel) rfl rfl rfl rfl rfl ?_) <;> (refine U_go rfl ?_; refine H_free (by decide +kernel) rfl rfl rfl rfl rfl ?_) <;> (refine U_go rfl ?_; refine H_free (by decide +kernel) rfl rfl rfl rfl rfl ?_) <;> (refine U_go rfl ?_; refine H_free (by decide +kernel) rfl rfl rfl rfl rfl ?_) <;> (refine U_go rfl ?_; refine H_free (by decide +kernel) rfl (O_call rfl rfl rfl rfl ‹_›) rfl rfl rfl ?_) <;> (refine U_go rfl ?_; refine H_free (by decide +kernel) rfl rfl rfl rfl rfl ?_) <;> (refine U_go rfl ?_; refine H_free (by decide +kernel) rfl (O_call rfl rfl rfl rfl ‹_›) rfl rfl rfl ?_) <;> (refine U_go rfl ?_; refine H_op (by decide +kernel) (O_call rfl rfl rfl rfl ‹_›) ?_) <;> (refine U_go rfl ?_; refine H_op (by decide +kernel) rfl ?_) <;> (refine U_go rfl ?_; refine H_op (by decide +kernel) (O_storeH rfl rfl rfl rfl ‹_› ⟨by assumption, rfl, rfl, Nat.le_of_ble_eq_true rfl⟩) ?_) <;> apply U_nil) | apply W_skip | apply W_block))
                  exact ⟨H.set h.length (CC (.mk 7 0 0 [.mk e1 e2 e3 e4, .mk 13 0 0 [.mk m01 m02 m03 m04, .mk m11 m12 m13 m14]]) (.mk p2 n2 c2 a2) low), rfl, .mk 7 0 0 [.mk e1 e2 e3 e4, .mk 13 0 0 [.mk m01 m02 m03 m04, .mk m11 m12 m13 m14]], List.getElem?_set_self (cells_lt hH), hJ⟩
              · have hJ' : R = .tup [.agg zC, .bool false] := hJ
                (repeat' (first | apply W_seq | refine W_true rfl rfl ?_ | refine W_false rfl rfl ?_ | (refine W_ops (id := 10) rfl ?_ <;> refine T_ch 3 rfl ?_ <;> (refine T_go rfl ?_; refine G_true rfl (by with_reducible assumption) ?_) <;> apply T_nil) | (refine W_ops (id := 12) rfl ?_ <;> refine T_ch 2 rfl ?_ <;> (refine T_go rfl ?_; refine G_op (O_index rfl rfl rfl rfl rfl ‹_›) ?_) <;> refine T_ch 2 rfl ?_ <;> (refine T_go rfl ?_; refine G_op rfl ?_) <;> refine T_ch 2 rfl ?_ <;> apply T_nil) | (refine W_ops (id := 13) rfl ?_ <;> refine T_ch 3 rfl ?_ <;> (refine T_go rfl ?_; refine G_op (O_index rfl rfl rfl rfl rfl ‹_›) ?_) <;> refine T_ch 2 rfl ?_ <;> (refine T_go rfl ?_; refine G_op rfl ?_) <;> (refine T_go rfl ?_; refine G_true (O_call rfl rfl rfl rfl ‹_›) rfl ?_) <;> refine T_ch 1 rfl ?_ <;> apply T_nil) | (refine W_dops (id := 14) (bs := [0, 0, 3, 7, 15, 0, 32, 127, 255, 511, 1023, 1023, 3071, 7167, 15359, 32767, 65535]) rfl (by decide +kernel) (by decide +kernel) ?_ <;> (refine U_go rfl ?_; refine H_free (by decide +kernel) rfl rfl rfl rfl rfl ?_) <;> (refine U_go rfl ?_; refine H_free (by decide +kernel) rfl rfl rfl rfl rfl ?_) <;> (refine U_go rfl ?_; refine H_free (by decide +kernel) rfl (O_index rfl rfl rfl rfl rfl ‹_›) rfl rfl rfl ?_) <;> (refine U_go rfl ?_; refine H_free (by decide +kernel) rfl rfl rfl rfl rfl ?_) <;> (refine U_go rfl ?_; refine H_free (by decide +kernel) rfl rfl rfl rfl rfl ?_) <;> (refine U_go rfl ?_; refine H_free (by decide +kernel) rfl rfl rfl rfl rfl ?_) <;> (refine U_go rfl ?_; refine H_free (by decide +kernel) rfl rfl rfl rfl rfl ?_) <;> (refine U_go rfl ?_; refine H_true (by decide +kernel) (O_call rfl rfl rfl rfl ‹_›) rfl ?_) <;> (refine U_go rfl ?_; refine H_op (by decide +kernel) rfl ?_) <;> (refine U_go rfl ?_; refine H_op (by decide +kernel) rfl ?_) <;> (refine U_go rfl ?_; refine H_free (by decide +kernel) rfl rfl rfl rfl rfl ?_) <;> (refine U_go rfl ?_; refine H_free (by decide +kernel) rfl rfl rfl rfl rfl ?_) <;> (refine U_go rfl ?_; refine H_free (by decide +kernel) rfl rfl rfl rfl rfl ?_) <;> (refine U_go rfl ?_; refine H_free (by decide +kernel) rfl rfl rfl rfl rfl ?_) <;> (refine U_go rfl ?_; refine H_free (by decide +kernel) rfl rfl rfl rfl rfl ?_) <;> (refine U_go rfl ?_; refine H_true (by decide +kernel) (O_call rfl rfl rfl rfl ‹_›) rfl ?_) <;> (refine U_go rfl ?_; refine H_op (by decide +kernel) rfl ?_) <;> apply U_nil) | refine W_region (id := 15) rfl rfl ?_ | apply W_skip | apply W_block | apply W_ret))
                exact ⟨.inl rfl, Eq.trans (b := some (AV.tup [.agg zC, .bool false], h)) rfl (by rw [hJ'])⟩
        · rintro H ⟨e, hH, hJ⟩
          have hlt : decide ((pls.length : Int) < ((pls.map plC).length : Int)) = false := decide_eq_false (by rw [List.length_map]; omega)
          rw [hX0] at hJ
          obtain ⟨e1, e2, e3, e4⟩ := e
          (repeat' (first | apply W_seq | refine W_false rfl rfl ?_ | (refine W_ops (id := 10) rfl ?_ <;> refine T_ch 3 rfl ?_ <;> (refine T_go rfl ?_; refine G_false rfl (by with_reducible assumption) ?_) <;> apply T_nil) | (refine W_ops (id := 18) rfl ?_ <;> (refine T_go rfl ?_; refine G_op (O_loadH rfl rfl rfl ‹_› rfl rfl) ?_) <;> refine T_ch 2 rfl ?_ <;> apply T_nil) | apply W_ret | apply W_exit))
          exact ⟨.inl rfl, Eq.trans (b := some (AV.tup [.agg (clC 2 (.mk e1 e2 e3 e4) (.mk p2 n2 c2 a2) low 1), .bool true], h)) rfl (by rw [hJ])⟩
  | cons x0 fl0 =>
    generalize hff : x0 :: fl0 = fl at *
    have hacc : accV 3 (fl.map flC) = .vs 3 (fl.map flC) := by subst hff; rfl
    rw [hacc] at hMv
    obtain ⟨w, vs, body⟩ := p
    apply W_call Tryz.func11 rfl (Nat.le_of_ble_eq_true rfl) rfl rfl
    (repeat' (first | apply W_seq | refine W_region (id := 0) rfl rfl ?_ | (refine W_ops (id := 1) rfl ?_ <;> refine T_ch 1 rfl ?_ <;> (refine T_go rfl ?_; refine G_op (O_call rfl rfl rfl rfl ‹_›) ?_) <;> refine T_ch 5 rfl ?_ <;> apply T_nil) | refine W_region (id := 2) rfl rfl ?_ | apply W_block))
    apply W_iter (S := rrS1 h ⟨w, vs, body⟩ low at_ (.vs 3 (fl.map flC))) (l := fl) (a0 := ()) (fun rest _ => rest.all (fun x => inB at_ x.1) = fl.all (fun x => inB at_ x.1)) (by omega) (by omega) rfl rfl
    · intro i x rest a hi hd hil hJ
      have hlt : decide ((i : Int) < ((fl.map flC).length : Int)) = true := decide_eq_true (by rw [List.length_map]; omega)
      have hrow : (fl.map flC)[i]? = some (flC x) := by rw [List.getElem?_map, hi]; rfl
      have hI := hIn x.1 h h.length
      rw [List.all_cons] at hJ
      obtain ⟨f1, f2, f3⟩ := x
      dsimp only at hI hJ
      cases hin : inB at_ f1 with
      | true =>
        rw [hin] at hI hJ
        (repeat' (first | apply W_seq | refine W_true rfl rfl ?_ | refine W_false rfl rfl ?_ | (refine W_ops (id := 3) rfl ?_ <;> refine T_ch 3 rfl ?_ <;> (refine T_go rfl ?_; refine G_true rfl (by with_reducible assumption) ?_) <;> apply T_nil) | refine W_region (id := 4) rfl rfl ?_ | (refine W_ops (id := 5) rfl ?_ <;> refine T_ch 3 rfl ?_ <;> (refine T_go rfl ?_; refine G_op (O_index rfl rfl rfl rfl rfl ‹_›) ?_) <;> refine T_ch 1 rfl ?_ <;> (refine T_go rfl ?_; refine G_op rfl ?_) <;> (refine T_go rfl ?_; refine G_true (O_call rfl rfl rfl rfl ‹_›) rfl ?_) <;> refine T_ch 1 rfl ?_ <;> apply T_nil) | apply W_skip | apply W_block))
        exact ⟨(), rfl, by simpa using hJ⟩
      | false =>
        rw [hin] at hI hJ
        rw [← hJ, if_neg (by simp)]
        (repeat' (first | apply W_seq | refine W_true rfl rfl ?_ | (refine W_ops (id := 3) rfl ?_ <;> refine T_ch 3 rfl ?_ <;> (refine T_go rfl ?_; refine G_true rfl (by with_reducible assumption) ?_) <;> apply T_nil) | (refine W_ops (id := 5) rfl ?_ <;> refine T_ch 3 rfl ?_ <;> (refine T_go rfl ?_; refine G_op (O_index rfl rfl rfl rfl rfl ‹_›) ?_) <;> refine T_ch 1 rfl ?_ <;> (refine T_go rfl ?_; refine G_op rfl ?_) <;> (refine T_go rfl ?_; refine G_false (O_call rfl rfl rfl rfl ‹_›) rfl ?_) <;> refine T_ch 1 rfl ?_ <;> apply T_nil) | refine W_region (id := 6) rfl rfl ?_ | apply W_skip | apply W_block | apply W_ret))
        exact ⟨.inl rfl, rfl⟩
    · intro _ hJ
      have hlt : decide ((fl.length : Int) < ((fl.map flC).length : Int)) = false := decide_eq_false (by rw [List.length_map]; omega)
      rw [show fl.all (fun x => inB at_ x.1) = true from hJ.symm, if_pos rfl]
      (repeat' (first | apply W_seq | refine W_false rfl rfl ?_ | (refine W_ops (id := 3) rfl ?_ <;> refine T_ch 3 rfl ?_ <;> (refine T_go rfl ?_; refine G_false rfl (by with_reducible assumption) ?_) <;> apply T_nil) | apply W_exit))
      have g0 : (h ++ [HObj.cells 33 [.int .i64 0, .int .i64 0, .int .i64 0, .int .i64 0, .nils, .int .i64 0, .int .i64 0, .int .i64 0, .nils, .int .i64 0, .int .i64 0]])[h.length]? = some (.cells 33 [.int .i64 0, .int .i64 0, .int .i64 0, .int .i64 0, .nils, .int .i64 0, .int .i64 0, .int .i64 0, .nils, .int .i64 0, .int .i64 0]) := by simp
      have g1 : h.length ≤ h.length := Nat.le_refl _
      obtain ⟨p1, n1, c1, a1⟩ := E1
      obtain ⟨p2, n2, c2, a2⟩ := E2
      have g2 : (HC h (.mk p1 n1 c1 a1) (.mk p2 n2 c2 a2) low)[h.length]? = some (CC (.mk p1 n1 c1 a1) (.mk p2 n2 c2 a2) low) := by simp [HC]
      have hPl0 := hPl (HC h (.mk p1 n1 c1 a1) (.mk p2 n2 c2 a2) low) h.length
      cases pls with
      | nil =>
        have hP1 : accV 8 (List.map plC []) = AV.nils := rfl
        rw [hP1] at hPl0
        rw [hX0] at hR
        (repeat' (first | apply W_seq | (refine W_dops (id := 7) (bs := [0, 0, 0, 4, 0, 31, 0, 127]) rfl (by decide +kernel) (by decide +kernel) ?_ <;> (refine U_go rfl ?_; refine H_free (by decide +kernel) rfl rfl rfl rfl rfl ?_) <;> (refine U_go rfl ?_; refine H_free (by decide +kernel) rfl rfl rfl rfl rfl ?_) <;> (refine U_go rfl ?_; refine H_free (by decide +kernel) rfl rfl rfl rfl rfl ?_) <;> (refine U_go rfl ?_; refine H_free (by decide +kernel) rfl (O_call rfl rfl rfl rfl ‹_›) rfl rfl rfl ?_) <;> (refine U_go rfl ?_; refine H_free (by decide +kernel) rfl rfl rfl rfl rfl ?_) <;> (refine U_go rfl ?_; refine H_free (by decide +kernel) rfl (O_call rfl rfl rfl rfl ‹_›) rfl rfl rfl ?_) <;> (refine U_go rfl ?_; refine H_make (by decide +kernel) rfl rfl rfl rfl rfl ?_) <;> (refine U_go rfl ?_; refine H_op (by decide +kernel) (O_storeH rfl rfl rfl rfl ‹_› ⟨by assumption, rfl, rfl, Nat.le_of_ble_eq_true rfl⟩) ?_) <;> apply U_nil) | (refine W_ops (id := 8) rfl ?_ <;> refine T_ch 1 rfl ?_ <;> (refine T_go rfl ?_; refine G_op (O_call rfl rfl rfl rfl ‹_›) ?_) <;> refine T_ch 5 rfl ?_ <;> apply T_nil) | refine W_region (id := 9) rfl rfl ?_ | apply W_block))
        apply W_iter (S := rrS2 h ⟨w, vs, body⟩ low at_ .nils) (l := ([] : List Unit)) (a0 := HC h (.mk p1 n1 c1 a1) (.mk p2 n2 c2 a2) low) (fun _ H => H[h.length]? = some (CC (.mk p1 n1 c1 a1) (.mk p2 n2 c2 a2) low)) (by simp) (by simp; omega) rfl g2
        · intro i st rest a hi; simp at hi
        · intro H hJ
          (repeat' (first | apply W_seq | refine W_false rfl rfl ?_ | (refine W_ops (id := 10) rfl ?_ <;> refine T_ch 3 rfl ?_ <;> (refine T_go rfl ?_; refine G_false rfl rfl ?_) <;> apply T_nil) | (refine W_ops (id := 18) rfl ?_ <;> (refine T_go rfl ?_; refine G_op (O_loadH rfl rfl rfl ‹_› rfl rfl) ?_) <;> refine T_ch 2 rfl ?_ <;> apply T_nil) | apply W_ret | apply W_exit))
          exact ⟨.inl rfl, Eq.trans (b := some (AV.tup [.agg (clC 2 (.mk p1 n1 c1 a1) (.mk p2 n2 c2 a2) low 1), .bool true], h)) rfl (by rw [hR])⟩
      | cons y0 pls0 =>
        have hP1 : accV 8 (List.map plC (y0 :: pls0)) = .vs 8 (List.map plC (y0 :: pls0)) := rfl
        rw [hP1] at hPl0
        generalize hpl0 : y0 :: pls0 = pls at *
        (repeat' (first | apply W_seq | (refine W_dops (id := 7) (bs := [0, 0, 0, 4, 0, 31, 0, 127]) rfl (by decide +kernel) (by decide +kernel) ?_ <;> (refine U_go rfl ?_; refine H_free (by decide +kernel) rfl rfl rfl rfl rfl ?_) <;> (refine U_go rfl ?_; refine H_free (by decide +kernel) rfl rfl rfl rfl rfl ?_) <;> (refine U_go rfl ?_; refine H_free (by decide +kernel) rfl rfl rfl rfl rfl ?_) <;> (refine U_go rfl ?_; refine H_free (by decide +kernel) rfl (O_call rfl rfl rfl rfl ‹_›) rfl rfl rfl ?_) <;> (refine U_go rfl ?_; refine H_free (by decide +kernel) rfl rfl rfl rfl rfl ?_) <;> (refine U_go rfl ?_; refine H_free (by decide +kernel) rfl (O_call rfl rfl rfl rfl ‹_›) rfl rfl rfl ?_) <;> (refine U_go rfl ?_; refine H_make (by decide +kernel) rfl rfl rfl rfl rfl ?_) <;> (refine U_go rfl ?_; refine H_op (by decide +kernel) (O_storeH rfl rfl rfl rfl ‹_› ⟨by assumption, rfl, rfl, Nat.le_of_ble_eq_true rfl⟩) ?_) <;> apply U_nil) | (refine W_ops (id := 8) rfl ?_ <;> refine T_ch 1 rfl ?_ <;> (refine T_go rfl ?_; refine G_op (O_call rfl rfl rfl rfl ‹_›) ?_) <;> refine T_ch 5 rfl ?_ <;> apply T_nil) | refine W_region (id := 9) rfl rfl ?_ | apply W_block))
        apply W_iter (S := rrS2 h ⟨w, vs, body⟩ low at_ (.vs 8 (pls.map plC))) (l := pls) (a0 := HC h (.mk p1 n1 c1 a1) (.mk p2 n2 c2 a2) low) (fun rest H => ∃ e, H[h.length]? = some (CC e (.mk p2 n2 c2 a2) low) ∧ R = (match FF rest e with | some e => .tup [.agg (clC 2 e (.mk p2 n2 c2 a2) low 1), .bool true] | none => .tup [.agg zC, .bool false])) (by omega) (by omega) rfl ⟨_, g2, hR⟩
        · rintro i x rest H hi hd hil ⟨e, hH, hJ⟩
          have hlt : decide ((i : Int) < ((pls.map plC).length : Int)) = true := decide_eq_true (by rw [List.length_map]; omega)
          have hrow : (pls.map plC)[i]? = some (plC x) := by rw [List.getElem?_map, hi]; rfl
          have hxo := hok x (List.mem_of_getElem? hi)
          have hxa := hat x (List.mem_of_getElem? hi)
          rw [hX] at hJ
          obtain ⟨n, ⟨op, nn, ar, t, el⟩, lv, rd⟩ := x
          have hI := hIn n H h.length
          dsimp only at hJ hxa
          cases hin : inB at_ n with
          | false =>
            rw [hin] at hI
            rw [hin, if_neg (by simp)] at hJ
            (repeat' (first | apply W_seq | refine W_true rfl rfl ?_ | (refine W_ops (id := 10) rfl ?_ <;> refine T_ch 3 rfl ?_ <;> (refine T_go rfl ?_; refine G_true rfl (by with_reducible assumption) ?_) <;> apply T_nil) | refine W_region (id := 11) rfl rfl ?_ | (refine W_ops (id := 12) rfl ?_ <;> refine T_ch 2 rfl ?_ <;> (refine T_go rfl ?_; refine G_op (O_index rfl rfl rfl rfl rfl ‹_›) ?_) <;> refine T_ch 2 rfl ?_ <;> (refine T_go rfl ?_; refine G_op rfl ?_) <;> refine T_ch 2 rfl ?_ <;> apply T_nil) | (refine W_ops (id := 13) rfl ?_ <;> refine T_ch 3 rfl ?_ <;> (refine T_go rfl ?_; refine G_op (O_index rfl rfl rfl rfl rfl ‹_›) ?_) <;> refine T_ch 2 rfl ?_ <;> (refine T_go rfl ?_; refine G_op rfl ?_) <;> (refine T_go rfl ?_; refine G_false (O_call rfl rfl rfl rfl ‹_›) rfl ?_) <;> refine T_ch 1 rfl ?_ <;> apply T_nil) | apply W_skip | apply W_block | apply W_exit))
            exact ⟨H, rfl, e, hH, hJ⟩
          | true =>
            rw [hin] at hI
            rw [hin, if_pos rfl] at hJ
            obtain ⟨a0, ha0⟩ := hxa hin
            have ha0' : ar = [a0] := ha0
            subst ha0'
            obtain ⟨o1, o2, o3, o4, o5⟩ := hxo
            have hm := exsK_mem [a0] 0 a0 rfl
            have hb0 : exB a0 := o3.1
            have hC := hch a0 (by omega) hb0 H h.length
            have hW := withinR_run rd nn (k - 1) h.length H
            have hW2 := withinR_run nn low (k - 1) h.length H
            have hM0 := moveR_run 0 k a0 (by omega) (by omega) hb0 H H.length
            have hM1 := moveR_run 1 k a0 (by omega) (by omega) hb0 H H.length
            have hOf := ofR2_run (k - 1) H H.length 13 [exC (mvE 0 a0), exC (mvE 1 a0)]
            have hBo := bothR_run (k - 2) H h.length e (.mk 13 0 0 [mvE 0 a0, mvE 1 a0])
            rw [show k - 1 + 1 = k by omega] at hW hW2 hOf
            rw [show k - 2 + 2 = k by omega] at hBo
            have hsn : snn (.mk op nn [a0] t el) = nn := rfl
            have hsa : a0E (argsS (.mk op nn [a0] t el)) = a0 := rfl
            rw [hsn, hsa] at hJ
            have heq : eqM a0 = .mk 13 0 0 [mvE 0 a0, mvE 1 a0] := rfl
            rw [heq] at hJ
            generalize withinB rd nn = q1 at *
            generalize withinB nn low = q2 at *
            generalize cB a0 = q3 at *
            generalize mvE 0 a0 = m0 at *
            generalize mvE 1 a0 = m1 at *
            have hbo2 : bothE e (.mk 13 0 0 [m0, m1]) = .mk 7 0 0 [e, .mk 13 0 0 [m0, m1]] := rfl
            rw [hbo2] at hJ hBo
            obtain ⟨z1, z2, z3, z4⟩ := a0
            obtain ⟨m01, m02, m03, m04⟩ := m0
            obtain ⟨m11, m12, m13, m14⟩ := m1
            obtain ⟨e1, e2, e3, e4⟩ := e
            cases q1
            · have hJ' : R = .tup [.agg zC, .bool false] := hJ
              (repeat' (first | apply W_seq | refine W_true rfl rfl ?_ | refine W_false rfl rfl ?_ | (refine W_ops (id := 10) rfl ?_ <;> refine T_ch 3 rfl ?_ <;> (refine T_go rfl ?_; refine G_true rfl (by with_reducible assumption) ?_) <;> apply T_nil) | (refine W_ops (id := 12) rfl ?_ <;> refine T_ch 2 rfl ?_ <;> (refine T_go rfl ?_; refine G_op (O_index rfl rfl rfl rfl rfl ‹_›) ?_) <;> refine T_ch 2 rfl ?_ <;> (refine T_go rfl ?_; refine G_op rfl ?_) <;> refine T_ch 2 rfl ?_ <;> apply T_nil) | (refine W_ops (id := 13) rfl ?_ <;> refine T_ch 3 rfl ?_ <;> (refine T_go rfl ?_; refine G_op (O_index rfl rfl rfl rfl rfl ‹_›) ?_) <;> refine T_ch 2 rfl ?_ <;> (refine T_go rfl ?_; refine G_op rfl ?_) <;> (refine T_go rfl ?_; refine G_true (O_call rfl rfl rfl rfl ‹_›) rfl ?_) <;> refine T_ch 1 rfl ?_ <;> apply T_nil) | (refine W_dops (id := 14) (bs := [0, 0, 3, 7, 15, 0, 32, 127, 255, 511, 1023, 1023, 3071, 7167, 15359, 32767, 65535]) rfl (by decide +kernel) (by decide +kernel) ?_ <;> (refine U_go rfl ?_; refine H_free (by decide +kernel) rfl rfl rfl rfl rfl ?_) <;> (refine U_go rfl ?_; refine H_free (by decide +kernel) rfl rfl rfl rfl rfl ?_) <;> (refine U_go rfl ?_; refine H_free (by decide +kernel) rfl (O_index rfl rfl rfl rfl rfl ‹_›) rfl rfl rfl ?_) <;> (refine U_go rfl ?_; refine H_free (by decide +kernel) rfl rfl rfl rfl rfl ?_) <;> (refine U_go rfl ?_; refine H_free (by decide +kernel) rfl rfl rfl rfl rfl ?_) <;> (refine U_go rfl ?_; refine H_free (by decide +kernel) rfl rfl rfl rfl rfl ?_) <;> (refine U_go rfl ?_; refine H_free (by decide +kernel) rfl rfl rfl rfl rfl ?_) <;> (refine U_go rfl ?_; refine H_false (by decide +kernel) (O_call rfl rfl rfl rfl ‹_›) rfl ?_) <;> (refine U_go rfl ?_; refine H_op (by decide +kernel) rfl ?_) <;> (refine U_go rfl ?_; refine H_op (by decide +kernel) rfl ?_) <;> refine U_skip rfl ?_ <;> refine U_skip rfl ?_ <;> refine U_skip rfl ?_ <;> refine U_skip rfl ?_ <;> refine U_skip rfl ?_ <;> refine U_skip rfl ?_ <;> (refine U_go rfl ?_; refine H_op (by decide +kernel) rfl ?_) <;> apply U_nil) | refine W_region (id := 15) rfl rfl ?_ | apply W_skip | apply W_block | apply W_ret))
              exact ⟨.inl rfl, Eq.trans (b := some (AV.tup [.agg zC, .bool false], h)) rfl (by rw [hJ'])⟩
            · cases q3
              · cases q2
                · (repeat' (first | apply W_seq | refine W_true rfl rfl ?_ | refine W_false rfl rfl ?_ | (refine W_ops (id := 10) rfl ?_ <;> refine T_ch 3 rfl ?_ <;> (refine T_go rfl ?_; refine G_true rfl (by with_reducible assumption) ?_) <;> apply T_nil) | refine W_region (id := 11) rfl rfl ?_ | (refine W_ops (id := 12) rfl ?_ <;> refine T_ch 2 rfl ?_ <;> (refine T_go rfl ?_; refine G_op (O_index rfl rfl rfl rfl rfl ‹_›) ?_) <;> refine T_ch 2 rfl ?_ <;> (refine T_go rfl ?_; refine G_op rfl ?_) <;> refine T_ch 2 rfl ?_ <;> apply T_nil) | (refine W_ops (id := 13) rfl ?_ <;> refine T_ch 3 rfl ?_ <;> (refine T_go rfl ?_; refine G_op (O_index rfl rfl rfl rfl rfl ‹_›) ?_) <;> refine T_ch 2 rfl ?_ <;> (refine T_go rfl ?_; refine G_op rfl ?_) <;> (refine T_go rfl ?_; refine G_true (O_call rfl rfl rfl rfl ‹_›) rfl ?_) <;> refine T_ch 1 rfl ?_ <;> apply T_nil) | (refine W_dops (id := 14) (bs := [0, 0, 3, 7, 15, 0, 32, 127, 255, 511, 1023, 1023, 3071, 7167, 15359, 32767, 65535]) rfl (by decide +kernel) (by decide +kernel) ?_ <;> (refine U_go rfl ?_; refine H_free (by decide +kernel) rfl rfl rfl rfl rfl ?_) <;> (refine U_go rfl ?_; refine H_free (by decide +kernel) rfl rfl rfl rfl rfl ?_) <;> (refine U_go rfl ?_; refine H_free (by decide +kernel) rfl (O_index rfl rfl rfl rfl rfl ‹_›) rfl rfl rfl ?_) <;> (refine U_go rfl ?_; refine H_free (by decide +kernel) rfl rfl rfl rfl rfl ?_) <;> (refine U_go rfl ?_; refine H_free (by decide +kernel) rfl rfl rfl rfl rfl ?_) <;> (refine U_go rfl ?_; refine H_free (by decide +kernel) rfl rfl rfl rfl rfl ?_) <;> (refine U_go rfl ?_; refine H_free (by decide +kernel) rfl rfl rfl rfl rfl ?_) <;> (refine U_go rfl ?_; refine H_true (by decide +kernel) (O_call rfl rfl rfl rfl ‹_›) rfl ?_) <;> (refine U_go rfl ?_; refine H_op (by decide +kernel) rfl ?_) <;> (refine U_go rfl ?_; refine H_op (by decide +kernel) rfl ?_) <;> (refine U_go rfl ?_; refine H_free (by decide +kernel) rfl rfl rfl rfl rfl ?_) <;> (refine U_go rfl ?_; refine H_free (by decide +kernel) rfl rfl rfl rfl rfl ?_) <;> (refine U_go rfl ?_; refine H_free (by decide +kernel) rfl rfl rfl rfl rfl ?_) <;> (refine U_go rfl ?_; refine H_free (by decide +kernel) rfl rfl rfl rfl rfl ?_) <;> (refine U_go rfl ?_; refine H_free (by decide +kernel) rfl rfl rfl rfl rfl ?_) <;> (refine U_go rfl ?_; refine H_false (by decide +kernel) (O_call rfl rfl rfl rfl ‹_›) rfl ?_) <;> (refine U_go rfl ?_; refine H_op (by decide +kernel) rfl ?_) <;> apply U_nil) | (refine W_ops (id := 16) rfl ?_ <;> refine T_ch 3 rfl ?_ <;> (refine T_go rfl ?_; refine G_false (O_call rfl rfl rfl rfl ‹_›) rfl ?_) <;> apply T_nil) | apply W_skip | apply W_block))
                  exact ⟨H, rfl, _, hH, hJ⟩
                · (repeat' (first | apply W_seq | refine W_true rfl rfl ?_ | refine W_false rfl rfl ?_ | (refine W_ops (id := 10) rfl ?_ <;> refine T_ch 3 rfl ?_ <;> (refine T_go rfl ?_; refine G_true rfl (by with_reducible assumption) ?_) <;> apply T_nil) | refine W_region (id := 11) rfl rfl ?_ | (refine W_ops (id := 12) rfl ?_ <;> refine T_ch 2 rfl ?_ <;> (refine T_go rfl ?_; refine G_op (O_index rfl rfl rfl rfl rfl ‹_›) ?_) <;> refine T_ch 2 rfl ?_ <;> (refine T_go rfl ?_; refine G_op rfl ?_) <;> refine T_ch 2 rfl ?_ <;> apply T_nil) | (refine W_ops (id := 13) rfl ?_ <;> refine T_ch 3 rfl ?_ <;> (refine T_go rfl ?_; refine G_op (O_index rfl rfl rfl rfl rfl ‹_›) ?_) <;> refine T_ch 2 rfl ?_ <;> (refine T_go rfl ?_; refine G_op rfl ?_) <;> (refine T_go rfl ?_; refine G_true (O_call rfl rfl rfl rfl ‹_›) rfl ?_) <;> refine T_ch 1 rfl ?_ <;> apply T_nil) | (refine W_dops (id := 14) (bs := [0, 0, 3, 7, 15, 0, 32, 127, 255, 511, 1023, 1023, 3071, 7167, 15359, 32767, 65535]) rfl (by decide +kernel) (by decide +kernel) ?_ <;> (refine U_go rfl ?_; refine H_free (by decide +kernel) rfl rfl rfl rfl rfl ?_) <;> (refine U_go rfl ?_; refine H_free (by decide +kernel) rfl rfl rfl rfl rfl ?_) <;> (refine U_go rfl ?_; refine H_free (by decide +kernel) rfl (O_index rfl rfl rfl rfl rfl ‹_›) rfl rfl rfl ?_) <;> (refine U_go rfl ?_; refine H_free (by decide +kernel) rfl rfl rfl rfl rfl ?_) <;> (refine U_go rfl ?_; refine H_free (by decide +kernel) rfl rfl rfl rfl rfl ?_) <;> (refine U_go rfl ?_; refine H_free (by decide +kernel) rfl rfl rfl rfl rfl ?_) <;> (refine U_go rfl ?_; refine H_free (by decide +kernel) rfl rfl rfl rfl rfl ?_) <;> (refine U_go rfl ?_; refine H_true (by decide +kernel) (O_call rfl rfl rfl rfl ‹_›) rfl ?_) <;> (refine U_go rfl ?_; refine H_op (by decide +kernel) rfl ?_) <;> (refine U_go rfl ?_; refine H_op (by decide +kernel) rfl ?_) <;> (refine U_go rfl ?_; refine H_free (by decide +kernel) rfl rfl rfl rfl rfl ?_) <;> (refine U_go rfl ?_; refine H_free (by decide +kernel) rfl rfl rfl rfl rfl ?_) <;> (refine U_go rfl ?_; refine H_free (by decide +kernel) rfl rfl rfl rfl rfl ?_) <;> (refine U_go rfl ?_; refine H_free (by decide +kernel) rfl rfl rfl rfl rfl ?_) <;> (refine U_go rfl ?_; refine H_free (by decide +kernel) rfl rfl rfl rfl rfl ?_) <;> (refine U_go rfl ?_; refine H_false (by decide +kernel) (O_call rfl rfl rfl rfl ‹_›) rfl ?_) <;> (refine U_go rfl ?_; refine H_op (by decide +kernel) rfl ?_) <;> apply U_nil) | (refine W_ops (id := 16) rfl ?_ <;> refine T_ch 3 rfl ?_ <;> (refine T_go rfl ?_; refine G_true (O_call rfl rfl rfl rfl ‹_›) rfl ?_) <;> apply T_nil) | (refine W_dops (id := 17) (bs := [0, 1, 0, 4, 12, 28, 60, 0, 128, 384, 896, 2044, 4092, 8188, 16383, 32767, 65535]) rfl (by decide +kernel) (by decide +kernel) ?_ <;> (refine U_go rfl ?_; refine H_free (by decide +kernel) rfl rfl rfl rfl rfl ?_) <;> (refine U_go rfl ?_; refine H_free (by decide +kernel) rfl (O_loadH rfl rfl rfl ‹_› rfl rfl) rfl rfl rfl ?_) <;> (refine U_go rfl ?_; refine H_free (by decide +kernel) rfl rfl rfl rfl rfl ?_) <;> (refine U_go rfl ?_; refine H_free (by decide +kernel) rfl rfl rfl rfl rfl ?_) <;> (refine U_go rfl ?_; refine H_free (by decide +kernel) rfl rfl rfl rfl rfl ?_) <;> (refine U_go rfl ?_; refine H_free (by decide +kernel) rfl rfl rfl rfl rfl ?_) <;> (refine U_go rfl ?_; refine H_free (by decide +kernel) rfl (O_call rfl rfl rfl rfl ‹_›) rfl rfl rfl ?_) <;> (refine U_go rfl ?_; refine H_free (by decide +kernel) rfl rfl rfl rfl rfl ?_) <;> (refine U_go rfl ?_; refine H_free (by decide +kernel) rfl rfl rfl rfl rfl ?_) <;> (refine U_go rfl ?_; refine H_free (by decide +kernel) rfl rfl rfl rfl rfl ?_) <;> (refine U_go rfl ?_; refine H_free (by decide +kernel) rfl rfl rfl rfl rfl ?_) <;> (refine U_go rfl ?_; refine H_free (by decide +kernel) rfl (O_call rfl rfl rfl rfl ‹_›) rfl rfl rfl ?_) <;> (refine U_go rfl ?_; refine H_free (by decide +kernel) rfl rfl rfl rfl rfl ?_) <;> (refine U_go rfl ?_; refine H_free (by decide +kernel) rfl (O_call rfl rfl rfl rfl ‹_›) rfl rfl rfl ?_) <;> (refine U_go rfl ?_; refine H_op (by decide +kernel) (O_call rfl rfl rfl rfl ‹_›) ?_) <;> (refine U_go rfl ?_; refine H_op (by decide +kernel) rfl ?_) <;> (refine U_go rfl ?_; refine H_op (by decide +kernel) (O_storeH rfl rfl rfl rfl ‹_› ⟨by assumption, rfl, rfl, Nat.le_of_ble_eq_true rfl⟩) ?_) <;> apply U_nil) | apply W_skip | apply W_block))
                  exact ⟨H.set h.length (CC (.mk 7 0 0 [.mk e1 e2 e3 e4, .mk 13 0 0 [.mk m01 m02 m03 m04, .mk m11 m12 m13 m14]]) (.mk p2 n2 c2 a2) low), rfl, .mk 7 0 0 [.mk e1 e2 e3 e4, .mk 13 0 0 [.mk m01 m02 m03 m04, .mk m11 m12 m13 m14]], List.getElem?_set_self (cells_lt hH), hJ⟩
              · have hJ' : R = .tup [.agg zC, .bool false] := hJ
                (repeat' (first | apply W_seq | refine W_true rfl rfl ?_ | refine W_false rfl rfl ?_ | (refine W_ops (id := 10) rfl ?_ <;> refine T_ch 3 rfl ?_ <;> (refine T_go rfl ?_; refine G_true rfl (by with_reducible assumption) ?_) <;> apply T_nil) | (refine W_ops (id := 12) rfl ?_ <;> refine T_ch 2 rfl ?_ <;> (refine T_go rfl ?_; refine G_op (O_index rfl rfl rfl rfl rfl ‹_›) ?_) <;> refine T_ch 2 rfl ?_ <;> (refine T_go rfl ?_; refine G_op rfl ?_) <;> refine T_ch 2 rfl ?_ <;> apply T_nil) | (refine W_ops (id := 13) rfl ?_ <;> refine T_ch 3 rfl ?_ <;> (refine T_go rfl ?_; refine G_op (O_index rfl rfl rfl rfl rfl ‹_›) ?_) <;> refine T_ch 2 rfl ?_ <;> (refine T_go rfl ?_; refine G_op rfl ?_) <;> (refine T_go rfl ?_; refine G_true (O_call rfl rfl rfl rfl ‹_›) rfl ?_) <;> refine T_ch 1 rfl ?_ <;> apply T_nil) | (refine W_dops (id := 14) (bs := [0, 0, 3, 7, 15, 0, 32, 127, 255, 511, 1023, 1023, 3071, 7167, 15359, 32767, 65535]) rfl (by decide +kernel) (by decide +kernel) ?_ <;> (refine U_go rfl ?_; refine H_free (by decide +kernel) rfl rfl rfl rfl rfl ?_) <;> (refine U_go rfl ?_; refine H_free (by decide +kernel) rfl rfl rfl rfl rfl ?_) <;> (refine U_go rfl ?_; refine H_free (by decide +kernel) rfl (O_index rfl rfl rfl rfl rfl ‹_›) rfl rfl rfl ?_) <;> (refine U_go rfl ?_; refine H_free (by decide +kernel) rfl rfl rfl rfl rfl ?_) <;> (refine U_go rfl ?_; refine H_free (by decide +kernel) rfl rfl rfl rfl rfl ?_) <;> (refine U_go rfl ?_; refine H_free (by decide +kernel) rfl rfl rfl rfl rfl ?_) <;> (refine U_go rfl ?_; refine H_free (by decide +kernel) rfl rfl rfl rfl rfl ?_) <;> (refine U_go rfl ?_; refine H_true (by decide +kernel) (O_call rfl rfl rfl rfl ‹_›) rfl ?_) <;> (refine U_go rfl ?_; refine H_op (by decide +kernel) rfl ?_) <;> (refine U_go rfl ?_; refine H_op (by decide +kernel) rfl ?_) <;> (refine U_go rfl ?_; refine H_free (by decide +kernel) rfl rfl rfl rfl rfl ?_) <;> (refine U_go rfl ?_; refine H_free (by decide +kernel) rfl rfl rfl rfl rfl ?_) <;> (refine U_go rfl ?_; refine H_free (by decide +kernel) rfl rfl rfl rfl rfl ?_) <;> (refine U_go rfl ?_; refine H_free (by decide +kernel) rfl rfl rfl rfl rfl ?_) <;> (refine U_go rfl ?_; refine H_free (by decide +kernel) rfl rfl rfl rfl rfl ?_) <;> (refine U_go rfl ?_; refine H_true (by decide +kernel) (O_call rfl rfl rfl rfl ‹_›) rfl ?_) <;> (refine U_go rfl ?_; refine H_op (by decide +kernel) rfl ?_) <;> apply U_nil) | refine W_region (id := 15) rfl rfl ?_ | apply W_skip | apply W_block | apply W_ret))
                exact ⟨.inl rfl, Eq.trans (b := some (AV.tup [.agg zC, .bool false], h)) rfl (by rw [hJ'])⟩
        · rintro H ⟨e, hH, hJ⟩
          have hlt : decide ((pls.length : Int) < ((pls.map plC).length : Int)) = false := decide_eq_false (by rw [List.length_map]; omega)
          rw [hX0] at hJ
          obtain ⟨e1, e2, e3, e4⟩ := e
          (repeat' (first | apply W_seq | refine W_false rfl rfl ?_ | (refine W_ops (id := 10) rfl ?_ <;> refine T_ch 3 rfl ?_ <;> (refine T_go rfl ?_; refine G_false rfl (by with_reducible assumption) ?_) <;> apply T_nil) | (refine W_ops (id := 18) rfl ?_ <;> (refine T_go rfl ?_; refine G_op (O_loadH rfl rfl rfl ‹_› rfl rfl) ?_) <;> refine T_ch 2 rfl ?_ <;> apply T_nil) | apply W_ret | apply W_exit))
          exact ⟨.inl rfl, Eq.trans (b := some (AV.tup [.agg (clC 2 (.mk e1 e2 e3 e4) (.mk p2 n2 c2 a2) low 1), .bool true], h)) rfl (by rw [hJ])⟩
/- Releases, plain: which outputs may be named; the two ways to say what is released. -/
/-! ### The statement with a number -/
def fnd (n : Int) (L : List (Int × Sm')) : Option Sm' := (L.find? (fun y => y.1 == n)).map Prod.snd
theorem fnd_app (n : Int) (A B : List (Int × Sm')) : fnd n (A ++ B) = match fnd n A with | some s => some s | none => fnd n B := by
  unfold fnd
  rw [List.find?_append]
  cases A.find? fun y => y.1 == n <;> rfl
theorem fnd_cons (n m : Int) (s : Sm') (L : List (Int × Sm')) : fnd n ((m, s) :: L) = if (m == n) = true then some s else fnd n L := by
  unfold fnd
  rw [List.find?_cons]
  dsimp only
  cases (m == n) <;> rfl
def wAt (n : Int) (W : Bool × Option Sm' × Int) (L : List (Int × Sm')) (m : Int) : Prop :=
  W.2.1 = fnd n L ∧ W.1 = (fnd n L).isNone ∧ (fnd n L = none → W = (true, none, m))
theorem wAt_app {n : Int} {T : Bool × Option Sm' × Int} {X Y : List (Int × Sm')} {m1 m2 : Int} (h1 : wAt n T X m1) {F : Bool × Option Sm' × Int} (h2 : wAt n F Y m2) {G : Option Sm' → Int → Bool × Option Sm' × Int} (hG : G none m1 = F) :
    wAt n (if T.1 = true then G T.2.1 T.2.2 else T) (X ++ Y) m2 := by
  obtain ⟨a1, a2, a3⟩ := h1
  unfold wAt
  rw [fnd_app]
  cases hx : fnd n X with
  | some r =>
    rw [hx] at a1 a2
    rw [if_neg (by rw [a2]; simp)]
    exact ⟨a1, a2, fun h => by cases h⟩
  | none =>
    rw [a3 hx, if_pos rfl]
    dsimp only
    rw [hG]
    exact h2
mutual
theorem walk1_at (n : Int) : ∀ (s : Sm') (m : Int), 0 ≤ m → m + smN s < 1000000 → wAt n (walk1 (yldA n) s none m) (ev1 s m) (m + sc1 s)
  | .mk op nn a t e, m, h0, h1 => by
    rw [smN] at h1
    have hst := scs_le t
    have hse := scs_le e
    have q2 : cntL t 0 = scs t := by rw [cntL_eq t 0 (by omega) (by omega)]; omega
    have ht := walkL_at n t (m + 1) (by omega) (by omega)
    have he := walkL_at n e (m + 1 + scs t) (by omega) (by omega)
    rw [walk1, ev1, sc1, wsm (n := m + 1) (by omega) (by omega), show m + 1 - 1 = m by omega, wsm (n := m) (by omega) (by omega), q2, wsm (n := m + 1 + _) (by omega) (by omega), show m + ((1 + scs t + scs e : Nat) : Int) = m + 1 + scs t + scs e by omega]
    by_cases hm : (m == n) = true
    · have hy : yldA n none m (.mk op nn a t e) = (false, some (.mk op nn a t e)) := by unfold yldA; rw [if_pos hm]
      rw [hy, if_neg (by simp)]
      unfold wAt
      rw [fnd_cons, if_pos hm]
      exact ⟨rfl, rfl, fun h => by cases h⟩
    · have hy : yldA n none m (.mk op nn a t e) = (true, none) := by unfold yldA; rw [if_neg hm]
      rw [hy, if_pos rfl]
      have := wAt_app ht he (G := fun x j => walkL (yldA n) e x j) rfl
      unfold wAt at this ⊢
      rw [fnd_cons, if_neg hm]
      exact this
theorem walkL_at (n : Int) : ∀ (l : List Sm') (m : Int), 0 ≤ m → m + smsN l < 1000000 → wAt n (walkL (yldA n) l none m) (evL l m) (m + scs l)
  | [], m, h0, h1 => by
    rw [walkL, evL, scs]
    exact ⟨rfl, rfl, fun _ => by simp⟩
  | s :: l, m, h0, h1 => by
    rw [smsN] at h1
    have hs := sc1_le s
    have h1' := walk1_at n s m h0 (by omega)
    have h2' := walkL_at n l (m + sc1 s) (by omega) (by omega)
    rw [walkL, evL, scs, cnt1_eq s m h0 (by omega), show m + ((sc1 s + scs l : Nat) : Int) = m + sc1 s + scs l by omega]
    exact wAt_app h1' h2' (G := fun x j => walkL (yldA n) l x j) rfl
end
theorem find_at (n : Int) : ∀ (L : List (Int × Sm')) (m : Int), (∀ (j : Nat) x, L[j]? = some x → x.1 = m + j) → fnd n L = if m ≤ n then (L[(n - m).toNat]?).map Prod.snd else none
  | [], m, _ => by simp [fnd]
  | (a, s) :: L, m, h => by
    have ha : a = m := by simpa using h 0 (a, s) rfl
    have ih := find_at n L (m + 1) (fun j x hx => by have := h (j + 1) x (by simpa using hx); omega)
    subst ha
    rw [fnd_cons, ih]
    by_cases hn : a = n
    · subst hn; simp
    · rw [if_neg (by simpa using hn)]
      by_cases hl : a ≤ n
      · rw [if_pos (by omega), if_pos hl, show (n - a).toNat = (n - (a + 1)).toNat + 1 by omega, List.getElem?_cons_succ]
      · rw [if_neg (by omega), if_neg hl]
theorem atF_eq {p : Pr'} (hN : smsN p.body ≤ 600) (x : Int) : atF p x = if 0 ≤ x then ((every p)[x.toNat]?).map Prod.snd else none := by
  have h1 := (walkL_at x p.body 0 (by omega) (by omega)).1
  have h2 := find_at x (every p) 0 (fun j y hy => (evL_at p.body 0 (by omega) (by omega)).2 j y hy)
  rw [show x - 0 = x by omega] at h2
  unfold atF
  rw [h1]
  exact h2
theorem okAt_eq {p : Pr'} (hN : smsN p.body ≤ 600) (x : Int) : okAt (every p) x = (match atF p x with | none => false | some s => !(opOf s != 3)) := by
  rw [atF_eq hN]
  unfold okAt
  by_cases h0 : 0 ≤ x
  · rw [if_pos h0, decide_eq_false (show ¬ x < 0 by omega)]
    rcases Nat.lt_or_ge x.toNat (every p).length with h | h
    · rw [decide_eq_false (show ¬ x ≥ ((every p).length : Int) by omega), List.getElem?_eq_getElem h]
      rfl
    · rw [List.getElem?_eq_none h]
      simp
  · rw [if_neg h0, decide_eq_true (show x < 0 by omega)]
    simp
theorem atsF_eq {p : Pr'} (hN : smsN p.body ≤ 600) : ∀ (l : List Int) (pv : Option Int), atsF p pv l = outsF (every p) pv l
  | [], pv => by cases pv <;> rfl
  | x :: l, pv => by
    have h1 : outsF (every p) pv (x :: l) = (okAt (every p) x && (match (generalizing := false) pv with | none => true | some y => !decide (x ≤ y)) && outsF (every p) (some x) l) := rfl
    have h2 : atsF p pv (x :: l) = ((match atF p x with | none => false | some s => !(opOf s != 3)) && (match (generalizing := false) pv with | none => true | some y => !decide (x ≤ y)) && atsF p (some x) l) := rfl
    rw [h1, h2, okAt_eq hN, atsF_eq hN l]
theorem atF_B {p : Pr'} (hN : smsN p.body ≤ 600) (x : Int) (s : Sm') (h : atF p x = some s) : 0 ≤ x ∧ x < 600 := by
  rw [atF_eq hN] at h
  have hl := evL_len p.body 0
  by_cases h0 : 0 ≤ x
  · rw [if_pos h0] at h
    rcases Nat.lt_or_ge x.toNat (every p).length with h' | h'
    · have e : every p = evL p.body 0 := rfl
      rw [e] at h'
      omega
    · rw [List.getElem?_eq_none h'] at h; cases h
  · rw [if_neg h0] at h; cases h
theorem okAt_lt {L : List (Int × Sm')} {x : Int} (h : okAt L x = true) : 0 ≤ x ∧ x < L.length ∧ ∃ y, L[x.toNat]? = some y ∧ opOf y.2 = 3 := by
  unfold okAt at h
  simp only [Bool.and_eq_true, Bool.not_eq_true', decide_eq_false_iff_not] at h
  obtain ⟨⟨h1, h2⟩, h3⟩ := h
  refine ⟨by omega, by omega, ?_⟩
  cases hy : L[x.toNat]? with
  | none => rw [hy] at h3; cases h3
  | some y => rw [hy] at h3; exact ⟨y, rfl, by simpa using h3⟩
theorem outsF_len (L : List (Int × Sm')) : ∀ (l : List Int) (y : Int), 0 ≤ y → y < L.length → outsF L (some y) l = true → y + l.length < L.length
  | [], y, h0, h1, _ => by simpa using h1
  | x :: l, y, h0, h1, h => by
    have h2 : outsF L (some y) (x :: l) = (okAt L x && !decide (x ≤ y) && outsF L (some x) l) := rfl
    rw [h2] at h
    simp only [Bool.and_eq_true, Bool.not_eq_true', decide_eq_false_iff_not] at h
    obtain ⟨a1, a2, _⟩ := okAt_lt h.1.1
    have := outsF_len L l x a1 a2 h.2
    rw [List.length_cons]; omega
theorem outs_len {p : Pr'} {l : List Int} (hN : smsN p.body ≤ 600) (h : outsB p l = true) : l.length ≤ 600 := by
  have hl : (every p).length ≤ smsN p.body := evL_len p.body 0
  cases l with
  | nil => simp
  | cons x l =>
    have h2 : outsB p (x :: l) = (okAt (every p) x && true && outsF (every p) (some x) l) := rfl
    rw [h2] at h
    simp only [Bool.and_eq_true, Bool.and_true] at h
    obtain ⟨a1, a2, _⟩ := okAt_lt h.1
    have := outsF_len (every p) l x a1 a2 h.2
    rw [List.length_cons]; omega
theorem outsF_mem (L : List (Int × Sm')) : ∀ (l : List Int) (pv : Option Int), outsF L pv l = true → ∀ x, x ∈ l → okAt L x = true
  | [], _, _, x, hx => by cases hx
  | z :: l, pv, h, x, hx => by
    have h2 : outsF L pv (z :: l) = (okAt L z && (match (generalizing := false) pv with | none => true | some y => !decide (z ≤ y)) && outsF L (some z) l) := rfl
    rw [h2] at h
    simp only [Bool.and_eq_true] at h
    rcases List.mem_cons.1 hx with rfl | hx
    · exact h.1.1
    · exact outsF_mem L l _ h.2 x hx
/-! ### Places and statements -/
section
variable {pt : List Int → Int → Sm' → List Int} {og : List Int → List Ex' → Int}
mutual
theorem pl1_ev : ∀ (s : Sm') (lv : List Int) (ar n : Int) (p : Pl), p ∈ pl1 pt og s lv ar n → (p.1, p.2.1) ∈ ev1 s n
  | .mk op nn a t e, lv, ar, n, p, hp => by
    rw [pl1] at hp
    rw [ev1]
    split at hp
    · rcases List.mem_cons.1 hp with rfl | hp
      · exact List.mem_cons_self ..
      · refine List.mem_cons_of_mem _ (List.mem_append.2 ?_)
        rcases List.mem_append.1 hp with hp | hp
        · exact .inl (plL_ev t _ _ _ p hp)
        · exact .inr (plL_ev e _ _ _ p hp)
    · split at hp
      · rcases List.mem_cons.1 hp with rfl | hp
        · exact List.mem_cons_self ..
        · exact List.mem_cons_of_mem _ (List.mem_append.2 (.inl (plL_ev t _ _ _ p hp)))
      · rw [List.mem_singleton] at hp
        subst hp
        exact List.mem_cons_self ..
theorem plL_ev : ∀ (l : List Sm') (lv : List Int) (ar n : Int) (p : Pl), p ∈ plL pt og l lv ar n → (p.1, p.2.1) ∈ evL l n
  | [], lv, ar, n, p, hp => by rw [plL] at hp; cases hp
  | s :: l, lv, ar, n, p, hp => by
    rw [plL] at hp
    rw [evL]
    rcases List.mem_append.1 hp with hp | hp
    · exact List.mem_append.2 (.inl (pl1_ev s _ _ _ p hp))
    · exact List.mem_append.2 (.inr (plL_ev l _ _ _ p hp))
end
mutual
theorem pl1_lv {m : Nat} (H : Mv pt og m) : ∀ (s : Sm') (lv : List Int) (ar n : Int), vm1 m s → lv.length = m → lvsB lv → lvB ar → ∀ p, p ∈ pl1 pt og s lv ar n → lvsB p.2.2.1
  | .mk op nn a t e, lv, ar, n, hv, hl, hB, har, p, hp => by
    obtain ⟨q1, q2⟩ := mv1_ok H (.mk op nn a t e) lv ar hl hB har hv
    rw [vm1] at hv
    rw [pl1] at hp
    split at hp
    · rcases List.mem_cons.1 hp with rfl | hp
      · exact hB
      · rcases List.mem_append.1 hp with hp | hp
        · exact plL_lv H t lv _ _ hv.2.2.2.1 hl hB (orI_B har (H.og lv a hB)) p hp
        · exact plL_lv H e lv _ _ hv.2.2.2.2 hl hB (orI_B har (H.og lv a hB)) p hp
    · split at hp
      · rcases List.mem_cons.1 hp with rfl | hp
        · exact q2
        · exact plL_lv H t _ _ _ hv.2.2.2.1 q1 q2 (orI_B har (H.og _ a q2)) p hp
      · rw [List.mem_singleton] at hp
        rw [hp]
        exact hB
theorem plL_lv {m : Nat} (H : Mv pt og m) : ∀ (l : List Sm') (lv : List Int) (ar n : Int), vmL m l → lv.length = m → lvsB lv → lvB ar → ∀ p, p ∈ plL pt og l lv ar n → lvsB p.2.2.1
  | [], lv, ar, n, _, _, _, _, p, hp => by rw [plL] at hp; cases hp
  | s :: l, lv, ar, n, hv, hl, hB, har, p, hp => by
    obtain ⟨q1, q2⟩ := mv1_ok H s lv ar hl hB har hv.1
    rw [plL] at hp
    rcases List.mem_append.1 hp with hp | hp
    · exact pl1_lv H s lv ar n hv.1 hl hB har p hp
    · exact plL_lv H l _ ar _ hv.2 q1 q2 har p hp
end
def plW (l : List Pl) : Nat := (l.map (fun p => exsK (argsS p.2.1))).sum
theorem plW_app (a b : List Pl) : plW (a ++ b) = plW a + plW b := by unfold plW; rw [List.map_append, List.sum_append]
theorem plW_cons (a : Pl) (b : List Pl) : plW (a :: b) = exsK (argsS a.2.1) + plW b := rfl
mutual
theorem pl1_W : ∀ (s : Sm') (lv : List Int) (ar n : Int), plW (pl1 pt og s lv ar n) ≤ smK s
  | .mk op nn a t e, lv, ar, n => by
    rw [pl1, smK]
    have ha : argsS (.mk op nn a t e) = a := rfl
    have h0 : plW [] = 0 := rfl
    split
    · rw [plW_cons, plW_app, ha]
      have := plL_W t lv (orI ar (og lv a)) (IntKind.i64.wrap (n + 1))
      have := plL_W e lv (orI ar (og lv a)) (IntKind.i64.wrap (IntKind.i64.wrap (n + 1) + cntL t 0))
      omega
    · split
      · rw [plW_cons, ha]
        have := plL_W t (mv1 pt og (.mk op nn a t e) lv ar) (orI ar (og (mv1 pt og (.mk op nn a t e) lv ar) a)) (IntKind.i64.wrap (n + 1))
        omega
      · rw [plW_cons, ha]
        omega
theorem plL_W : ∀ (l : List Sm') (lv : List Int) (ar n : Int), plW (plL pt og l lv ar n) ≤ smsK l
  | [], lv, ar, n => by rw [plL]; exact Nat.zero_le _
  | s :: l, lv, ar, n => by
    rw [plL, plW_app, smsK]
    have := pl1_W s lv ar n
    have := plL_W l (mv1 pt og s lv ar) ar (cnt1 s n)
    omega
end
end
mutual
theorem ev1_row {w : Int} {vs : List Vr'} : ∀ (s : Sm') (n : Int), rowB w vs s = true → ∀ y, y ∈ ev1 s n → rowB w vs y.2 = true
  | .mk op nn a t e, n, hr, y, hy => by
    have hr0 := hr
    rw [rowB] at hr
    simp only [Bool.and_eq_true] at hr
    rw [ev1] at hy
    rcases List.mem_cons.1 hy with rfl | hy
    · exact hr0
    · rcases List.mem_append.1 hy with hy | hy
      · exact evL_row t _ hr.1.1.2 y hy
      · exact evL_row e _ hr.1.2 y hy
theorem evL_row {w : Int} {vs : List Vr'} : ∀ (l : List Sm') (n : Int), rowsB w vs l = true → ∀ y, y ∈ evL l n → rowB w vs y.2 = true
  | [], n, _, y, hy => by rw [evL] at hy; cases hy
  | s :: l, n, hr, y, hy => by
    rw [rowsB, Bool.and_eq_true] at hr
    rw [evL] at hy
    rcases List.mem_append.1 hy with hy | hy
    · exact ev1_row s _ hr.1 y hy
    · exact evL_row l _ hr.2 y hy
end
/-! ### The folds -/
def okQ (p : Pr') (at_ : List Int) (x : Pl) : Bool := match x with
  | (n, .mk op nn a _ _, lv, ar) => if op = 3 then (if inB at_ n = true then withinB ar nn && !changedB p (a0E a) else withinB (orI ar (ofE lv (a0E a))) nn) else true
def moQ (low : Int) (at_ : List Int) (x : Pl) : List Ex' := match x with
  | (n, .mk op nn a _ _, _, _) => if op = 3 then (if inB at_ n = true then (if withinB nn low = true then [eqX (a0E a)] else []) else []) else []
theorem updP_Q (p : Pr') (low : Int) (at_ : List Int) (b : Bool) (xs : List Ex') (x : Pl) : updP (updQ p low at_) (b, xs) x = (b && okQ p at_ x, xs ++ moQ low at_ x) := by
  obtain ⟨n, ⟨op, nn, a, t, e⟩, lv, ar⟩ := x
  unfold updP updQ okQ moQ
  dsimp only
  split
  · split
    · split <;> simp
    · simp
  · simp
theorem foldQ (p : Pr') (low : Int) (at_ : List Int) : ∀ (l : List Pl) (b : Bool) (xs : List Ex'), l.foldl (updP (updQ p low at_)) (b, xs) = (b && l.all (okQ p at_), xs ++ l.flatMap (moQ low at_))
  | [], b, xs => by simp
  | x :: l, b, xs => by
    rw [List.foldl_cons, updP_Q, foldQ p low at_ l, List.all_cons, List.flatMap_cons, Bool.and_assoc, List.append_assoc]
def okR (p : Pr') (at_ : List Int) (x : Pl) : Bool := !inB at_ x.1 || (withinB x.2.2.2 (snn x.2.1) && !changedB p (a0E (argsS x.2.1)))
def moR (low : Int) (at_ : List Int) (x : Pl) : List Ex' := if inB at_ x.1 = true then (if withinB (snn x.2.1) low = true then [eqM (a0E (argsS x.2.1))] else []) else []
theorem refF_eq (p : Pr') (low : Int) (at_ : List Int) : ∀ (l : List Pl) (e : Ex'), refF p low at_ l e = if l.all (okR p at_) = true then some ((l.flatMap (moR low at_)).foldl bothE e) else none
  | [], e => rfl
  | (n, s, lv, ar) :: l, e => by
    have h1 : refF p low at_ ((n, s, lv, ar) :: l) e = if inB at_ n = true then (if (withinB ar (snn s) && !changedB p (a0E (argsS s))) = true then refF p low at_ l (if withinB (snn s) low = true then bothE e (eqM (a0E (argsS s))) else e) else none) else refF p low at_ l e := rfl
    have h2 : okR p at_ (n, s, lv, ar) = (!inB at_ n || (withinB ar (snn s) && !changedB p (a0E (argsS s)))) := rfl
    have h3 : moR low at_ (n, s, lv, ar) = if inB at_ n = true then (if withinB (snn s) low = true then [eqM (a0E (argsS s))] else []) else [] := rfl
    rw [h1, List.all_cons, h2, List.flatMap_cons, h3, List.foldl_append]
    generalize inB at_ n = b1
    generalize (withinB ar (snn s) && !changedB p (a0E (argsS s))) = b2
    generalize withinB (snn s) low = b3
    rw [refF_eq p low at_ l, refF_eq p low at_ l]
    generalize l.all (okR p at_) = q
    cases b1 <;> cases b2 <;> cases b3 <;> cases q <;> rfl
def flO (at_ : List Int) (x : Pl) : Bool := match x with
  | (n, .mk op nn a _ _, lv, ar) => if op = 3 then withinB (orI ar (ofEs lv 0 a)) nn || inB at_ n else true
def rowN (r : List AV) : Int := match r with
  | .int _ n :: _ => n
  | _ => 0
theorem fl_all (at_ : List Int) {l : List Pl} {fl : List (Int × Int × Int)} (h : l.flatMap flPl = fl.map flC) : fl.all (fun x => inB at_ x.1) = l.all (flO at_) := by
  have h1 : (fl.map flC).all (fun r => inB at_ (rowN r)) = fl.all (fun x => inB at_ x.1) := by rw [List.all_map]; rfl
  rw [← h1, ← h, List.all_flatMap]
  congr 1
  funext x
  obtain ⟨n, ⟨op, nn, a, t, e⟩, lv, ar⟩ := x
  unfold flPl flO
  dsimp only
  split
  · unfold flowL
    cases withinB (orI ar (ofEs lv 0 a)) nn
    · simp [rowN]
    · simp
  · rfl
def nice (p : Pr') (at_ : List Int) (x : Pl) : Prop :=
  (opOf x.2.1 = 3 → ∃ a0 c0, argsS x.2.1 = [a0] ∧ formE p.width p.vars c0 a0 = true) ∧ (inB at_ x.1 = true → opOf x.2.1 = 3) ∧ lvsB x.2.2.1
theorem okQ_eq {p : Pr'} {low : Int} {at_ : List Int} {x : Pl} (h : nice p at_ x) : okQ p at_ x = (flO at_ x && okR p at_ x) ∧ moQ low at_ x = moR low at_ x := by
  obtain ⟨n, ⟨op, nn, a, t, e⟩, lv, ar⟩ := x
  obtain ⟨h1, h2, h3⟩ := h
  have h1' : op = 3 → ∃ a0 c0, a = [a0] ∧ formE p.width p.vars c0 a0 = true := h1
  have h2' : inB at_ n = true → op = 3 := h2
  have h3' : lvsB lv := h3
  have hr : okR p at_ (n, .mk op nn a t e, lv, ar) = (!inB at_ n || (withinB ar nn && !changedB p (a0E a))) := rfl
  have hm : moR low at_ (n, .mk op nn a t e, lv, ar) = if inB at_ n = true then (if withinB nn low = true then [eqM (a0E a)] else []) else [] := rfl
  rw [hr, hm]
  unfold okQ flO moQ
  dsimp only
  by_cases ho : op = 3
  · rw [if_pos ho, if_pos ho, if_pos ho]
    obtain ⟨a0, c0, rfl, hf⟩ := h1' ho
    have ha : a0E [a0] = a0 := rfl
    have hof : ofEs lv 0 [a0] = ofE lv a0 := by rw [ofEs, ofEs, orI_zero (ofE_B h3' a0)]
    have hx : eqX a0 = eqM a0 := by unfold eqX eqM; rw [cpE_eq 0 a0 hf, cpE_eq 1 a0 hf]
    rw [ha, hof, hx]
    refine ⟨?_, rfl⟩
    cases inB at_ n <;> simp
  · rw [if_neg ho, if_neg ho, if_neg ho]
    have : inB at_ n = false := by
      cases hb : inB at_ n with
      | false => rfl
      | true => exact absurd (h2' hb) ho
    rw [this]
    exact ⟨rfl, rfl⟩
theorem all_congr {α : Type} {f g : α → Bool} : ∀ {l : List α}, (∀ x, x ∈ l → f x = g x) → l.all f = l.all g
  | [], _ => rfl
  | x :: l, h => by rw [List.all_cons, List.all_cons, h x (List.mem_cons_self ..), all_congr fun y hy => h y (List.mem_cons_of_mem _ hy)]
theorem flatMap_congr {α β : Type} {f g : α → List β} : ∀ {l : List α}, (∀ x, x ∈ l → f x = g x) → l.flatMap f = l.flatMap g
  | [], _ => rfl
  | x :: l, h => by rw [List.flatMap_cons, List.flatMap_cons, h x (List.mem_cons_self ..), flatMap_congr fun y hy => h y (List.mem_cons_of_mem _ hy)]
theorem all_and {α : Type} (f g : α → Bool) : ∀ l : List α, l.all (fun x => f x && g x) = (l.all f && l.all g)
  | [] => rfl
  | x :: l => by
    rw [List.all_cons, List.all_cons, List.all_cons, all_and f g l]
    cases f x <;> cases g x <;> simp
theorem pls_eq {p : Pr'} (hP : isP p = true) (hS : singleR p = true) : plL putP ofH p.body (levs p) 0 0 = plsR p := plL_eq p.body (levs p) 0 0 (isP_rows hP) (levs_len p) (levs_B hP hS) lvB0
theorem last_eq {p : Pr'} (hP : isP p = true) (hS : singleR p = true) : lastP p = lastR p := mvL_eq p.body (levs p) 0 (isP_rows hP) (levs_len p) (levs_B hP hS) lvB0
theorem pls_arg {p : Pr'} (hP : isP p = true) {x : Pl} (hx : x ∈ plsR p) (h3 : opOf x.2.1 = 3) : ∃ a0, argsS x.2.1 = [a0] ∧ formE p.width p.vars 1 a0 = true := by
  have hev := plL_ev p.body (levs p) 0 0 x hx
  have hrow := evL_row p.body 0 (isP_rows hP) _ hev
  have hvm := row_vm _ hrow
  obtain ⟨n, ⟨op, nn, a, t, e⟩, lv, ar⟩ := x
  have h3' : op = 3 := h3
  have hrow' : rowB p.width p.vars (.mk op nn a t e) = true := hrow
  have hvm' : vm1 p.vars.length (.mk op nn a t e) := hvm
  rw [vm1] at hvm'
  rw [rowB] at hrow'
  simp only [Bool.and_eq_true] at hrow'
  obtain ⟨a0, rfl⟩ := hvm'.2.2.1 (.inr (.inr h3'))
  refine ⟨a0, rfl, ?_⟩
  have := hrow'.2
  simp only [List.all_cons, List.all_nil, Bool.and_true] at this
  rw [isE_eq] at this
  simp only [Bool.and_eq_true] at this
  exact this.2
theorem pls_in {p : Pr'} (hN : smsN p.body ≤ 600) {at_ : List Int} (hA : outsB p at_ = true) {x : Pl} (hx : x ∈ plsR p) (hi : inB at_ x.1 = true) : opOf x.2.1 = 3 := by
  have hev : (x.1, x.2.1) ∈ every p := plL_ev p.body (levs p) 0 0 x hx
  obtain ⟨h0, h1, y, hy, h3⟩ := okAt_lt (outsF_mem (every p) at_ none hA x.1 (inB_iff.1 hi))
  obtain ⟨j, hj⟩ := List.mem_iff_getElem?.1 hev
  have hn := (evL_at p.body 0 (by omega) (by omega)).2 j _ hj
  dsimp only at hn
  have hjn : x.1.toNat = j := by omega
  rw [hjn, hj] at hy
  injection hy with hy
  rw [← hy] at h3
  exact h3
theorem pls_nice {p : Pr'} (hP : isP p = true) (hS : singleR p = true) (hN : smsN p.body ≤ 600) {at_ : List Int} (hA : outsB p at_ = true) : ∀ x, x ∈ plsR p → nice p at_ x := fun x hx =>
  ⟨fun h3 => by obtain ⟨a0, h1, h2⟩ := pls_arg hP hx h3; exact ⟨a0, 1, h1, h2⟩, fun hi => pls_in hN hA hx hi,
    plL_lv (mvR_ok p.vars p.vars.length) p.body (levs p) 0 0 (rows_vm _ (isP_rows hP)) (levs_len p) (levs_B hP hS) lvB0 x hx⟩
/-- Both say the same of what is released. -/
theorem relX_eq {p : Pr'} (low : Int) (hP : isP p = true) (hS : singleR p = true) (hN : smsN p.body ≤ 600) {at_ : List Int} (hA : outsB p at_ = true) {fl : List (Int × Int × Int)} (hfl : (plsR p).flatMap flPl = fl.map flC) :
    relX p low at_ = (fl.all (fun x => inB at_ x.1) && (plsR p).all (okR p at_), (plsR p).flatMap (moR low at_)) := by
  have hn := pls_nice hP hS hN hA
  unfold relX
  rw [spL_eq (updQ p low at_) p.body (levs p) 0 _ 0 (isP_rows hP) (by omega) (by omega)]
  dsimp only
  rw [pls_eq hP hS, foldQ, fl_all at_ hfl, all_congr (fun x hx => (okQ_eq (low := low) (hn x hx)).1), flatMap_congr (fun x hx => (okQ_eq (low := low) (hn x hx)).2), all_and]
  rfl
/-- What the reference answers, in the package's words. -/
theorem refV_eq {p : Pr'} (low : Int) (hP : isP p = true) (hS : singleR p = true) (hN : smsN p.body ≤ 600) {at_ : List Int} (hA : outsB p at_ = true) {fl : List (Int × Int × Int)} (hfl : (plsR p).flatMap flPl = fl.map flC) :
    refV p low at_ fl = if (relX p low at_).1 = true then .tup [.agg (clC 2 (preE p.vars low (levs p) (relX p low at_).2) (halfE p.vars low (lastP p)) low 1), .bool true] else .tup [.agg zC, .bool false] := by
  rw [relX_eq low hP hS hN hA hfl, last_eq hP hS]
  unfold refV
  rw [refF_eq]
  dsimp only
  cases fl.all fun x => inB at_ x.1
  · rfl
  · cases (plsR p).all (okR p at_)
    · rfl
    · rfl
/-! ### How large it is -/
theorem eqM_K (a : Ex') : exK (eqM a) = 2 * exK a + 2 := by
  unfold eqM
  rw [exK, exsK, exsK, exsK, mvE_K, mvE_K]; omega
theorem bothE_K (a b : Ex') : exK (bothE a b) = exK a + exK b + 2 := by
  unfold bothE
  rw [exK, exsK, exsK, exsK]; omega
theorem foldB_K : ∀ (xs : List Ex') (e : Ex'), exK (xs.foldl bothE e) = exK e + (xs.map (fun x => exK x + 2)).sum
  | [], e => by simp
  | x :: xs, e => by
    rw [List.foldl_cons, foldB_K xs, bothE_K, List.map_cons, List.sum_cons]; omega
theorem foldB_B : ∀ (xs : List Ex') (e : Ex'), exB e → (∀ x, x ∈ xs → exB x) → exB (xs.foldl bothE e)
  | [], e, he, _ => he
  | x :: xs, e, he, hx => by
    rw [List.foldl_cons]
    refine foldB_B xs _ ?_ (fun y hy => hx y (List.mem_cons_of_mem _ hy))
    unfold bothE
    simp only [exB, exsB]
    exact ⟨by simp, he, hx x (List.mem_cons_self ..), trivial⟩
theorem moR_W (low : Int) {at_ : List Int} : ∀ (l : List Pl), (∀ x, x ∈ l → inB at_ x.1 = true → ∃ a0, argsS x.2.1 = [a0]) → ((l.flatMap (moR low at_)).map (fun x => exK x + 2)).sum ≤ 2 * plW l + 4 * l.length
  | [], _ => by simp
  | x :: l, h => by
    have ih := moR_W low (at_ := at_) l (fun y hy => h y (List.mem_cons_of_mem _ hy))
    have hx := h x (List.mem_cons_self ..)
    rw [List.flatMap_cons, List.map_append, List.sum_append, plW_cons, List.length_cons]
    have : ((moR low at_ x).map (fun x => exK x + 2)).sum ≤ 2 * exsK (argsS x.2.1) + 4 := by
      unfold moR
      cases hi : inB at_ x.1 with
      | false => simp
      | true =>
        rw [if_pos rfl]
        obtain ⟨a0, ha⟩ := hx hi
        rw [ha]
        have h2 : exsK [a0] = exK a0 + 1 := rfl
        have h3 : a0E [a0] = a0 := rfl
        rw [h2, h3]
        split
        · simp only [List.map_cons, List.map_nil, List.sum_cons, List.sum_nil, eqM_K]; omega
        · simp
    omega
theorem pre_ok {p : Pr'} (low : Int) (hP : isP p = true) (hS : singleR p = true) (hN : smsN p.body ≤ 600) (hK : smsK p.body ≤ 6100) (hb : prB p) {at_ : List Int} (hA : outsB p at_ = true) (hh : exK (halfE p.vars low (levs p)) ≤ 2000) (hB : exB (halfE p.vars low (levs p))) :
    exK (preE p.vars low (levs p) (relX p low at_).2) ≤ 17000 ∧ exB (preE p.vars low (levs p) (relX p low at_).2) := by
  obtain ⟨fl, hfl⟩ := flPls_num (plsR p)
  rw [relX_eq low hP hS hN hA hfl]
  dsimp only
  have hn := pls_nice hP hS hN hA
  have hone : ∀ x, x ∈ plsR p → inB at_ x.1 = true → ∃ a0, argsS x.2.1 = [a0] := fun x hx hi => by
    obtain ⟨h1, h2, _⟩ := hn x hx
    obtain ⟨a0, _, h3, _⟩ := h1 (h2 hi)
    exact ⟨a0, h3⟩
  have hW := moR_W low (plsR p) hone
  have hW2 : plW (plsR p) ≤ smsK p.body := plL_W p.body (levs p) 0 0
  have hl : (plsR p).length ≤ smsN p.body := plL_len (putR p.vars) ofA p.body (levs p) 0 0
  have hok := plL_ok (K := smsK p.body) (mvR_ok p.vars p.vars.length) p.body (levs p) 0 0 (Nat.le_refl _) hb.2.2 (rows_vm _ (isP_rows hP)) (levs_len p) (levs_B hP hS) lvB0
  unfold preE
  refine ⟨by rw [foldB_K]; omega, foldB_B _ _ hB fun y hy => ?_⟩
  obtain ⟨x, hx, hy⟩ := List.mem_flatMap.1 hy
  have hxo := hok x hx
  unfold moR at hy
  cases hi : inB at_ x.1 with
  | false => rw [hi, if_neg (by simp)] at hy; cases hy
  | true =>
    rw [hi, if_pos rfl] at hy
    obtain ⟨a0, ha⟩ := hone x hx hi
    rw [ha] at hy
    split at hy
    · rw [List.mem_singleton] at hy
      subst hy
      obtain ⟨n, ⟨op, nn, a, t, e⟩, lv, ar⟩ := x
      have ha' : a = [a0] := ha
      subst ha'
      obtain ⟨_, _, o3, _⟩ := hxo
      have h3 : exB (a0E [a0]) := o3.1
      unfold eqM
      simp only [exB, exsB]
      exact ⟨by simp, mvE_B 0 _ h3, mvE_B 1 _ h3, trivial⟩
    · cases hy
end Go.Proofs.YtelobnllkhnpaaaGreat.L
/- The law LevelReleases. -/
namespace Go.Proofs.YtelobnllkhnpaaaGreat.E
/-- The law is walked over what is known of its calls: of level.Released by SoundAt, of all others from the first configuration. -/
noncomputable def orcR (K : Nat) (v0 : List AV) (r0 : AV) (lo : Nat) (g : Fn) (vs : List AV) (h : Heap) : Option (AV × Heap) :=
  match g with
  | .func f => match Nat.beq f 3 with
    | true => none
    | false => match Nat.beq f 7 with
      | true => @ite _ (vs = v0 ∧ SoundAt Tryz.prog lo f vs h r0 h) (Classical.propDecidable _) (some (r0, h)) none
      | false => call Tryz.prog cfg K lo (.func f) vs h
  | _ => none
theorem orcR_sound (K : Nat) (v0 : List AV) (r0 : AV) : SoundK Tryz.prog (orcR K v0 r0) := by
  intro lo g vs h r h' hk
  unfold orcR at hk
  split at hk
  · rename_i f
    split at hk
    · cases hk
    · split at hk
      · split at hk
        · rename_i hs
          injection hk with hk
          injection hk with e1 e2
          subst e1 e2
          exact hs.2
        · cases hk
      · exact sound.all K lo (.func f) vs h r h' hk
  · cases hk
noncomputable def cfgR (K : Nat) (v0 : List AV) (r0 : AV) : Cfg := { cfg with orc := orcR K v0 r0 }
theorem soundR (K : Nat) (v0 : List AV) (r0 : AV) : Sound Tryz.prog (cfgR K v0 r0) := ⟨sound0.tab, cfg_ok, orcR_sound K v0 r0⟩
theorem viaR {K f k lo : Nat} {v0 vs : List AV} {h : Heap} {r0 : AV} {r : AV × Heap} (ho : Nat.beq f 3 = false) (hi : Nat.beq f 7 = false) (hc : call Tryz.prog cfg K lo (.func f) vs h = some r) (hk : 1 ≤ k) : call Tryz.prog (cfgR K v0 r0) k lo (.func f) vs h = some r := by
  obtain ⟨k, rfl⟩ : ∃ k', k = k' + 1 := ⟨k - 1, by omega⟩
  have : (cfgR K v0 r0).orc lo (.func f) vs h = some r := by
    show orcR K v0 r0 lo (.func f) vs h = some r
    unfold orcR
    dsimp only
    rw [ho, hi]
    exact hc
  simp only [call, this]
theorem viaRel {K k lo : Nat} {v0 : List AV} {h : Heap} {r0 : AV} (hc : SoundAt Tryz.prog lo 7 v0 h r0 h) (hk : 1 ≤ k) : call Tryz.prog (cfgR K v0 r0) k lo (.func 7) v0 h = some (r0, h) := by
  obtain ⟨k, rfl⟩ : ∃ k', k = k' + 1 := ⟨k - 1, by omega⟩
  have : (cfgR K v0 r0).orc lo (.func 7) v0 h = some (r0, h) := by
    show orcR K v0 r0 lo (.func 7) v0 h = some (r0, h)
    unfold orcR
    show @ite _ (v0 = v0 ∧ SoundAt Tryz.prog lo 7 v0 h r0 h) (Classical.propDecidable _) (some (r0, h)) none = _
    rw [if_pos ⟨rfl, hc⟩]
  simp only [call, this]
end Go.Proofs.YtelobnllkhnpaaaGreat.E
namespace Go.Proofs.YtelobnllkhnpaaaGreat.L
/-! ### Errors -/
def relE (c : Int) : AV := .tup [.agg zC, .bool false, .int .i64 c]
theorem relF_run (p : Pr') (low : Int) (at_ : List Int) (hN : smsN p.body ≤ 600) (hf : faultI p ≠ 0) (k : Nat) (hk : smsK p.body + p.vars.length + 100 ≤ k) (hb : prB p) (h : Heap) (lo : Nat) :
    call Tryz.prog cfg (k + 1) lo (.func 7) [.agg (prC p), .int .i64 low, .vs 1 (intsC at_)] h = some (relE (faultI p), h) := by
  have hC := levcheck_run p (k - 1) (by omega) hb (h ++ [HObj.cells 3 [.int .i64 low]] ++ [HObj.cells 26 [.vs 1 (intsC at_)]]) h.length
  rw [show k - 1 + 1 = k by omega, chk_eq p hN] at hC
  rcases faultI_cases p with ⟨h0, _, _⟩ | h1 | h1
  · exact absurd h0 hf
  · rw [h1] at hC ⊢
    obtain ⟨w, vs, body⟩ := p
    apply W_call Tryz.func7 rfl (Nat.le_of_ble_eq_true rfl) rfl rfl
    (repeat' (first | apply W_seq | refine W_true rfl rfl ?_ | refine W_region (id := 0) rfl rfl ?_ | (refine W_ops (id := 1) rfl ?_ <;> refine T_ch 1 rfl ?_ <;> (refine T_go rfl ?_; refine G_op (O_call rfl rfl rfl rfl ‹_›) ?_) <;> refine T_ch 1 rfl ?_ <;> apply T_nil) | (refine W_ops (id := 2) rfl ?_ <;> refine T_ch 1 rfl ?_ <;> (refine T_go rfl ?_; refine G_true rfl rfl ?_) <;> apply T_nil) | refine W_region (id := 3) rfl rfl ?_ | apply W_ret))
    exact ⟨.inl rfl, rfl⟩
  · rw [h1] at hC ⊢
    obtain ⟨w, vs, body⟩ := p
    apply W_call Tryz.func7 rfl (Nat.le_of_ble_eq_true rfl) rfl rfl
    (repeat' (first | apply W_seq | refine W_true rfl rfl ?_ | refine W_region (id := 0) rfl rfl ?_ | (refine W_ops (id := 1) rfl ?_ <;> refine T_ch 1 rfl ?_ <;> (refine T_go rfl ?_; refine G_op (O_call rfl rfl rfl rfl ‹_›) ?_) <;> refine T_ch 1 rfl ?_ <;> apply T_nil) | (refine W_ops (id := 2) rfl ?_ <;> refine T_ch 1 rfl ?_ <;> (refine T_go rfl ?_; refine G_true rfl rfl ?_) <;> apply T_nil) | refine W_region (id := 3) rfl rfl ?_ | apply W_ret))
    exact ⟨.inl rfl, rfl⟩
theorem relL_run (p : Pr') (low : Int) (at_ : List Int) (hN : smsN p.body ≤ 600) (hf : faultI p = 0) (hl : lowB low = true) (k : Nat) (hk : smsK p.body + p.vars.length + 100 ≤ k) (hb : prB p) (h : Heap) (lo : Nat) :
    call Tryz.prog cfg (k + 1) lo (.func 7) [.agg (prC p), .int .i64 low, .vs 1 (intsC at_)] h = some (relE 1, h) := by
  have hC := levcheck_run p (k - 1) (by omega) hb (h ++ [HObj.cells 3 [.int .i64 low]] ++ [HObj.cells 26 [.vs 1 (intsC at_)]]) h.length
  have g4 : (h ++ [HObj.cells 3 [.int .i64 low]] ++ [HObj.cells 26 [.vs 1 (intsC at_)]])[h.length]? = some (.cells 3 [.int .i64 low]) := by simp
  rw [show k - 1 + 1 = k by omega, chk_eq p hN, hf] at hC
  unfold lowB at hl
  obtain ⟨w, vs, body⟩ := p
  cases h1 : decide (low < 0)
  · rw [h1, Bool.false_or] at hl
    apply W_call Tryz.func7 rfl (Nat.le_of_ble_eq_true rfl) rfl rfl
    (repeat' (first | apply W_seq | refine W_true rfl rfl ?_ | refine W_false rfl rfl ?_ | refine W_region (id := 0) rfl rfl ?_ | (refine W_ops (id := 1) rfl ?_ <;> refine T_ch 1 rfl ?_ <;> (refine T_go rfl ?_; refine G_op (O_call rfl rfl rfl rfl ‹_›) ?_) <;> refine T_ch 1 rfl ?_ <;> apply T_nil) | (refine W_ops (id := 2) rfl ?_ <;> refine T_ch 1 rfl ?_ <;> (refine T_go rfl ?_; refine G_false rfl rfl ?_) <;> apply T_nil) | (refine W_ops (id := 4) rfl ?_ <;> (refine T_go rfl ?_; refine G_op (O_loadH rfl rfl rfl ‹_› rfl rfl) ?_) <;> (refine T_go rfl ?_; refine G_false rfl (by with_reducible assumption) ?_) <;> refine T_ch 1 rfl ?_ <;> (refine T_go rfl ?_; refine G_op (O_loadH rfl rfl rfl ‹_› rfl rfl) ?_) <;> (refine T_go rfl ?_; refine G_true rfl (by with_reducible assumption) ?_) <;> refine T_ch 1 rfl ?_ <;> apply T_nil) | refine W_region (id := 5) rfl rfl ?_ | apply W_skip | apply W_ret))
    exact ⟨.inl rfl, rfl⟩
  · clear hl
    apply W_call Tryz.func7 rfl (Nat.le_of_ble_eq_true rfl) rfl rfl
    (repeat' (first | apply W_seq | refine W_true rfl rfl ?_ | refine W_false rfl rfl ?_ | refine W_region (id := 0) rfl rfl ?_ | (refine W_ops (id := 1) rfl ?_ <;> refine T_ch 1 rfl ?_ <;> (refine T_go rfl ?_; refine G_op (O_call rfl rfl rfl rfl ‹_›) ?_) <;> refine T_ch 1 rfl ?_ <;> apply T_nil) | (refine W_ops (id := 2) rfl ?_ <;> refine T_ch 1 rfl ?_ <;> (refine T_go rfl ?_; refine G_false rfl rfl ?_) <;> apply T_nil) | (refine W_ops (id := 4) rfl ?_ <;> (refine T_go rfl ?_; refine G_op (O_loadH rfl rfl rfl ‹_› rfl rfl) ?_) <;> (refine T_go rfl ?_; refine G_true rfl (by with_reducible assumption) ?_) <;> refine T_ch 1 rfl ?_ <;> refine T_skip rfl ?_ <;> refine T_skip rfl ?_ <;> refine T_ch 1 rfl ?_ <;> apply T_nil) | refine W_region (id := 5) rfl rfl ?_ | apply W_skip | apply W_ret))
    exact ⟨.inl rfl, rfl⟩
def relA (p : Pr') (low : Int) (at_ : List Int) : AV := if faultI p ≠ 0 then relE (faultI p) else if lowB low = true then relE 1 else relV p low at_
theorem half_ok {p : Pr'} (hP : isP p = true) (low : Int) (l : List Int) : exK (halfE p.vars low l) ≤ 1800 ∧ exB (halfE p.vars low l) := by
  obtain ⟨_, _, q2⟩ := isP_head hP
  have ht := tot_le p.vars (isP_vars hP)
  obtain ⟨b1, b2⟩ := halfE_ok p.vars low l
  exact ⟨by omega, b2⟩
theorem released_sound (p : Pr') (low : Int) (at_ : List Int) (hf : fitsS p.body 600 = true) (hb : prB p) (hal : at_.length < 9223372036854775808) (h : Heap) (lo : Nat) :
    SoundAt Tryz.prog lo 7 [.agg (prC p), .int .i64 low, .vs 1 (intsC at_)] h (relA p low at_) h := by
  have hK := fits_K hf
  have hN : smsN p.body ≤ 600 := by
    rw [fitsS_eq _ _ (by omega) (by omega)] at hf
    have := of_decide_eq_true hf
    omega
  have hS := sound.all (smsK p.body + p.vars.length + 100 + 1) lo (.func 7) [.agg (prC p), .int .i64 low, .vs 1 (intsC at_)] h
  unfold relA
  by_cases hF : faultI p = 0
  · rw [if_neg (by simp [hF])]
    cases hL : lowB low with
    | true =>
      rw [if_pos rfl]
      exact hS _ _ (relL_run p low at_ hN hF hL _ (Nat.le_refl _) hb h lo)
    | false =>
      rw [if_neg (by simp)]
      obtain ⟨hP, hSi⟩ : isP p = true ∧ singleR p = true := by
        rcases faultI_cases p with ⟨_, a, b⟩ | a | a
        · exact ⟨a, b⟩
        · omega
        · omega
      unfold lowB at hL
      rw [Bool.or_eq_false_iff] at hL
      obtain ⟨c1, c2⟩ := half_ok hP low (levs p)
      obtain ⟨d1, d2⟩ := half_ok hP low (lastP p)
      have hp : atsF p none at_ = true → exK (preE p.vars low (levs p) (relX p low at_).2) ≤ 17000 ∧ exB (preE p.vars low (levs p) (relX p low at_).2) := fun ha => by
        rw [atsF_eq hN] at ha
        exact pre_ok low hP hSi hN hK hb ha (by omega) c2
      exact released_at p low at_ hP hSi hN hK hb hL.1 hL.2 hal (fun ha => by rw [atsF_eq hN] at ha; have := outs_len hN ha; omega) (atF_B hN) (fun ha => by have := (hp ha).1; omega) (fun ha => (hp ha).2) (by omega) d2 (isP_vars hP) (by omega) h lo
  · rw [if_pos hF]
    exact hS _ _ (relF_run p low at_ hN hF _ (Nat.le_refl _) hb h lo)
theorem clmM_two (w : Int) (vs : List Vr') (low : Int) (l1 l2 : List Int) (xs : List Ex') (hh : headPB w vs = true) :
    ((isE w vs 2 (preE vs low l1 xs) && isE w vs 2 (halfE vs low l2)) = true ∧ clmM w vs low l1 l2 xs = (clC 2 (preE vs low l1 xs) (halfE vs low l2) low 1, 0)) ∨
    ((isE w vs 2 (preE vs low l1 xs) && isE w vs 2 (halfE vs low l2)) = false ∧ clmM w vs low l1 l2 xs = (zC, 2)) := by
  unfold clmM
  rw [checkI_eq2 _ _ _ hh, checkI_eq2 _ _ _ hh]
  cases isE w vs 2 (preE vs low l1 xs) <;> cases isE w vs 2 (halfE vs low l2)
  · exact .inr ⟨rfl, rfl⟩
  · exact .inr ⟨rfl, rfl⟩
  · exact .inr ⟨rfl, rfl⟩
  · exact .inl ⟨rfl, rfl⟩
set_option maxHeartbeats 4000000 in
theorem releases_law (p : Pr') (low : Int) (at_ : List Int) (r0 : AV) (hr0 : relA p low at_ = r0) (K : Nat) (hK : K = 2 * smsK p.body + p.vars.length + at_.length + 30000) (k : Nat) (hk : 5000 ≤ k) (hb : prB p) (hal : at_.length < 9223372036854775808) (h : Heap) (lo : Nat) :
    call Tryz.prog (cfgR (K + 1) [.agg (prC p), .int .i64 low, .vs 1 (intsC at_)] r0) (k + 1) lo (.func 3) [.agg (prC p), .int .i64 low, .vs 1 (intsC at_)] h = some (.bool true, h) := by
  have hA := viaR (K := K + 1) (k := k) (v0 := [.agg (prC p), .int .i64 low, .vs 1 (intsC at_)]) (r0 := r0) rfl rfl (awake_run (K + 1) h.length h (by omega)) (by omega)
  have h1 := viaR (K := K + 1) (k := k) (v0 := [.agg (prC p), .int .i64 low, .vs 1 (intsC at_)]) (r0 := r0) rfl rfl (fitsS_run K h h.length p.body (by omega) hb.2.1 hb.2.2 600) (by omega)
  cases hft : fitsS p.body 600 with
  | false =>
    rw [hft] at h1
    clear hr0
    obtain ⟨w, vs, body⟩ := p
    apply W_call Tryz.func3 rfl (Nat.le_of_ble_eq_true rfl) rfl rfl
    (repeat' (first | apply W_seq | refine W_true rfl rfl ?_ | refine W_region (id := 0) rfl rfl ?_ | (refine W_ops (id := 1) rfl ?_ <;> refine T_ch 2 rfl ?_ <;> (refine T_go rfl ?_; refine G_false (O_call rfl rfl rfl rfl ‹_›) rfl ?_) <;> refine T_ch 1 rfl ?_ <;> apply T_nil) | (refine W_ops (id := 2) rfl ?_ <;> (refine T_go rfl ?_; refine G_true (O_call rfl rfl rfl rfl ‹_›) rfl ?_) <;> refine T_ch 1 rfl ?_ <;> apply T_nil) | apply W_ret))
    all_goals exact ⟨.inl rfl, rfl⟩
  | true =>
  rw [hft] at h1
  have hkk := fits_K hft
  have hN : smsN p.body ≤ 600 := by
    rw [fitsS_eq _ _ (by omega) (by omega)] at hft
    have := of_decide_eq_true hft
    omega
  have hS0 := released_sound p low at_ hft hb hal h h.length
  rw [hr0] at hS0
  have hS := viaRel (K := K + 1) (k := k) hS0 (by omega)
  clear hS0
  have hF := viaR (K := K + 1) (k := k) (v0 := [.agg (prC p), .int .i64 low, .vs 1 (intsC at_)]) (r0 := r0) rfl rfl (fault_run p K (by omega) hb h h.length) (by omega)
  have hNo := viaR (K := K + 1) (k := k) (v0 := [.agg (prC p), .int .i64 low, .vs 1 (intsC at_)]) (r0 := r0) rfl rfl (none07_run K h h.length (by omega)) (by omega)
  have hO := viaR (K := K + 1) (k := k) (v0 := [.agg (prC p), .int .i64 low, .vs 1 (intsC at_)]) (r0 := r0) rfl rfl (outs_run p at_ K (by omega) hal hN hb h h.length) (by omega)
  rcases faultI_cases p with ⟨hf, hP, hSi⟩ | hf | hf
  · rw [hf] at hF
    unfold relA at hr0
    rw [if_neg (by simp [hf])] at hr0
    cases hw1 : decide (low < 0)
    case true =>
      rw [if_pos (by simp [lowB, hw1])] at hr0
      subst hr0
      obtain ⟨w, vs, body⟩ := p
      apply W_call Tryz.func3 rfl (Nat.le_of_ble_eq_true rfl) rfl rfl
      (repeat' (first | apply W_seq | refine W_true rfl rfl ?_ | refine W_false rfl rfl ?_ | refine W_region (id := 0) rfl rfl ?_ | (refine W_ops (id := 1) rfl ?_ <;> refine T_ch 2 rfl ?_ <;> (refine T_go rfl ?_; refine G_true (O_call rfl rfl rfl rfl ‹_›) rfl ?_) <;> refine T_ch 1 rfl ?_ <;> apply T_nil) | (refine W_ops (id := 3) rfl ?_ <;> refine T_ch 3 rfl ?_ <;> (refine T_go rfl ?_; refine G_op (O_call rfl rfl rfl rfl ‹_›) ?_) <;> refine T_ch 2 rfl ?_ <;> (refine T_go rfl ?_; refine G_false rfl rfl ?_) <;> refine T_ch 5 rfl ?_ <;> apply T_nil) | (refine W_ops (id := 4) rfl ?_ <;> refine T_ch 1 rfl ?_ <;> (refine T_go rfl ?_; refine G_op (O_call rfl rfl rfl rfl ‹_›) ?_) <;> refine T_ch 1 rfl ?_ <;> apply T_nil) | (refine W_ops (id := 5) rfl ?_ <;> refine T_ch 1 rfl ?_ <;> (refine T_go rfl ?_; refine G_true rfl rfl ?_) <;> refine T_ch 2 rfl ?_ <;> (refine T_go rfl ?_; refine G_true rfl (by with_reducible assumption) ?_) <;> refine T_ch 2 rfl ?_ <;> refine T_skip rfl ?_ <;> refine T_ch 4 rfl ?_ <;> refine T_skip rfl ?_ <;> refine T_ch 3 rfl ?_ <;> apply T_nil) | refine W_region (id := 6) rfl rfl ?_ | (refine W_ops (id := 7) rfl ?_ <;> refine T_ch 1 rfl ?_ <;> (refine T_go rfl ?_; refine G_true rfl rfl ?_) <;> apply T_nil) | (refine W_ops (id := 8) rfl ?_ <;> refine T_ch 2 rfl ?_ <;> (refine T_go rfl ?_; refine G_true rfl rfl ?_) <;> refine T_ch 6 rfl ?_ <;> (refine T_go rfl ?_; refine G_true (O_call rfl rfl rfl rfl ‹_›) rfl ?_) <;> refine T_ch 2 rfl ?_ <;> (refine T_go rfl ?_; refine G_true (O_call rfl rfl rfl rfl ‹_›) rfl ?_) <;> refine T_ch 2 rfl ?_ <;> apply T_nil) | apply W_skip | apply W_ret))
      all_goals exact ⟨.inl rfl, rfl⟩
    cases hw2 : decide (low > 15)
    case true =>
      rw [if_pos (by simp [lowB, hw2])] at hr0
      subst hr0
      obtain ⟨w, vs, body⟩ := p
      apply W_call Tryz.func3 rfl (Nat.le_of_ble_eq_true rfl) rfl rfl
      (repeat' (first | apply W_seq | refine W_true rfl rfl ?_ | refine W_false rfl rfl ?_ | refine W_region (id := 0) rfl rfl ?_ | (refine W_ops (id := 1) rfl ?_ <;> refine T_ch 2 rfl ?_ <;> (refine T_go rfl ?_; refine G_true (O_call rfl rfl rfl rfl ‹_›) rfl ?_) <;> refine T_ch 1 rfl ?_ <;> apply T_nil) | (refine W_ops (id := 3) rfl ?_ <;> refine T_ch 3 rfl ?_ <;> (refine T_go rfl ?_; refine G_op (O_call rfl rfl rfl rfl ‹_›) ?_) <;> refine T_ch 2 rfl ?_ <;> (refine T_go rfl ?_; refine G_false rfl rfl ?_) <;> refine T_ch 5 rfl ?_ <;> apply T_nil) | (refine W_ops (id := 4) rfl ?_ <;> refine T_ch 1 rfl ?_ <;> (refine T_go rfl ?_; refine G_op (O_call rfl rfl rfl rfl ‹_›) ?_) <;> refine T_ch 1 rfl ?_ <;> apply T_nil) | (refine W_ops (id := 5) rfl ?_ <;> refine T_ch 1 rfl ?_ <;> (refine T_go rfl ?_; refine G_true rfl rfl ?_) <;> refine T_ch 2 rfl ?_ <;> (refine T_go rfl ?_; refine G_false rfl (by with_reducible assumption) ?_) <;> refine T_ch 2 rfl ?_ <;> (refine T_go rfl ?_; refine G_true rfl (by with_reducible assumption) ?_) <;> refine T_ch 4 rfl ?_ <;> refine T_skip rfl ?_ <;> refine T_ch 3 rfl ?_ <;> apply T_nil) | refine W_region (id := 6) rfl rfl ?_ | (refine W_ops (id := 7) rfl ?_ <;> refine T_ch 1 rfl ?_ <;> (refine T_go rfl ?_; refine G_true rfl rfl ?_) <;> apply T_nil) | (refine W_ops (id := 8) rfl ?_ <;> refine T_ch 2 rfl ?_ <;> (refine T_go rfl ?_; refine G_true rfl rfl ?_) <;> refine T_ch 6 rfl ?_ <;> (refine T_go rfl ?_; refine G_true (O_call rfl rfl rfl rfl ‹_›) rfl ?_) <;> refine T_ch 2 rfl ?_ <;> (refine T_go rfl ?_; refine G_true (O_call rfl rfl rfl rfl ‹_›) rfl ?_) <;> refine T_ch 2 rfl ?_ <;> apply T_nil) | apply W_skip | apply W_ret))
      all_goals exact ⟨.inl rfl, rfl⟩
    rw [if_neg (by simp [lowB, hw1, hw2])] at hr0
    unfold relV at hr0
    rw [atsF_eq hN] at hr0
    have hOB : outsF (every p) none at_ = outsB p at_ := rfl
    rw [hOB] at hr0
    cases ho : outsB p at_ with
    | false =>
      rw [ho] at hO hr0
      rw [if_neg (by simp)] at hr0
      subst hr0
      obtain ⟨w, vs, body⟩ := p
      apply W_call Tryz.func3 rfl (Nat.le_of_ble_eq_true rfl) rfl rfl
      (repeat' (first | apply W_seq | refine W_true rfl rfl ?_ | refine W_false rfl rfl ?_ | refine W_region (id := 0) rfl rfl ?_ | (refine W_ops (id := 1) rfl ?_ <;> refine T_ch 2 rfl ?_ <;> (refine T_go rfl ?_; refine G_true (O_call rfl rfl rfl rfl ‹_›) rfl ?_) <;> refine T_ch 1 rfl ?_ <;> apply T_nil) | (refine W_ops (id := 3) rfl ?_ <;> refine T_ch 3 rfl ?_ <;> (refine T_go rfl ?_; refine G_op (O_call rfl rfl rfl rfl ‹_›) ?_) <;> refine T_ch 2 rfl ?_ <;> (refine T_go rfl ?_; refine G_false rfl rfl ?_) <;> refine T_ch 5 rfl ?_ <;> apply T_nil) | (refine W_ops (id := 4) rfl ?_ <;> refine T_ch 1 rfl ?_ <;> (refine T_go rfl ?_; refine G_op (O_call rfl rfl rfl rfl ‹_›) ?_) <;> refine T_ch 1 rfl ?_ <;> apply T_nil) | (refine W_ops (id := 5) rfl ?_ <;> refine T_ch 1 rfl ?_ <;> (refine T_go rfl ?_; refine G_true rfl rfl ?_) <;> refine T_ch 2 rfl ?_ <;> (refine T_go rfl ?_; refine G_false rfl (by with_reducible assumption) ?_) <;> refine T_ch 2 rfl ?_ <;> (refine T_go rfl ?_; refine G_false rfl (by with_reducible assumption) ?_) <;> refine T_ch 4 rfl ?_ <;> (refine T_go rfl ?_; refine G_false (O_call rfl rfl rfl rfl ‹_›) rfl ?_) <;> refine T_ch 3 rfl ?_ <;> apply T_nil) | refine W_region (id := 6) rfl rfl ?_ | (refine W_ops (id := 7) rfl ?_ <;> refine T_ch 1 rfl ?_ <;> (refine T_go rfl ?_; refine G_true rfl rfl ?_) <;> apply T_nil) | (refine W_ops (id := 8) rfl ?_ <;> refine T_ch 2 rfl ?_ <;> (refine T_go rfl ?_; refine G_true rfl rfl ?_) <;> refine T_ch 6 rfl ?_ <;> (refine T_go rfl ?_; refine G_true (O_call rfl rfl rfl rfl ‹_›) rfl ?_) <;> refine T_ch 2 rfl ?_ <;> (refine T_go rfl ?_; refine G_true (O_call rfl rfl rfl rfl ‹_›) rfl ?_) <;> refine T_ch 2 rfl ?_ <;> apply T_nil) | apply W_skip | apply W_ret))
      all_goals exact ⟨.inl rfl, rfl⟩
    | true =>
    rw [ho] at hO hr0
    rw [if_pos rfl] at hr0
    obtain ⟨hhd, hv1, hv2⟩ := isP_head hP
    have hvm := rows_vm _ (isP_rows hP)
    have hB := levs_B hP hSi
    obtain ⟨fl, hfl⟩ := flPls_num (plsR p)
    have hol := outs_len hN ho
    have hR := viaR (K := K + 1) (k := k) (v0 := [.agg (prC p), .int .i64 low, .vs 1 (intsC at_)]) (r0 := r0) rfl rfl (relR_run p low at_ K (by omega) (by omega) hN hb hv1 hv2 hvm hB (by omega) hal (fun v hv => by have := isP_vars hP v hv; omega)
      (fun x hx hi => by obtain ⟨a0, q, _⟩ := pls_arg hP hx (pls_in hN ho hx hi); exact ⟨a0, q⟩) fl hfl h h.length) (by omega)
    rw [refV_eq low hP hSi hN ho hfl] at hR
    unfold relT at hr0
    cases hx : (relX p low at_).1 with
    | false =>
      rw [hx] at hR hr0
      rw [if_neg (by simp)] at hR hr0
      subst hr0
      clear hfl hB hvm
      obtain ⟨w, vs, body⟩ := p
      apply W_call Tryz.func3 rfl (Nat.le_of_ble_eq_true rfl) rfl rfl
      (repeat' (first | apply W_seq | refine W_true rfl rfl ?_ | refine W_false rfl rfl ?_ | refine W_region (id := 0) rfl rfl ?_ | (refine W_ops (id := 1) rfl ?_ <;> refine T_ch 2 rfl ?_ <;> (refine T_go rfl ?_; refine G_true (O_call rfl rfl rfl rfl ‹_›) rfl ?_) <;> refine T_ch 1 rfl ?_ <;> apply T_nil) | (refine W_ops (id := 3) rfl ?_ <;> refine T_ch 3 rfl ?_ <;> (refine T_go rfl ?_; refine G_op (O_call rfl rfl rfl rfl ‹_›) ?_) <;> refine T_ch 2 rfl ?_ <;> (refine T_go rfl ?_; refine G_false rfl rfl ?_) <;> refine T_ch 5 rfl ?_ <;> apply T_nil) | (refine W_ops (id := 4) rfl ?_ <;> refine T_ch 1 rfl ?_ <;> (refine T_go rfl ?_; refine G_op (O_call rfl rfl rfl rfl ‹_›) ?_) <;> refine T_ch 1 rfl ?_ <;> apply T_nil) | (refine W_ops (id := 5) rfl ?_ <;> refine T_ch 1 rfl ?_ <;> (refine T_go rfl ?_; refine G_true rfl rfl ?_) <;> refine T_ch 2 rfl ?_ <;> (refine T_go rfl ?_; refine G_false rfl (by with_reducible assumption) ?_) <;> refine T_ch 2 rfl ?_ <;> (refine T_go rfl ?_; refine G_false rfl (by with_reducible assumption) ?_) <;> refine T_ch 4 rfl ?_ <;> (refine T_go rfl ?_; refine G_true (O_call rfl rfl rfl rfl ‹_›) rfl ?_) <;> refine T_ch 3 rfl ?_ <;> apply T_nil) | (refine W_ops (id := 7) rfl ?_ <;> refine T_ch 1 rfl ?_ <;> (refine T_go rfl ?_; refine G_false rfl rfl ?_) <;> apply T_nil) | (refine W_ops (id := 9) rfl ?_ <;> refine T_ch 3 rfl ?_ <;> (refine T_go rfl ?_; refine G_op (O_call rfl rfl rfl rfl ‹_›) ?_) <;> refine T_ch 2 rfl ?_ <;> (refine T_go rfl ?_; refine G_false rfl rfl ?_) <;> refine T_ch 3 rfl ?_ <;> apply T_nil) | refine W_region (id := 10) rfl rfl ?_ | (refine W_ops (id := 11) rfl ?_ <;> refine T_ch 1 rfl ?_ <;> (refine T_go rfl ?_; refine G_true rfl rfl ?_) <;> refine T_ch 6 rfl ?_ <;> (refine T_go rfl ?_; refine G_true (O_call rfl rfl rfl rfl ‹_›) rfl ?_) <;> refine T_ch 2 rfl ?_ <;> (refine T_go rfl ?_; refine G_true (O_call rfl rfl rfl rfl ‹_›) rfl ?_) <;> refine T_ch 2 rfl ?_ <;> apply T_nil) | apply W_skip | apply W_ret))
      all_goals exact ⟨.inl rfl, rfl⟩
    | true =>
    rw [hx] at hR hr0
    rw [if_pos rfl] at hR hr0
    unfold relC at hr0
    obtain ⟨c1, c2⟩ := half_ok hP low (levs p)
    obtain ⟨d1, d2⟩ := half_ok hP low (lastP p)
    obtain ⟨x1, x2⟩ := pre_ok low hP hSi hN hkk hb ho (by omega) c2
    have hlo : 0 ≤ low ∧ low ≤ 15 := by
      have := of_decide_eq_false hw1
      have := of_decide_eq_false hw2
      omega
    have hsr := singleR_run p (K - 2) (by omega) hb h (h.length)
    rw [hSi, show K - 2 + 1 = K - 1 by omega] at hsr
    generalize (relX p low at_).2 = xs at hR hr0 x1 x2
    rcases clmM_two p.width p.vars low (levs p) (lastP p) xs hhd with ⟨hi, he⟩ | ⟨hi, he⟩
    · rw [he] at hr0
      rw [Bool.and_eq_true] at hi
      have hcl := viaR (K := K + 1) (k := k) (v0 := [.agg (prC p), .int .i64 low, .vs 1 (intsC at_)]) (r0 := r0) rfl rfl (claimsY_run p.width p.vars p.body _ _ low hlo.1 hlo.2 K (by omega) (by omega) x2 d2 h h.length hsr hi.1 hi.2 (isE_fits hi.1) (isE_fits hi.2)) (by omega)
      clear hfl hB hvm hi he hsr hx
      obtain ⟨w, vs, body⟩ := p
      dsimp only at *
      generalize preE vs low (levs ⟨w, vs, body⟩) xs = e1 at *
      generalize halfE vs low (lastP ⟨w, vs, body⟩) = e2 at *
      obtain ⟨p1, n1, q1, s1⟩ := e1
      obtain ⟨p2, n2, q2, s2⟩ := e2
      have hr1 : AV.tup [.agg (clC 2 (.mk p1 n1 q1 s1) (.mk p2 n2 q2 s2) low 1), .bool true, .int .i64 0] = r0 := hr0
      subst hr1
      apply W_call Tryz.func3 rfl (Nat.le_of_ble_eq_true rfl) rfl rfl
      (repeat' (first | apply W_seq | refine W_false rfl rfl ?_ | refine W_region (id := 0) rfl rfl ?_ | (refine W_ops (id := 1) rfl ?_ <;> refine T_ch 2 rfl ?_ <;> (refine T_go rfl ?_; refine G_true (O_call rfl rfl rfl rfl ‹_›) rfl ?_) <;> refine T_ch 1 rfl ?_ <;> apply T_nil) | (refine W_ops (id := 3) rfl ?_ <;> refine T_ch 3 rfl ?_ <;> (refine T_go rfl ?_; refine G_op (O_call rfl rfl rfl rfl ‹_›) ?_) <;> refine T_ch 2 rfl ?_ <;> (refine T_go rfl ?_; refine G_true rfl rfl ?_) <;> refine T_ch 5 rfl ?_ <;> apply T_nil) | (refine W_ops (id := 4) rfl ?_ <;> refine T_ch 1 rfl ?_ <;> (refine T_go rfl ?_; refine G_op (O_call rfl rfl rfl rfl ‹_›) ?_) <;> refine T_ch 1 rfl ?_ <;> apply T_nil) | (refine W_ops (id := 5) rfl ?_ <;> refine T_ch 1 rfl ?_ <;> (refine T_go rfl ?_; refine G_true rfl rfl ?_) <;> refine T_ch 2 rfl ?_ <;> (refine T_go rfl ?_; refine G_false rfl (by with_reducible assumption) ?_) <;> refine T_ch 2 rfl ?_ <;> (refine T_go rfl ?_; refine G_false rfl (by with_reducible assumption) ?_) <;> refine T_ch 4 rfl ?_ <;> (refine T_go rfl ?_; refine G_true (O_call rfl rfl rfl rfl ‹_›) rfl ?_) <;> refine T_ch 3 rfl ?_ <;> apply T_nil) | (refine W_ops (id := 7) rfl ?_ <;> refine T_ch 1 rfl ?_ <;> (refine T_go rfl ?_; refine G_false rfl rfl ?_) <;> apply T_nil) | (refine W_ops (id := 9) rfl ?_ <;> refine T_ch 3 rfl ?_ <;> (refine T_go rfl ?_; refine G_op (O_call rfl rfl rfl rfl ‹_›) ?_) <;> refine T_ch 2 rfl ?_ <;> (refine T_go rfl ?_; refine G_true rfl rfl ?_) <;> refine T_ch 3 rfl ?_ <;> apply T_nil) | refine W_region (id := 10) rfl rfl ?_ | (refine W_ops (id := 12) rfl ?_ <;> refine T_ch 2 rfl ?_ <;> (refine T_go rfl ?_; refine G_true rfl rfl ?_) <;> (refine T_go rfl ?_; refine G_true rfl rfl ?_) <;> refine T_ch 5 rfl ?_ <;> (refine T_go rfl ?_; refine G_true (O_call rfl rfl rfl rfl ‹_›) rfl ?_) <;> refine T_ch 2 rfl ?_ <;> (refine T_go rfl ?_; refine G_true (O_call rfl rfl rfl rfl ‹_›) rfl ?_) <;> refine T_ch 2 rfl ?_ <;> apply T_nil) | apply W_skip | apply W_ret))
      all_goals exact ⟨.inl rfl, rfl⟩
    · rw [he] at hr0
      have hcl := viaR (K := K + 1) (k := k) (v0 := [.agg (prC p), .int .i64 low, .vs 1 (intsC at_)]) (r0 := r0) rfl rfl (claimsN_run p.width p.vars p.body _ _ low hlo.1 hlo.2 K (by omega) (by omega) x2 d2 h h.length hsr hi) (by omega)
      clear hfl hB hvm hi he hsr hx
      obtain ⟨w, vs, body⟩ := p
      dsimp only at *
      generalize preE vs low (levs ⟨w, vs, body⟩) xs = e1 at *
      generalize halfE vs low (lastP ⟨w, vs, body⟩) = e2 at *
      obtain ⟨p1, n1, q1, s1⟩ := e1
      obtain ⟨p2, n2, q2, s2⟩ := e2
      have hr1 : AV.tup [.agg zC, .bool false, .int .i64 2] = r0 := hr0
      subst hr1
      apply W_call Tryz.func3 rfl (Nat.le_of_ble_eq_true rfl) rfl rfl
      (repeat' (first | apply W_seq | refine W_false rfl rfl ?_ | refine W_region (id := 0) rfl rfl ?_ | (refine W_ops (id := 1) rfl ?_ <;> refine T_ch 2 rfl ?_ <;> (refine T_go rfl ?_; refine G_true (O_call rfl rfl rfl rfl ‹_›) rfl ?_) <;> refine T_ch 1 rfl ?_ <;> apply T_nil) | (refine W_ops (id := 3) rfl ?_ <;> refine T_ch 3 rfl ?_ <;> (refine T_go rfl ?_; refine G_op (O_call rfl rfl rfl rfl ‹_›) ?_) <;> refine T_ch 2 rfl ?_ <;> (refine T_go rfl ?_; refine G_false rfl rfl ?_) <;> refine T_ch 5 rfl ?_ <;> apply T_nil) | (refine W_ops (id := 4) rfl ?_ <;> refine T_ch 1 rfl ?_ <;> (refine T_go rfl ?_; refine G_op (O_call rfl rfl rfl rfl ‹_›) ?_) <;> refine T_ch 1 rfl ?_ <;> apply T_nil) | (refine W_ops (id := 5) rfl ?_ <;> refine T_ch 1 rfl ?_ <;> (refine T_go rfl ?_; refine G_true rfl rfl ?_) <;> refine T_ch 2 rfl ?_ <;> (refine T_go rfl ?_; refine G_false rfl (by with_reducible assumption) ?_) <;> refine T_ch 2 rfl ?_ <;> (refine T_go rfl ?_; refine G_false rfl (by with_reducible assumption) ?_) <;> refine T_ch 4 rfl ?_ <;> (refine T_go rfl ?_; refine G_true (O_call rfl rfl rfl rfl ‹_›) rfl ?_) <;> refine T_ch 3 rfl ?_ <;> apply T_nil) | (refine W_ops (id := 7) rfl ?_ <;> refine T_ch 1 rfl ?_ <;> (refine T_go rfl ?_; refine G_false rfl rfl ?_) <;> apply T_nil) | (refine W_ops (id := 9) rfl ?_ <;> refine T_ch 3 rfl ?_ <;> (refine T_go rfl ?_; refine G_op (O_call rfl rfl rfl rfl ‹_›) ?_) <;> refine T_ch 2 rfl ?_ <;> (refine T_go rfl ?_; refine G_true rfl rfl ?_) <;> refine T_ch 3 rfl ?_ <;> apply T_nil) | refine W_region (id := 10) rfl rfl ?_ | (refine W_ops (id := 12) rfl ?_ <;> refine T_ch 2 rfl ?_ <;> (refine T_go rfl ?_; refine G_false rfl rfl ?_) <;> (refine T_go rfl ?_; refine G_true rfl rfl ?_) <;> refine T_ch 5 rfl ?_ <;> (refine T_go rfl ?_; refine G_true (O_call rfl rfl rfl rfl ‹_›) rfl ?_) <;> refine T_ch 2 rfl ?_ <;> (refine T_go rfl ?_; refine G_true (O_call rfl rfl rfl rfl ‹_›) rfl ?_) <;> refine T_ch 2 rfl ?_ <;> apply T_nil) | apply W_skip | apply W_ret))
      all_goals exact ⟨.inl rfl, rfl⟩
  · unfold relA at hr0
    rw [if_pos (by omega), hf] at hr0
    rw [hf] at hF
    subst hr0
    obtain ⟨w, vs, body⟩ := p
    apply W_call Tryz.func3 rfl (Nat.le_of_ble_eq_true rfl) rfl rfl
    (repeat' (first | apply W_seq | refine W_true rfl rfl ?_ | refine W_false rfl rfl ?_ | refine W_region (id := 0) rfl rfl ?_ | (refine W_ops (id := 1) rfl ?_ <;> refine T_ch 2 rfl ?_ <;> (refine T_go rfl ?_; refine G_true (O_call rfl rfl rfl rfl ‹_›) rfl ?_) <;> refine T_ch 1 rfl ?_ <;> apply T_nil) | (refine W_ops (id := 3) rfl ?_ <;> refine T_ch 3 rfl ?_ <;> (refine T_go rfl ?_; refine G_op (O_call rfl rfl rfl rfl ‹_›) ?_) <;> refine T_ch 2 rfl ?_ <;> (refine T_go rfl ?_; refine G_false rfl rfl ?_) <;> refine T_ch 5 rfl ?_ <;> apply T_nil) | (refine W_ops (id := 4) rfl ?_ <;> refine T_ch 1 rfl ?_ <;> (refine T_go rfl ?_; refine G_op (O_call rfl rfl rfl rfl ‹_›) ?_) <;> refine T_ch 1 rfl ?_ <;> apply T_nil) | (refine W_ops (id := 5) rfl ?_ <;> refine T_ch 1 rfl ?_ <;> (refine T_go rfl ?_; refine G_false rfl rfl ?_) <;> refine T_ch 2 rfl ?_ <;> refine T_skip rfl ?_ <;> refine T_ch 2 rfl ?_ <;> refine T_skip rfl ?_ <;> refine T_ch 4 rfl ?_ <;> refine T_skip rfl ?_ <;> refine T_ch 3 rfl ?_ <;> apply T_nil) | (refine W_ops (id := 7) rfl ?_ <;> refine T_ch 1 rfl ?_ <;> (refine T_go rfl ?_; refine G_true rfl rfl ?_) <;> apply T_nil) | (refine W_ops (id := 8) rfl ?_ <;> refine T_ch 2 rfl ?_ <;> (refine T_go rfl ?_; refine G_true rfl rfl ?_) <;> refine T_ch 6 rfl ?_ <;> (refine T_go rfl ?_; refine G_true (O_call rfl rfl rfl rfl ‹_›) rfl ?_) <;> refine T_ch 2 rfl ?_ <;> (refine T_go rfl ?_; refine G_true (O_call rfl rfl rfl rfl ‹_›) rfl ?_) <;> refine T_ch 2 rfl ?_ <;> apply T_nil) | apply W_skip | apply W_ret))
    all_goals exact ⟨.inl rfl, rfl⟩
  · unfold relA at hr0
    rw [if_pos (by omega), hf] at hr0
    rw [hf] at hF
    subst hr0
    obtain ⟨w, vs, body⟩ := p
    apply W_call Tryz.func3 rfl (Nat.le_of_ble_eq_true rfl) rfl rfl
    (repeat' (first | apply W_seq | refine W_true rfl rfl ?_ | refine W_false rfl rfl ?_ | refine W_region (id := 0) rfl rfl ?_ | (refine W_ops (id := 1) rfl ?_ <;> refine T_ch 2 rfl ?_ <;> (refine T_go rfl ?_; refine G_true (O_call rfl rfl rfl rfl ‹_›) rfl ?_) <;> refine T_ch 1 rfl ?_ <;> apply T_nil) | (refine W_ops (id := 3) rfl ?_ <;> refine T_ch 3 rfl ?_ <;> (refine T_go rfl ?_; refine G_op (O_call rfl rfl rfl rfl ‹_›) ?_) <;> refine T_ch 2 rfl ?_ <;> (refine T_go rfl ?_; refine G_false rfl rfl ?_) <;> refine T_ch 5 rfl ?_ <;> apply T_nil) | (refine W_ops (id := 4) rfl ?_ <;> refine T_ch 1 rfl ?_ <;> (refine T_go rfl ?_; refine G_op (O_call rfl rfl rfl rfl ‹_›) ?_) <;> refine T_ch 1 rfl ?_ <;> apply T_nil) | (refine W_ops (id := 5) rfl ?_ <;> refine T_ch 1 rfl ?_ <;> (refine T_go rfl ?_; refine G_false rfl rfl ?_) <;> refine T_ch 2 rfl ?_ <;> refine T_skip rfl ?_ <;> refine T_ch 2 rfl ?_ <;> refine T_skip rfl ?_ <;> refine T_ch 4 rfl ?_ <;> refine T_skip rfl ?_ <;> refine T_ch 3 rfl ?_ <;> apply T_nil) | (refine W_ops (id := 7) rfl ?_ <;> refine T_ch 1 rfl ?_ <;> (refine T_go rfl ?_; refine G_true rfl rfl ?_) <;> apply T_nil) | (refine W_ops (id := 8) rfl ?_ <;> refine T_ch 2 rfl ?_ <;> (refine T_go rfl ?_; refine G_true rfl rfl ?_) <;> refine T_ch 6 rfl ?_ <;> (refine T_go rfl ?_; refine G_true (O_call rfl rfl rfl rfl ‹_›) rfl ?_) <;> refine T_ch 2 rfl ?_ <;> (refine T_go rfl ?_; refine G_true (O_call rfl rfl rfl rfl ‹_›) rfl ?_) <;> refine T_ch 2 rfl ?_ <;> apply T_nil) | apply W_skip | apply W_ret))
    all_goals exact ⟨.inl rfl, rfl⟩
theorem levelReleases_run (p : Pr') (low : Int) (at_ : List Int) (K : Nat) (hK : K = 2 * smsK p.body + p.vars.length + at_.length + 30000) (k : Nat) (hk : 5000 ≤ k) (hb : prB p) (hal : at_.length < 9223372036854775808) (h : Heap) (lo : Nat) :
    call Tryz.prog (cfgR (K + 1) [.agg (prC p), .int .i64 low, .vs 1 (intsC at_)] (relA p low at_)) (k + 1) lo (.func 3) [.agg (prC p), .int .i64 low, .vs 1 (intsC at_)] h = some (.bool true, h) :=
  releases_law p low at_ _ rfl K hK k hk hb hal h lo
/- The arguments, as the evaluator's values. -/
section
variable {H : Type} {enc : TypeId × Value → H} {P : Program} {w : World} {spare : Nat → Bool} {held : Bool}
theorem trod_int {t : TypeId} {k : IntKind} (ht : P.underlying t = some (.int k)) {fuel : Nat} {cs : List Value} {x : DataW H × List MemPlace} (h : DataW.trod enc P w 0 spare held fuel t cs = some x) : ∃ n : Int, cs = [.int k n] := by
  cases fuel with
  | zero => cases h
  | succ fuel =>
    unfold DataW.trod at h
    rw [ht] at h
    split at h <;> first | (cases h; done) | (rename_i e; injection e with e; cases e; done) | skip
    all_goals try (rename_i e; injection e with e; injection e with e; subst e)
    · split at h
      · rename_i hc; obtain ⟨hc, _⟩ := hc; subst hc; exact ⟨_, rfl⟩
      · cases h
theorem trod_str {t : TypeId} (ht : P.underlying t = some .string) {fuel : Nat} {cs : List Value} {x : DataW H × List MemPlace} (h : DataW.trod enc P w 0 spare held fuel t cs = some x) : ∃ s : ByteArray, cs = [.string s] ∧ s.size ≤ maxLen := by
  cases fuel with
  | zero => cases h
  | succ fuel =>
    unfold DataW.trod at h
    rw [ht] at h
    split at h <;> first | (cases h; done) | (rename_i e; injection e with e; cases e; done) | skip
    · split at h
      · rename_i hc; exact ⟨_, rfl, hc⟩
      · cases h
theorem mapM_some {α β : Type} {F : α → Option β} : ∀ {l : List α} {ys : List β}, l.mapM F = some ys → ∀ x, x ∈ l → ∃ y, F x = some y
  | [], _, _, x, hx => by cases hx
  | a :: l, ys, h, x, hx => by
    rw [List.mapM_cons] at h
    cases ha : F a with
    | none => rw [ha] at h; cases h
    | some b =>
      rw [ha] at h
      cases hl : l.mapM F with
      | none => rw [hl] at h; cases h
      | some bs =>
        rcases List.mem_cons.1 hx with rfl | hx
        · exact ⟨b, ha⟩
        · exact mapM_some hl x hx
theorem trod_slice {t e : TypeId} (ht : P.underlying t = some (.slice e)) {fuel : Nat} {cs : List Value} {x : DataW H × List MemPlace} (h : DataW.trod enc P w 0 spare held (fuel + 1) t cs = some x) :
    cs = [.slice none 0 0] ∨ ∃ a len cap, cs = [.slice (some a) len cap] ∧ len ≤ cap ∧ cap ≤ maxLen ∧ ∀ i, i < len → ∃ row y, w.cells? 0 (a.add (i * P.cellsOf e)) (P.cellsOf e) = some row ∧ DataW.trod enc P w 0 spare held fuel e row = some y := by
  unfold DataW.trod at h
  rw [ht] at h
  split at h <;> first | (cases h; done) | (rename_i e; injection e with e; cases e; done) | skip
  · exact .inl rfl
  · rename_i e' a len cap he
    injection he with he; injection he with he; subst he
    dsimp only at h
    split at h
    · rename_i hc
      refine .inr ⟨a, len, cap, rfl, hc.2.1, hc.2.2, fun i hi => ?_⟩
      obtain ⟨elems, h1, h2⟩ := Option.bind_eq_some_iff.1 h
      obtain ⟨y, hy⟩ := mapM_some h1 i (List.mem_range.2 hi)
      obtain ⟨row, h3, h4⟩ := Option.bind_eq_some_iff.1 hy
      exact ⟨row, y, h3, h4⟩
    · cases h
theorem mapM_get {α β : Type} {F : α → Option β} : ∀ {l : List α} {ys : List β}, l.mapM F = some ys → ys.length = l.length ∧ ∀ (i : Nat) (x : α), l[i]? = some x → F x = ys[i]?
  | [], ys, h => by simp at h; subst h; simp
  | a :: l, ys, h => by
    rw [List.mapM_cons] at h
    cases ha : F a with
    | none => rw [ha] at h; cases h
    | some b =>
      rw [ha] at h
      cases hl : l.mapM F with
      | none => rw [hl] at h; cases h
      | some bs =>
        rw [hl] at h
        injection h with h
        subst h
        obtain ⟨h1, h2⟩ := mapM_get hl
        refine ⟨by simp [h1], fun i x hx => ?_⟩
        cases i with
        | zero => simp at hx; subst hx; exact ha
        | succ i => simp at hx; simpa using h2 i x hx
theorem cells_get {base : Nat} {a : Addr} {n : Nat} {row : List Value} (h : w.cells? base a n = some row) : row.length = n ∧ ∀ j, j < n → w.cell? (a.add j) = row[j]? := by
  unfold World.cells? at h
  split at h
  · obtain ⟨h1, h2⟩ := mapM_get h
    refine ⟨by simpa using h1, fun j hj => h2 j j (by simp [hj])⟩
  · cases h
theorem static_one {a : AV} (h : static a = true) : oneCell a = true := by cases a <;> first | rfl | (cases h; done)
/-- A slice whose elements are rows, each related to its cells. -/
theorem rel_vs {S : Nat → Prop} (hS : ∀ b, b < w.heap.size → S b) {t e : TypeId} {sz : Nat} (hsz : P.cellsOf e = sz) (ht : P.underlying t = some (.slice e)) {fuel : Nat} {v : Value} {x : DataW H × List MemPlace} (h : DataW.trod enc P w 0 spare held (fuel + 1) t [v] = some x)
    {α : Type} (C : α → List AV) (B : α → Prop) (hrow : ∀ row y, DataW.trod enc P w 0 spare held fuel e row = some y → ∃ c : α, RelVs (Ctx.start w S) (C c) row ∧ (∀ a, a ∈ C c → static a = true) ∧ B c) (h0 : 0 < sz) :
    ∃ l : List α, RelV (Ctx.start w S) (.vs sz (l.map C)) v ∧ l.length ≤ maxLen ∧ ∀ c, c ∈ l → B c := by
  rcases trod_slice ht h with hv | ⟨a, len, cap, hv, h1, h2, h3⟩
  · injection hv with hv; subst hv
    exact ⟨[], .vs (.vs (fun _ _ => undef) rfl (Nat.le_refl _) (by simp) (by simp) (by simp) (by simp)), by simp, by simp⟩
  · injection hv with hv; subst hv
    rw [hsz] at h3
    have hall : ∀ i, i < len → ∃ (row : List Value) (c : α), w.cells? 0 (a.add (i * sz)) sz = some row ∧ RelVs (Ctx.start w S) (C c) row ∧ (∀ a, a ∈ C c → static a = true) ∧ B c := fun i hi => by
      obtain ⟨row, y, q1, q2⟩ := h3 i hi
      obtain ⟨c, q3⟩ := hrow row y q2
      exact ⟨row, c, q1, q3⟩
    have hex : ∃ (l : List α), l.length = len ∧ ∀ i c, l[i]? = some c → ∃ row : List Value, w.cells? 0 (a.add (i * sz)) sz = some row ∧ RelVs (Ctx.start w S) (C c) row ∧ (∀ a, a ∈ C c → static a = true) ∧ B c := by
      clear h h1 h2 h3
      induction len with
      | zero => exact ⟨[], rfl, fun i c hi => by simp at hi⟩
      | succ n ih =>
        obtain ⟨l, q1, q2⟩ := ih (fun i hi => hall i (by omega))
        obtain ⟨row, c, q3⟩ := hall n (by omega)
        refine ⟨l ++ [c], by simp [q1], fun i c' hi => ?_⟩
        rcases Nat.lt_or_ge i l.length with hlt | hge
        · rw [List.getElem?_append_left hlt] at hi; exact q2 i c' hi
        · rw [List.getElem?_append_right hge] at hi
          have : i - l.length = 0 := by
            rcases Nat.eq_zero_or_pos (i - l.length) with e | e
            · exact e
            · rw [List.getElem?_eq_none (by simp; omega)] at hi; cases hi
          rw [this] at hi
          simp at hi; subst hi
          have : i = n := by omega
          subst this
          exact ⟨row, q3⟩
    obtain ⟨l, hl, hl2⟩ := hex
    have hcell : ∀ i c j, l[i]? = some c → j < sz → ∃ u, w.cell? (a.add (i * sz + j)) = some u ∧ ∀ y, (C c)[j]? = some y → RelV (Ctx.start w S) y u := fun i c j hi hj => by
      obtain ⟨row, q1, q2, _⟩ := hl2 i c hi
      obtain ⟨q4, q5⟩ := cells_get q1
      have := q5 j hj
      rw [add_add] at this
      refine ⟨row[j], by rw [this]; exact List.getElem?_eq_getElem (by omega), fun y hy => ?_⟩
      obtain ⟨u, q6, q7⟩ := q2.get j y hy
      rw [List.getElem?_eq_getElem (by omega)] at q6
      injection q6 with q6; rw [q6]; exact q7
    refine ⟨l, .vs (.vs (fun i j => (w.cell? (a.add (i * sz + j))).getD undef) (by simp [hl]) h1 (fun r hr => ?_) (fun _ => ⟨a, rfl⟩) (fun ad had i j hi hj => ?_) (fun i j r y hr hy => ?_)), by omega, fun c hc => ?_⟩
    · obtain ⟨c, hc, rfl⟩ := List.mem_map.1 hr
      obtain ⟨i, hi⟩ := List.mem_iff_getElem?.1 hc
      obtain ⟨row, q1, q2, q3, _⟩ := hl2 i c hi
      have := q2.len
      exact ⟨by rw [← this]; exact (cells_get q1).1, fun x hx => static_one (q3 x hx)⟩
    · injection had with had; subst had
      obtain ⟨c, hc⟩ : ∃ c, l[i]? = some c := ⟨l[i], List.getElem?_eq_getElem (by omega)⟩
      obtain ⟨u, q1, _⟩ := hcell i c j hc hj
      refine ⟨by show w.cell? _ = _; rw [q1]; rfl, hS _ ?_⟩
      have : w.cell? (a.add (i * sz + j)) = some u := q1
      unfold World.cell? at this
      rw [add_block] at this
      split at this
      · rename_i hb; exact heap_lt hb
      · cases this
    · rw [List.getElem?_map] at hr
      obtain ⟨c, hc, rfl⟩ := Option.map_eq_some_iff.1 hr
      obtain ⟨row, q1, q2, _⟩ := hl2 i c hc
      have hj : j < sz := by
        have := q2.len
        have h4 := (cells_get q1).1
        rcases Nat.lt_or_ge j (C c).length with h' | h'
        · omega
        · rw [List.getElem?_eq_none h'] at hy; cases hy
      obtain ⟨_, _, _, qs, _⟩ := hl2 i c hc
      obtain ⟨u, q3, q4⟩ := hcell i c j hc hj
      rw [q3]
      exact (q4 y hy).toT (qs y (List.mem_of_getElem? hy))
    · obtain ⟨i, hi⟩ := List.mem_iff_getElem?.1 hc
      obtain ⟨row, _, _, _, q⟩ := hl2 i c hi
      exact q
theorem trod_struct {t : TypeId} {fs : Array Field} (ht : P.underlying t = some (.struct fs)) {fuel : Nat} {cs : List Value} {x : DataW H × List MemPlace} (h : DataW.trod enc P w 0 spare held (fuel + 1) t cs = some x) :
    cs.length = P.cellsOf t ∧ ∀ f, f ∈ fs.toList → ∃ y, DataW.trod enc P w 0 spare held fuel f.type ((cs.drop f.offset).take (P.cellsOf f.type)) = some y := by
  unfold DataW.trod at h
  rw [ht] at h
  split at h <;> first | (cases h; done) | (rename_i e; injection e with e; cases e; done) | skip
  · rename_i he
    injection he with he; injection he with he; subst he
    split at h
    · rename_i hl
      refine ⟨hl, fun f hf => ?_⟩
      simp only [Option.map_eq_some_iff] at h
      obtain ⟨xs, h1, _⟩ := h
      exact mapM_some h1 f hf
    · cases h
  · exfalso
    have hh : ∀ (fs_1 : Array Field), some (TypeDesc.struct fs) = some (TypeDesc.struct fs_1) → False := by assumption
    exact hh fs rfl
end
theorem c3 : Tryz.prog.cellsOf 3 = 1 := by kernel_rfl
theorem c26 : Tryz.prog.cellsOf 29 = 1 := by kernel_rfl
theorem c28 : Tryz.prog.cellsOf 31 = 4 := by kernel_rfl
theorem exsC_map : ∀ l : List Ex', exsC l = l.map exC
  | [] => rfl
  | e :: l => by rw [exsC, exsC_map l]; rfl
theorem exsB_of : ∀ {l : List Ex'}, (∀ e, e ∈ l → exB e) → exsB l
  | [], _ => trivial
  | e :: l, h => ⟨h e (List.mem_cons_self ..), exsB_of fun e he => h e (List.mem_cons_of_mem _ he)⟩
theorem exC_one (e : Ex') : ∀ a, a ∈ exC e → static a = true := by
  obtain ⟨op, n, c, l⟩ := e
  intro a ha
  rw [exC] at ha
  simp only [List.mem_cons, List.not_mem_nil, or_false] at ha
  rcases ha with rfl | rfl | rfl | rfl <;> rfl
theorem maxLen_small : maxLen < 9223372036854775808 := by decide
section
variable {H : Type} {enc : TypeId × Value → H} {w : World} {spare : Nat → Bool} {held : Bool} {S : Nat → Prop}
theorem trod_exprs_of (hS : ∀ b, b < w.heap.size → S b) {fuel : Nat} (ih : ∀ row y, DataW.trod enc Tryz.prog w 0 spare held fuel 31 row = some y → ∃ e : Ex', RelVs (Ctx.start w S) (exC e) row ∧ exB e) {v : Value} {x : DataW H × List MemPlace}
    (h : DataW.trod enc Tryz.prog w 0 spare held (fuel + 1) 29 [v] = some x) : ∃ l : List Ex', RelV (Ctx.start w S) (.vs 4 (exsC l)) v ∧ l.length < 9223372036854775808 ∧ exsB l := by
  obtain ⟨l, h1, h2, h3⟩ := rel_vs hS c28 Tryz.underlying29 h exC exB (fun row y hy => let ⟨e, a, b⟩ := ih row y hy; ⟨e, a, exC_one e, b⟩) (by decide)
  exact ⟨l, by rw [exsC_map]; exact h1, Nat.lt_of_le_of_lt h2 maxLen_small, exsB_of h3⟩
theorem trod_expr (hS : ∀ b, b < w.heap.size → S b) : ∀ (fuel : Nat) (cs : List Value) (x : DataW H × List MemPlace), DataW.trod enc Tryz.prog w 0 spare held fuel 31 cs = some x → ∃ e : Ex', RelVs (Ctx.start w S) (exC e) cs ∧ exB e := by
  intro fuel
  induction fuel using Nat.strongRecOn with
  | _ fuel ih =>
    intro cs x h
    cases fuel with
    | zero => cases h
    | succ fuel =>
      obtain ⟨hl, hf⟩ := trod_struct Tryz.underlying31 h
      rw [c28] at hl
      match cs, hl with
      | [a0, a1, a2, a3], _ =>
        obtain ⟨y0, g0⟩ := hf _ (List.mem_cons_self ..)
        obtain ⟨y1, g1⟩ := hf _ (List.mem_cons_of_mem _ (List.mem_cons_self ..))
        obtain ⟨y2, g2⟩ := hf _ (List.mem_cons_of_mem _ (List.mem_cons_of_mem _ (List.mem_cons_self ..)))
        obtain ⟨y3, g3⟩ := hf _ (List.mem_cons_of_mem _ (List.mem_cons_of_mem _ (List.mem_cons_of_mem _ (List.mem_cons_self ..))))
        rw [c3] at g0 g1 g2
        rw [c26] at g3
        obtain ⟨n0, e0⟩ := trod_int Tryz.underlying3 g0
        obtain ⟨n1, e1⟩ := trod_int Tryz.underlying3 g1
        obtain ⟨n2, e2⟩ := trod_int Tryz.underlying3 g2
        simp at e0 e1 e2 g3
        subst e0 e1 e2
        cases fuel with
        | zero => cases g3
        | succ fuel =>
          obtain ⟨l, r1, r2, r3⟩ := trod_exprs_of hS (ih fuel (by omega)) g3
          exact ⟨.mk n0 n1 n2 l, .cons (.int _ _) (.cons (.int _ _) (.cons (.int _ _) (.cons r1 .nil))), r2, r3⟩
theorem trod_exprs (hS : ∀ b, b < w.heap.size → S b) (fuel : Nat) {v : Value} {x : DataW H × List MemPlace} (h : DataW.trod enc Tryz.prog w 0 spare held fuel 29 [v] = some x) : ∃ l : List Ex', RelV (Ctx.start w S) (.vs 4 (exsC l)) v ∧ l.length < 9223372036854775808 ∧ exsB l := by
  cases fuel with
  | zero => cases h
  | succ fuel => exact trod_exprs_of hS (trod_expr hS fuel) h
theorem c86 : Tryz.prog.cellsOf 64 = 5 := by kernel_rfl
theorem c23 : Tryz.prog.cellsOf 23 = 1 := by kernel_rfl
theorem smsC_map : ∀ l : List Sm', smsC l = l.map smC
  | [] => rfl
  | e :: l => by rw [smsC, smsC_map l]; rfl
theorem smsB_of : ∀ {l : List Sm'}, (∀ e, e ∈ l → smB e) → smsB l
  | [], _ => trivial
  | e :: l, h => ⟨h e (List.mem_cons_self ..), smsB_of fun e he => h e (List.mem_cons_of_mem _ he)⟩
theorem smC_one (e : Sm') : ∀ a, a ∈ smC e → static a = true := by
  obtain ⟨op, n, l, t, e⟩ := e
  intro a ha
  rw [smC] at ha
  simp only [List.mem_cons, List.not_mem_nil, or_false] at ha
  rcases ha with rfl | rfl | rfl | rfl | rfl <;> rfl
theorem trod_stmts_of (hS : ∀ b, b < w.heap.size → S b) {fuel : Nat} (ih : ∀ row y, DataW.trod enc Tryz.prog w 0 spare held fuel 64 row = some y → ∃ e : Sm', RelVs (Ctx.start w S) (smC e) row ∧ smB e) {v : Value} {x : DataW H × List MemPlace}
    (h : DataW.trod enc Tryz.prog w 0 spare held (fuel + 1) 23 [v] = some x) : ∃ l : List Sm', RelV (Ctx.start w S) (.vs 5 (smsC l)) v ∧ l.length < 9223372036854775808 ∧ smsB l := by
  obtain ⟨l, h1, h2, h3⟩ := rel_vs hS c86 Tryz.underlying23 h smC smB (fun row y hy => let ⟨e, a, b⟩ := ih row y hy; ⟨e, a, smC_one e, b⟩) (by decide)
  exact ⟨l, by rw [smsC_map]; exact h1, Nat.lt_of_le_of_lt h2 maxLen_small, smsB_of h3⟩
theorem trod_stmt (hS : ∀ b, b < w.heap.size → S b) : ∀ (fuel : Nat) (cs : List Value) (x : DataW H × List MemPlace), DataW.trod enc Tryz.prog w 0 spare held fuel 64 cs = some x → ∃ e : Sm', RelVs (Ctx.start w S) (smC e) cs ∧ smB e := by
  intro fuel
  induction fuel using Nat.strongRecOn with
  | _ fuel ih =>
    intro cs x h
    cases fuel with
    | zero => cases h
    | succ fuel =>
      obtain ⟨hl, hf⟩ := trod_struct Tryz.underlying64 h
      rw [c86] at hl
      match cs, hl with
      | [a0, a1, a2, a3, a4], _ =>
        obtain ⟨y0, g0⟩ := hf _ (List.mem_cons_self ..)
        obtain ⟨y1, g1⟩ := hf _ (List.mem_cons_of_mem _ (List.mem_cons_self ..))
        obtain ⟨y2, g2⟩ := hf _ (List.mem_cons_of_mem _ (List.mem_cons_of_mem _ (List.mem_cons_self ..)))
        obtain ⟨y3, g3⟩ := hf _ (List.mem_cons_of_mem _ (List.mem_cons_of_mem _ (List.mem_cons_of_mem _ (List.mem_cons_self ..))))
        obtain ⟨y4, g4⟩ := hf _ (List.mem_cons_of_mem _ (List.mem_cons_of_mem _ (List.mem_cons_of_mem _ (List.mem_cons_of_mem _ (List.mem_cons_self ..)))))
        rw [c3] at g0 g1
        rw [c26] at g2
        rw [c23] at g3 g4
        obtain ⟨n0, e0⟩ := trod_int Tryz.underlying3 g0
        obtain ⟨n1, e1⟩ := trod_int Tryz.underlying3 g1
        simp at e0 e1 g2 g3 g4
        subst e0 e1
        obtain ⟨l, r1, r2, r3⟩ := trod_exprs hS fuel g2
        cases fuel with
        | zero => cases g3
        | succ fuel =>
          obtain ⟨t, t1, t2, t3⟩ := trod_stmts_of hS (ih fuel (by omega)) g3
          obtain ⟨e, u1, u2, u3⟩ := trod_stmts_of hS (ih fuel (by omega)) g4
          exact ⟨.mk n0 n1 l t e, .cons (.int _ _) (.cons (.int _ _) (.cons r1 (.cons t1 (.cons u1 .nil)))), ⟨r2, r3⟩, ⟨t2, t3⟩, u2, u3⟩
theorem c76 : Tryz.prog.cellsOf 111 = 3 := by kernel_rfl
theorem c22 : Tryz.prog.cellsOf 22 = 1 := by kernel_rfl
theorem c9 : Tryz.prog.cellsOf 9 = 1 := by kernel_rfl
theorem c25 : Tryz.prog.cellsOf 25 = 3 := by kernel_rfl
theorem trod_var (fuel : Nat) (cs : List Value) (x : DataW H × List MemPlace) (h : DataW.trod enc Tryz.prog w 0 spare held fuel 111 cs = some x) : ∃ e : Vr', RelVs (Ctx.start w S) (vrC e) cs ∧ (∀ a, a ∈ vrC e → static a = true) ∧ vrB e := by
  cases fuel with
  | zero => cases h
  | succ fuel =>
    obtain ⟨hl, hf⟩ := trod_struct Tryz.underlying111 h
    rw [c76] at hl
    match cs, hl with
    | [a0, a1, a2], _ =>
      obtain ⟨y0, g0⟩ := hf _ (List.mem_cons_self ..)
      obtain ⟨y1, g1⟩ := hf _ (List.mem_cons_of_mem _ (List.mem_cons_self ..))
      obtain ⟨y2, g2⟩ := hf _ (List.mem_cons_of_mem _ (List.mem_cons_of_mem _ (List.mem_cons_self ..)))
      rw [c9] at g0
      rw [c3] at g1 g2
      obtain ⟨n0, e0, hn⟩ := trod_str Tryz.underlying9 g0
      obtain ⟨n1, e1⟩ := trod_int Tryz.underlying3 g1
      obtain ⟨n2, e2⟩ := trod_int Tryz.underlying3 g2
      simp at e0 e1 e2
      subst e0 e1 e2
      refine ⟨⟨n0, n1, n2⟩, .cons (.str _) (.cons (.int _ _) (.cons (.int _ _) .nil)), fun a ha => ?_, Nat.lt_of_le_of_lt hn maxLen_small⟩
      simp only [vrC, List.mem_cons, List.not_mem_nil, or_false] at ha
      rcases ha with rfl | rfl | rfl <;> rfl
theorem trod_prog (hS : ∀ b, b < w.heap.size → S b) (fuel : Nat) (cs : List Value) (x : DataW H × List MemPlace) (h : DataW.trod enc Tryz.prog w 0 spare held fuel 25 cs = some x) : ∃ p : Pr', RelVs (Ctx.start w S) (prC p) cs ∧ prB p := by
  cases fuel with
  | zero => cases h
  | succ fuel =>
    obtain ⟨hl, hf⟩ := trod_struct Tryz.underlying25 h
    rw [c25] at hl
    match cs, hl with
    | [a0, a1, a2], _ =>
      obtain ⟨y0, g0⟩ := hf _ (List.mem_cons_self ..)
      obtain ⟨y1, g1⟩ := hf _ (List.mem_cons_of_mem _ (List.mem_cons_self ..))
      obtain ⟨y2, g2⟩ := hf _ (List.mem_cons_of_mem _ (List.mem_cons_of_mem _ (List.mem_cons_self ..)))
      rw [c3] at g0
      rw [c22] at g1
      rw [c23] at g2
      obtain ⟨n0, e0⟩ := trod_int Tryz.underlying3 g0
      simp at e0 g1 g2
      subst e0
      cases fuel with
      | zero => cases g1
      | succ fuel =>
        obtain ⟨vs, v1, v2, v3⟩ := rel_vs hS c76 Tryz.underlying22 g1 vrC vrB (fun row y hy => trod_var (S := S) fuel row y hy) (by decide)
        obtain ⟨l, r1, r2, r3⟩ := trod_stmts_of hS (trod_stmt hS fuel) g2
        exact ⟨⟨n0, vs, l⟩, .cons (.int _ _) (.cons v1 (.cons r1 .nil)), ⟨Nat.lt_of_le_of_lt v2 maxLen_small, v3⟩, r2, r3⟩
end
/- An argument of ints. -/
section
variable {H : Type} {enc : TypeId × Value → H} {w : World} {spare : Nat → Bool} {held : Bool} {S : Nat → Prop}
theorem cells_int : Tryz.prog.cellsOf 3 = 1 := by kernel_rfl
theorem trod_ints (hS : ∀ b, b < w.heap.size → S b) (fuel : Nat) {v : Value} {x : DataW H × List MemPlace} (h : DataW.trod enc Tryz.prog w 0 spare held fuel 26 [v] = some x) : ∃ l : List Int, RelV (Ctx.start w S) (.vs 1 (intsC l)) v ∧ l.length < 9223372036854775808 := by
  cases fuel with
  | zero => cases h
  | succ fuel =>
    obtain ⟨l, h1, h2, _⟩ := rel_vs hS cells_int Tryz.underlying26 h (fun n : Int => [AV.int .i64 n]) (fun _ => True) (fun row y hy => by
      obtain ⟨n, e⟩ := trod_int Tryz.underlying3 hy
      subst e
      exact ⟨n, .cons (.int _ _) .nil, fun a ha => by simp at ha; subst ha; rfl, trivial⟩) (by decide)
    exact ⟨l, h1, Nat.lt_of_le_of_lt h2 maxLen_small⟩
end
end Go.Proofs.YtelobnllkhnpaaaGreat.L
