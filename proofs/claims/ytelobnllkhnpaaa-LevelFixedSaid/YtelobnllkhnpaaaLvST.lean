/- Flows: small functions; items. -/
import Derived.Test.YtelobnllkhnpaaaLvR
open Go Go.Proofs Go.Ev Go.Proofs.Ytelobnllkhnpaaa.E
namespace Go.Proofs.Ytelobnllkhnpaaa.L
set_option linter.unusedVariables false
set_option linter.unusedSimpArgs false
set_option maxRecDepth 100000

def oaS (h : Heap) (lo : Nat) (l : List Int) (es : List Ex') (j : Int) (a : Int) : St :=
  { env := [(0, .v (.vs 1 (intsC l))), (5, .v (.int .i64 a)), (8, .v (.vs 4 (exsC es))), (9, .v (.int .i64 (exsC es).length)), (10, .v (.int .i64 j))], loc := [], heap := h, inRound := false, lo := lo }
theorem ofAll_run (es : List Ex') (l : List Int) (k : Nat) (hk : exsK es ≤ k) (hl : es.length < 9223372036854775808) (hb : exsB es) (hr : rdEs l.length es) (h : Heap) (lo : Nat) : call Try.prog cfg (k + 1) lo (.func 59) [.vs 1 (intsC l), .vs 4 (exsC es)] h = some (.int .i64 (ofEs l 0 es), h) := by
  have hlen := exsK_len es
  apply W_call Try.func59 rfl (Nat.le_of_ble_eq_true rfl) rfl
  (repeat' (first | apply W_seq | refine W_true rfl rfl ?_ | refine W_false rfl rfl ?_ | refine W_region (id := 0) rfl ?_ | refine W_region (id := 1) rfl ?_ | refine W_region (id := 2) rfl ?_ | apply W_skip | apply W_block | apply W_ret | apply W_exit | refine W_true rfl (by assumption) ?_ | refine W_false rfl (by assumption) ?_ | refine W_cond rfl (fun _ => ?_) (fun _ => ?_)))
  apply W_iter (S := oaS h h.length l es) (l := es) (a0 := 0) (fun rest a => ofEs l a rest = ofEs l 0 es) hl (by omega) rfl rfl
  · intro i e rest a hi hd hil hJ
    have hrow := exsC_get _ _ _ hi
    have ih := of_run k e l (by have := exsK_mem es i _ hi; omega) (exsB_mem es i _ hb hi) (rdEs_mem hr hi) h.length h
    have hlt := lt_exs hil
    obtain ⟨op', n', cp', es'⟩ := e
    (repeat' (first | apply W_seq | refine W_true rfl rfl ?_ | refine W_false rfl rfl ?_ | (refine W_ops (id := 3) ?_ <;> (refine T_go rfl ?_; first | refine G_true rfl rfl ?_ | refine G_false rfl rfl ?_ | refine G_true rfl (by with_reducible assumption) ?_ | refine G_false rfl (by with_reducible assumption) ?_ | refine G_true rfl (by assumption) ?_ | refine G_false rfl (by assumption) ?_ | refine G_split rfl (fun _ => ?_) (fun _ => ?_)) <;> apply T_nil) | (refine W_ops (id := 4) ?_ <;> (refine T_go rfl ?_; first | refine G_op (O_index rfl rfl rfl rfl rfl (by assumption)) ?_ | refine G_op (O_indexI rfl rfl rfl rfl rfl (by assumption)) ?_ | refine G_op (O_indexH rfl rfl rfl rfl rfl (by assumption) (by assumption) (by assumption)) ?_ | refine G_op rfl ?_) <;> (refine T_go rfl ?_; first | refine G_op rfl ?_ | refine G_op (O_loadS rfl rfl rfl rfl (by assumption) rfl rfl) ?_ | refine G_op (O_loadH rfl rfl rfl (by assumption) rfl rfl) ?_) <;> refine T_ch 2 rfl ?_ <;> apply T_nil) | (refine W_ops (id := 5) ?_ <;> refine T_ch 3 rfl ?_ <;> (refine T_go rfl ?_; refine G_op (O_call rfl rfl rfl rfl (by assumption)) ?_) <;> refine T_ch 2 rfl ?_ <;> apply T_nil) | refine W_region (id := 6) rfl ?_ | apply W_skip | apply W_block | apply W_ret | apply W_exit | refine W_true rfl (by assumption) ?_ | refine W_false rfl (by assumption) ?_ | refine W_cond rfl (fun _ => ?_) (fun _ => ?_)))
    exact ⟨_, rfl, by rw [← hJ]; rfl⟩
  · intro a hJ
    have hlt := ge_exs (l := es)
    (repeat' (first | apply W_seq | refine W_true rfl rfl ?_ | refine W_false rfl rfl ?_ | (refine W_ops (id := 3) ?_ <;> (refine T_go rfl ?_; first | refine G_true rfl rfl ?_ | refine G_false rfl rfl ?_ | refine G_true rfl (by with_reducible assumption) ?_ | refine G_false rfl (by with_reducible assumption) ?_ | refine G_true rfl (by assumption) ?_ | refine G_false rfl (by assumption) ?_ | refine G_split rfl (fun _ => ?_) (fun _ => ?_)) <;> apply T_nil) | refine W_region (id := 7) rfl ?_ | apply W_skip | apply W_block | apply W_ret | apply W_exit | refine W_true rfl (by assumption) ?_ | refine W_false rfl (by assumption) ?_ | refine W_cond rfl (fun _ => ?_) (fun _ => ?_)))
    exact ⟨.inl rfl, Eq.trans (b := some (AV.int .i64 a, _)) rfl (by rw [← hJ]; rfl)⟩
def aaS (h : Heap) (lo : Nat) (l : List Int) (s : Sm') (j : Int) (a : Int) : St :=
  { env := [(0, .v (.vs 1 (intsC l))), (3, .p 3 0), (5, .v (.int .i64 a)), (6, .v (.int .i64 j))], loc := [(3, smC s)], heap := h, inRound := false, lo := lo }
theorem argsR_run (op n : Int) (es : List Ex') (t e : List Sm') (l : List Int) (k : Nat) (hk : exsK es + 1 ≤ k) (hl : es.length < 9223372036854775808) (hb : exsB es) (hr : rdEs l.length es) (h : Heap) (lo : Nat) :
    call Try.prog cfg (k + 1) lo (.func 63) [.vs 1 (intsC l), .agg (smC (.mk op n es t e))] h = some (.int .i64 (ofEs l 0 es), h) := by
  have hlen := exsK_len es
  apply W_call Try.func63 rfl (Nat.le_of_ble_eq_true rfl) rfl
  (repeat' (first | apply W_seq | refine W_true rfl rfl ?_ | refine W_false rfl rfl ?_ | refine W_region (id := 0) rfl ?_ | refine W_region (id := 1) rfl ?_ | refine W_region (id := 2) rfl ?_ | apply W_skip | apply W_block | apply W_ret | apply W_exit | refine W_true rfl (by assumption) ?_ | refine W_false rfl (by assumption) ?_ | refine W_cond rfl (fun _ => ?_) (fun _ => ?_)))
  apply W_iter (S := aaS h h.length l (.mk op n es t e)) (l := es) (a0 := 0) (fun rest a => ofEs l a rest = ofEs l 0 es) hl (by omega) rfl rfl
  · intro i e' rest a hi hd hil hJ
    have hrow := exsC_get _ _ _ hi
    have ih := ofR_run k e' l (by have := exsK_mem1 es i _ hi; omega) (exsB_mem es i _ hb hi) (rdEs_mem hr hi) h.length h
    have hO := or_run (k - 1) h.length a (ofE l e') h
    rw [show k - 1 + 1 = k by omega] at hO
    have hlt := lt_exs hil
    obtain ⟨op', n', cp', es'⟩ := e'
    (repeat' (first | apply W_seq | refine W_true rfl rfl ?_ | refine W_false rfl rfl ?_ | (refine W_ops (id := 3) ?_ <;> refine T_ch 4 rfl ?_ <;> (refine T_go rfl ?_; first | refine G_true rfl rfl ?_ | refine G_false rfl rfl ?_ | refine G_true rfl (by with_reducible assumption) ?_ | refine G_false rfl (by with_reducible assumption) ?_ | refine G_true rfl (by assumption) ?_ | refine G_false rfl (by assumption) ?_ | refine G_split rfl (fun _ => ?_) (fun _ => ?_)) <;> apply T_nil) | refine W_region (id := 4) rfl ?_ | (refine W_ops (id := 5) ?_ <;> refine T_ch 5 rfl ?_ <;> (refine T_go rfl ?_; first | refine G_op (O_index rfl rfl rfl rfl rfl (by assumption)) ?_ | refine G_op (O_indexI rfl rfl rfl rfl rfl (by assumption)) ?_ | refine G_op (O_indexH rfl rfl rfl rfl rfl (by assumption) (by assumption) (by assumption)) ?_ | refine G_op rfl ?_) <;> (refine T_go rfl ?_; first | refine G_op rfl ?_ | refine G_op (O_loadS rfl rfl rfl rfl (by assumption) rfl rfl) ?_ | refine G_op (O_loadH rfl rfl rfl (by assumption) rfl rfl) ?_) <;> (refine T_go rfl ?_; refine G_op (O_call rfl rfl rfl rfl (by assumption)) ?_) <;> (refine T_go rfl ?_; refine G_op (O_call rfl rfl rfl rfl (by assumption)) ?_) <;> refine T_ch 1 rfl ?_ <;> apply T_nil) | apply W_skip | apply W_block | apply W_ret | apply W_exit | refine W_true rfl (by assumption) ?_ | refine W_false rfl (by assumption) ?_ | refine W_cond rfl (fun _ => ?_) (fun _ => ?_)))
    exact ⟨_, rfl, by rw [← hJ]; rfl⟩
  · intro a hJ
    have hlt := ge_exs (l := es)
    (repeat' (first | apply W_seq | refine W_true rfl rfl ?_ | refine W_false rfl rfl ?_ | (refine W_ops (id := 3) ?_ <;> refine T_ch 4 rfl ?_ <;> (refine T_go rfl ?_; first | refine G_true rfl rfl ?_ | refine G_false rfl rfl ?_ | refine G_true rfl (by with_reducible assumption) ?_ | refine G_false rfl (by with_reducible assumption) ?_ | refine G_true rfl (by assumption) ?_ | refine G_false rfl (by assumption) ?_ | refine G_split rfl (fun _ => ?_) (fun _ => ?_)) <;> apply T_nil) | refine W_region (id := 6) rfl ?_ | apply W_skip | apply W_block | apply W_ret | apply W_exit | refine W_true rfl (by assumption) ?_ | refine W_false rfl (by assumption) ?_ | refine W_cond rfl (fun _ => ?_) (fun _ => ?_)))
    exact ⟨.inl rfl, Eq.trans (b := some (AV.int .i64 a, _)) rfl (by rw [← hJ]; rfl)⟩

def withinB (a b : Int) : Bool := IntKind.i64.wrap ((BitVec.ofInt 64 a) &&& ~~~(BitVec.ofInt 64 b)).toNat == 0
theorem within_run (a b : Int) (k lo : Nat) (h : Heap) : call Try.prog cfg (k + 1) lo (.func 60) [.int .i64 a, .int .i64 b] h = some (.bool (withinB a b), h) := by
  cases hc : withinB a b
  all_goals
    unfold withinB at hc
    apply W_call Try.func60 rfl (Nat.le_of_ble_eq_true rfl) rfl
    (repeat' (first | apply W_seq | refine W_true rfl rfl ?_ | refine W_false rfl rfl ?_ | refine W_region (id := 0) rfl ?_ | (refine W_ops (id := 1) ?_ <;> refine T_ch 3 rfl ?_ <;> (refine T_go rfl ?_; first | refine G_true rfl rfl ?_ | refine G_false rfl rfl ?_ | refine G_true rfl (by with_reducible assumption) ?_ | refine G_false rfl (by with_reducible assumption) ?_ | refine G_true rfl (by assumption) ?_ | refine G_false rfl (by assumption) ?_ | refine G_split rfl (fun _ => ?_) (fun _ => ?_)) <;> refine T_ch 1 rfl ?_ <;> apply T_nil) | apply W_skip | apply W_block | apply W_ret | apply W_exit | refine W_true rfl (by assumption) ?_ | refine W_false rfl (by assumption) ?_ | refine W_cond rfl (fun _ => ?_) (fun _ => ?_)))
    all_goals exact ⟨.inl rfl, rfl⟩
theorem withinR_run (a b : Int) (k lo : Nat) (h : Heap) : call Try.prog cfg (k + 1) lo (.func 37) [.int .i64 a, .int .i64 b] h = some (.bool (withinB a b), h) := by
  cases hc : withinB a b
  all_goals
    unfold withinB at hc
    apply W_call Try.func37 rfl (Nat.le_of_ble_eq_true rfl) rfl
    (repeat' (first | apply W_seq | refine W_true rfl rfl ?_ | refine W_false rfl rfl ?_ | refine W_region (id := 0) rfl ?_ | (refine W_ops (id := 1) ?_ <;> refine T_ch 3 rfl ?_ <;> (refine T_go rfl ?_; first | refine G_true rfl rfl ?_ | refine G_false rfl rfl ?_ | refine G_true rfl (by with_reducible assumption) ?_ | refine G_false rfl (by with_reducible assumption) ?_ | refine G_true rfl (by assumption) ?_ | refine G_false rfl (by assumption) ?_ | refine G_split rfl (fun _ => ?_) (fun _ => ?_)) <;> refine T_ch 1 rfl ?_ <;> apply T_nil) | apply W_skip | apply W_block | apply W_ret | apply W_exit | refine W_true rfl (by assumption) ?_ | refine W_false rfl (by assumption) ?_ | refine W_cond rfl (fun _ => ?_) (fun _ => ?_)))
    all_goals exact ⟨.inl rfl, rfl⟩
def flowL (a f t : Int) : List (List AV) := if withinB f t = true then [] else [[.int .i64 a, .int .i64 f, .int .i64 t]]
theorem flow_run (a f t : Int) (k lo : Nat) (h : Heap) : call Try.prog cfg (k + 2) lo (.func 62) [.int .i64 a, .int .i64 f, .int .i64 t] h = some (accV 3 (flowL a f t), h) := by
  have hw := withinR_run f t k h.length h
  unfold flowL
  cases hc : withinB f t
  · rw [hc] at hw
    rw [if_neg (by simp)]
    apply W_call Try.func62 rfl (Nat.le_of_ble_eq_true rfl) rfl
    (repeat' (first | apply W_seq | refine W_true rfl rfl ?_ | refine W_false rfl rfl ?_ | refine W_region (id := 0) rfl ?_ | (refine W_ops (id := 1) ?_ <;> refine T_ch 2 rfl ?_ <;> (refine T_go rfl ?_; first | refine G_true (O_call rfl rfl rfl rfl (by assumption)) rfl ?_ | refine G_false (O_call rfl rfl rfl rfl (by assumption)) rfl ?_ | refine G_true (O_call rfl rfl rfl rfl (by assumption)) (by with_reducible assumption) ?_ | refine G_false (O_call rfl rfl rfl rfl (by assumption)) (by with_reducible assumption) ?_ | refine G_true (O_call rfl rfl rfl rfl (by assumption)) (by assumption) ?_ | refine G_false (O_call rfl rfl rfl rfl (by assumption)) (by assumption) ?_ | refine G_split (O_call rfl rfl rfl rfl (by assumption)) (fun _ => ?_) (fun _ => ?_)) <;> apply T_nil) | refine W_region (id := 2) rfl ?_ | refine W_region (id := 3) rfl ?_ | apply W_skip | apply W_block | apply W_ret | apply W_exit | refine W_true rfl (by assumption) ?_ | refine W_false rfl (by assumption) ?_ | refine W_cond rfl (fun _ => ?_) (fun _ => ?_)))
    all_goals exact ⟨.inl rfl, rfl⟩
  · rw [hc] at hw
    rw [if_pos rfl]
    apply W_call Try.func62 rfl (Nat.le_of_ble_eq_true rfl) rfl
    (repeat' (first | apply W_seq | refine W_true rfl rfl ?_ | refine W_false rfl rfl ?_ | refine W_region (id := 0) rfl ?_ | (refine W_ops (id := 1) ?_ <;> refine T_ch 2 rfl ?_ <;> (refine T_go rfl ?_; first | refine G_true (O_call rfl rfl rfl rfl (by assumption)) rfl ?_ | refine G_false (O_call rfl rfl rfl rfl (by assumption)) rfl ?_ | refine G_true (O_call rfl rfl rfl rfl (by assumption)) (by with_reducible assumption) ?_ | refine G_false (O_call rfl rfl rfl rfl (by assumption)) (by with_reducible assumption) ?_ | refine G_true (O_call rfl rfl rfl rfl (by assumption)) (by assumption) ?_ | refine G_false (O_call rfl rfl rfl rfl (by assumption)) (by assumption) ?_ | refine G_split (O_call rfl rfl rfl rfl (by assumption)) (fun _ => ?_) (fun _ => ?_)) <;> apply T_nil) | refine W_region (id := 2) rfl ?_ | refine W_region (id := 3) rfl ?_ | apply W_skip | apply W_block | apply W_ret | apply W_exit | refine W_true rfl (by assumption) ?_ | refine W_false rfl (by assumption) ?_ | refine W_cond rfl (fun _ => ?_) (fun _ => ?_)))
    all_goals exact ⟨.inl rfl, rfl⟩

mutual
def cnt1 : Sm' → Int → Int
  | .mk _ _ _ t e, n => IntKind.i64.wrap (IntKind.i64.wrap (IntKind.i64.wrap (n + 1) + cntL t 0) + cntL e 0)
def cntL : List Sm' → Int → Int
  | [], n => n
  | s :: l, n => cntL l (cnt1 s n)
end
def cnS (h : Heap) (lo : Nat) (l : List Sm') (i : Int) (n : Int) : St :=
  { env := [(0, .v (.vs 5 (smsC l))), (3, .v (.int .i64 n)), (4, .v (.int .i64 i))], loc := [], heap := h, inRound := false, lo := lo }
theorem count_run : ∀ (k : Nat) (l : List Sm'), smsK l ≤ k → l.length < 9223372036854775808 → smsB l → ∀ (h : Heap) (lo : Nat), call Try.prog cfg k lo (.func 92) [.vs 5 (smsC l)] h = some (.int .i64 (cntL l 0), h)
  | 0, l, hk, _, _, _, _ => by have := smsK_len l; omega
  | k + 1, l, hk, hlen, hb, h, lo => by
    have hll := smsK_len l
    apply W_call Try.func92 rfl (Nat.le_of_ble_eq_true rfl) rfl
    (repeat' (first | apply W_seq | refine W_true rfl rfl ?_ | refine W_false rfl rfl ?_ | refine W_region (id := 0) rfl ?_ | refine W_region (id := 1) rfl ?_ | refine W_region (id := 2) rfl ?_ | apply W_skip | apply W_block | apply W_ret | apply W_exit | refine W_true rfl (by assumption) ?_ | refine W_false rfl (by assumption) ?_ | refine W_cond rfl (fun _ => ?_) (fun _ => ?_)))
    apply W_iter (S := cnS h h.length l) (l := l) (a0 := 0) (fun rest a => cntL rest a = cntL l 0) hlen (by omega) rfl rfl
    · intro i st rest a hi hd hil hJ
      have hlt := lt_sms hil
      have hrow := smsC_get _ _ _ hi
      have hmem := smsK_mem l i _ hi
      have hbm := smsB_mem l i _ hb hi
      obtain ⟨op, nn, ar, t, e⟩ := st
      rw [smK] at hmem
      rw [smB] at hbm
      obtain ⟨⟨ha1, ha2⟩, ⟨ht1, ht2⟩, he1, he2⟩ := hbm
      have hla := exsK_len ar
      rw [cntL, cnt1] at hJ
      have iht := count_run k t (by omega) ht1 ht2 h h.length
      have ihe := count_run k e (by omega) he1 he2 h h.length
      (repeat' (first | apply W_seq | refine W_true rfl rfl ?_ | refine W_false rfl rfl ?_ | (refine W_ops (id := 3) ?_ <;> refine T_ch 3 rfl ?_ <;> (refine T_go rfl ?_; first | refine G_true rfl rfl ?_ | refine G_false rfl rfl ?_ | refine G_true rfl (by with_reducible assumption) ?_ | refine G_false rfl (by with_reducible assumption) ?_ | refine G_true rfl (by assumption) ?_ | refine G_false rfl (by assumption) ?_ | refine G_split rfl (fun _ => ?_) (fun _ => ?_)) <;> apply T_nil) | refine W_region (id := 4) rfl ?_ | (refine W_dops (id := 5) (bs := [0, 1, 0, 0, 12, 28, 60, 124, 255, 0, 0, 1536, 3584, 7680, 16124, 32767, 65535]) (by decide +kernel) ?_ <;> (refine U_go rfl ?_; refine H_free (by decide +kernel) rfl rfl rfl rfl rfl ?_) <;> (refine U_go rfl ?_; refine H_free (by decide +kernel) rfl rfl rfl rfl rfl ?_) <;> (refine U_go rfl ?_; refine H_free (by decide +kernel) rfl rfl rfl rfl rfl ?_) <;> (refine U_go rfl ?_; refine H_free (by decide +kernel) rfl rfl rfl rfl rfl ?_) <;> (refine U_go rfl ?_; first | refine H_free (by decide +kernel) rfl (O_index rfl rfl rfl rfl rfl (by assumption)) rfl rfl rfl ?_ | refine H_free (by decide +kernel) rfl (O_indexI rfl rfl rfl rfl rfl (by assumption)) rfl rfl rfl ?_ | refine H_free (by decide +kernel) rfl (O_indexH rfl rfl rfl rfl rfl (by assumption) (by assumption) (by assumption)) rfl rfl rfl ?_ | refine H_free (by decide +kernel) rfl rfl rfl rfl rfl ?_) <;> (refine U_go rfl ?_; refine H_free (by decide +kernel) rfl rfl rfl rfl rfl ?_) <;> (refine U_go rfl ?_; first | refine H_free (by decide +kernel) rfl rfl rfl rfl rfl ?_ | refine H_free (by decide +kernel) rfl (O_loadS rfl rfl rfl rfl (by assumption) rfl rfl) rfl rfl rfl ?_ | refine H_free (by decide +kernel) rfl (O_loadH rfl rfl rfl (by assumption) rfl rfl) rfl rfl rfl ?_) <;> (refine U_go rfl ?_; refine H_free (by decide +kernel) rfl (O_call rfl rfl rfl rfl (by assumption)) rfl rfl rfl ?_) <;> (refine U_go rfl ?_; refine H_free (by decide +kernel) rfl rfl rfl rfl rfl ?_) <;> (refine U_go rfl ?_; refine H_free (by decide +kernel) rfl rfl rfl rfl rfl ?_) <;> (refine U_go rfl ?_; refine H_free (by decide +kernel) rfl rfl rfl rfl rfl ?_) <;> (refine U_go rfl ?_; first | refine H_free (by decide +kernel) rfl (O_index rfl rfl rfl rfl rfl (by assumption)) rfl rfl rfl ?_ | refine H_free (by decide +kernel) rfl (O_indexI rfl rfl rfl rfl rfl (by assumption)) rfl rfl rfl ?_ | refine H_free (by decide +kernel) rfl (O_indexH rfl rfl rfl rfl rfl (by assumption) (by assumption) (by assumption)) rfl rfl rfl ?_ | refine H_free (by decide +kernel) rfl rfl rfl rfl rfl ?_) <;> (refine U_go rfl ?_; refine H_free (by decide +kernel) rfl rfl rfl rfl rfl ?_) <;> (refine U_go rfl ?_; first | refine H_free (by decide +kernel) rfl rfl rfl rfl rfl ?_ | refine H_free (by decide +kernel) rfl (O_loadS rfl rfl rfl rfl (by assumption) rfl rfl) rfl rfl rfl ?_ | refine H_free (by decide +kernel) rfl (O_loadH rfl rfl rfl (by assumption) rfl rfl) rfl rfl rfl ?_) <;> (refine U_go rfl ?_; refine H_free (by decide +kernel) rfl (O_call rfl rfl rfl rfl (by assumption)) rfl rfl rfl ?_) <;> (refine U_go rfl ?_; refine H_op (by decide +kernel) rfl ?_) <;> (refine U_go rfl ?_; refine H_op (by decide +kernel) rfl ?_) <;> apply U_nil) | apply W_skip | apply W_block | apply W_ret | apply W_exit | refine W_true rfl (by assumption) ?_ | refine W_false rfl (by assumption) ?_ | refine W_cond rfl (fun _ => ?_) (fun _ => ?_)))
      exact ⟨_, rfl, hJ⟩
    · intro a hJ
      have hlt := ge_sms (l := l)
      (repeat' (first | apply W_seq | refine W_true rfl rfl ?_ | refine W_false rfl rfl ?_ | (refine W_ops (id := 3) ?_ <;> refine T_ch 3 rfl ?_ <;> (refine T_go rfl ?_; first | refine G_true rfl rfl ?_ | refine G_false rfl rfl ?_ | refine G_true rfl (by with_reducible assumption) ?_ | refine G_false rfl (by with_reducible assumption) ?_ | refine G_true rfl (by assumption) ?_ | refine G_false rfl (by assumption) ?_ | refine G_split rfl (fun _ => ?_) (fun _ => ?_)) <;> apply T_nil) | refine W_region (id := 6) rfl ?_ | apply W_skip | apply W_block | apply W_ret | apply W_exit | refine W_true rfl (by assumption) ?_ | refine W_false rfl (by assumption) ?_ | refine W_cond rfl (fun _ => ?_) (fun _ => ?_)))
      exact ⟨.inl rfl, Eq.trans (b := some (AV.int .i64 a, _)) rfl (by rw [← hJ]; rfl)⟩

def itC (x : Int × Sm') : List AV := .int .i64 x.1 :: smC x.2
def itemsL : List Sm' → Int → List (Int × Sm')
  | [], _ => []
  | s :: l, n => (n, s) :: itemsL l (cnt1 s n)
theorem itemsL_len : ∀ (l : List Sm') (n : Int), (itemsL l n).length = l.length
  | [], _ => rfl
  | s :: l, n => by simp [itemsL, itemsL_len l]
theorem itC_row (its : List (Int × Sm')) : ∀ r, r ∈ its.map itC → r.length = 6 ∧ ∀ x, x ∈ r → static x = true := by
  intro r hr
  obtain ⟨⟨n, s⟩, _, rfl⟩ := List.mem_map.1 hr
  obtain ⟨op, nn, a, t, e⟩ := s
  refine ⟨rfl, fun x hx => ?_⟩
  simp only [itC, smC, List.mem_cons, List.not_mem_nil, or_false] at hx
  rcases hx with rfl | rfl | rfl | rfl | rfl | rfl <;> rfl
theorem it_append (h : Heap) (its : List (Int × Sm')) (x : Int × Sm') (hl : its.length < 100000) : append cfg.tab h.length (accH h 105 (its.map itC)) 96 (accA h 6 (its.map itC)) (.vs 6 [itC x]) = some (accA h 6 ((its ++ [x]).map itC), accH h 105 ((its ++ [x]).map itC)) := by
  have := acc_append (tab := cfg.tab) (lo := h.length) (h := h) (t := 96) (e := 105) rfl rfl (by decide) (Nat.le_refl _) (its.map itC) [itC x] (fun r hr => (itC_row its r hr).1) (by rw [List.length_map]; simp only [List.length_cons, List.length_nil, room]; show (its.length + (0 + 1)) * 96 ≤ _; omega) (by rw [List.length_map]; simp [room]; omega)
  rw [this]
  simp
def imS (h : Heap) (l : List Sm') (i : Int) (a : List (Int × Sm') × Int) : St :=
  { env := [(0, .v (.vs 5 (smsC l))), (1, .v (.int .i64 a.2)), (5, .v (accA h 6 (a.1.map itC))), (6, .v (.int .i64 i))], loc := [], heap := accH h 105 (a.1.map itC), inRound := false, lo := h.length }
theorem items_run (l : List Sm') (n : Int) (k : Nat) (hk : smsK l ≤ k) (hl : l.length < 1000) (hb : smsB l) (h : Heap) (lo : Nat) : call Try.prog cfg (k + 1) lo (.func 56) [.vs 5 (smsC l), .int .i64 n] h = some (accV 6 ((itemsL l n).map itC), h) := by
  have hll := smsK_len l
  have hfin := acc_frz (h := h) (e := 105) (sz := 6) ((itemsL l n).map itC) (itC_row _)
  apply W_call Try.func56 rfl (Nat.le_of_ble_eq_true rfl) rfl
  (repeat' (first | apply W_seq | refine W_true rfl rfl ?_ | refine W_false rfl rfl ?_ | refine W_region (id := 0) rfl ?_ | refine W_region (id := 1) rfl ?_ | refine W_region (id := 2) rfl ?_ | apply W_skip | apply W_block | apply W_ret | apply W_exit | refine W_true rfl (by assumption) ?_ | refine W_false rfl (by assumption) ?_ | refine W_cond rfl (fun _ => ?_) (fun _ => ?_)))
  apply W_iterI (S := imS h l) (l := l) (a0 := ([], n)) (fun i rest a => a.1 ++ itemsL rest a.2 = itemsL l n ∧ a.1.length = i) (by omega) (by omega) rfl ⟨rfl, rfl⟩
  · intro i st rest a hi hd hil hJ
    obtain ⟨its, m⟩ := a
    have hlt := lt_sms hil
    have hrow := smsC_get _ _ _ hi
    have hmem := smsK_mem l i _ hi
    have hbm := smsB_mem l i _ hb hi
    have hap := it_append h its (m, st) (by have := hJ.2; dsimp only at this; omega)
    obtain ⟨hJ, hJl⟩ := hJ
    rw [itemsL] at hJ
    obtain ⟨op, nn, ar, t, e⟩ := st
    rw [smK] at hmem
    rw [smB] at hbm
    obtain ⟨⟨ha1, ha2⟩, ⟨ht1, ht2⟩, he1, he2⟩ := hbm
    have hla := exsK_len ar
    rw [cnt1] at hJ
    dsimp only at hJ hJl
    have iht := count_run k t (by omega) ht1 ht2 (accH h 105 ((its ++ [(m, Sm'.mk op nn ar t e)]).map itC)) (accH h 105 ((its ++ [(m, Sm'.mk op nn ar t e)]).map itC)).length
    have ihe := count_run k e (by omega) he1 he2 (accH h 105 ((its ++ [(m, Sm'.mk op nn ar t e)]).map itC)) (accH h 105 ((its ++ [(m, Sm'.mk op nn ar t e)]).map itC)).length
    (repeat' (first | apply W_seq | refine W_true rfl rfl ?_ | refine W_false rfl rfl ?_ | (refine W_ops (id := 3) ?_ <;> refine T_ch 3 rfl ?_ <;> (refine T_go rfl ?_; first | refine G_true rfl rfl ?_ | refine G_false rfl rfl ?_ | refine G_true rfl (by with_reducible assumption) ?_ | refine G_false rfl (by with_reducible assumption) ?_ | refine G_true rfl (by assumption) ?_ | refine G_false rfl (by assumption) ?_ | refine G_split rfl (fun _ => ?_) (fun _ => ?_)) <;> apply T_nil) | refine W_region (id := 4) rfl ?_ | (refine W_ops (id := 5) ?_ <;> refine T_ch 4 rfl ?_ <;> (refine T_go rfl ?_; first | refine G_op (O_index rfl rfl rfl rfl rfl (by assumption)) ?_ | refine G_op (O_indexI rfl rfl rfl rfl rfl (by assumption)) ?_ | refine G_op (O_indexH rfl rfl rfl rfl rfl (by assumption) (by assumption) (by assumption)) ?_ | refine G_op rfl ?_) <;> (refine T_go rfl ?_; first | refine G_op rfl ?_ | refine G_op (O_loadS rfl rfl rfl rfl (by assumption) rfl rfl) ?_ | refine G_op (O_loadH rfl rfl rfl (by assumption) rfl rfl) ?_) <;> refine T_ch 2 rfl ?_ <;> (refine T_go rfl ?_; first | refine G_op (O_append rfl rfl rfl rfl rfl (by assumption)) ?_ | refine G_op rfl ?_) <;> refine T_ch 1 rfl ?_ <;> apply T_nil) | (refine W_dops (id := 6) (bs := [0, 1, 0, 0, 12, 28, 60, 124, 255, 0, 0, 1536, 3584, 7680, 16124, 32767, 65535]) (by decide +kernel) ?_ <;> (refine U_go rfl ?_; refine H_free (by decide +kernel) rfl rfl rfl rfl rfl ?_) <;> (refine U_go rfl ?_; refine H_free (by decide +kernel) rfl rfl rfl rfl rfl ?_) <;> (refine U_go rfl ?_; refine H_free (by decide +kernel) rfl rfl rfl rfl rfl ?_) <;> (refine U_go rfl ?_; refine H_free (by decide +kernel) rfl rfl rfl rfl rfl ?_) <;> (refine U_go rfl ?_; first | refine H_free (by decide +kernel) rfl (O_index rfl rfl rfl rfl rfl (by assumption)) rfl rfl rfl ?_ | refine H_free (by decide +kernel) rfl (O_indexI rfl rfl rfl rfl rfl (by assumption)) rfl rfl rfl ?_ | refine H_free (by decide +kernel) rfl (O_indexH rfl rfl rfl rfl rfl (by assumption) (by assumption) (by assumption)) rfl rfl rfl ?_ | refine H_free (by decide +kernel) rfl rfl rfl rfl rfl ?_) <;> (refine U_go rfl ?_; refine H_free (by decide +kernel) rfl rfl rfl rfl rfl ?_) <;> (refine U_go rfl ?_; first | refine H_free (by decide +kernel) rfl rfl rfl rfl rfl ?_ | refine H_free (by decide +kernel) rfl (O_loadS rfl rfl rfl rfl (by assumption) rfl rfl) rfl rfl rfl ?_ | refine H_free (by decide +kernel) rfl (O_loadH rfl rfl rfl (by assumption) rfl rfl) rfl rfl rfl ?_) <;> (refine U_go rfl ?_; refine H_free (by decide +kernel) rfl (O_call rfl rfl rfl rfl (by assumption)) rfl rfl rfl ?_) <;> (refine U_go rfl ?_; refine H_free (by decide +kernel) rfl rfl rfl rfl rfl ?_) <;> (refine U_go rfl ?_; refine H_free (by decide +kernel) rfl rfl rfl rfl rfl ?_) <;> (refine U_go rfl ?_; refine H_free (by decide +kernel) rfl rfl rfl rfl rfl ?_) <;> (refine U_go rfl ?_; first | refine H_free (by decide +kernel) rfl (O_index rfl rfl rfl rfl rfl (by assumption)) rfl rfl rfl ?_ | refine H_free (by decide +kernel) rfl (O_indexI rfl rfl rfl rfl rfl (by assumption)) rfl rfl rfl ?_ | refine H_free (by decide +kernel) rfl (O_indexH rfl rfl rfl rfl rfl (by assumption) (by assumption) (by assumption)) rfl rfl rfl ?_ | refine H_free (by decide +kernel) rfl rfl rfl rfl rfl ?_) <;> (refine U_go rfl ?_; refine H_free (by decide +kernel) rfl rfl rfl rfl rfl ?_) <;> (refine U_go rfl ?_; first | refine H_free (by decide +kernel) rfl rfl rfl rfl rfl ?_ | refine H_free (by decide +kernel) rfl (O_loadS rfl rfl rfl rfl (by assumption) rfl rfl) rfl rfl rfl ?_ | refine H_free (by decide +kernel) rfl (O_loadH rfl rfl rfl (by assumption) rfl rfl) rfl rfl rfl ?_) <;> (refine U_go rfl ?_; refine H_free (by decide +kernel) rfl (O_call rfl rfl rfl rfl (by assumption)) rfl rfl rfl ?_) <;> (refine U_go rfl ?_; refine H_op (by decide +kernel) rfl ?_) <;> (refine U_go rfl ?_; refine H_op (by decide +kernel) rfl ?_) <;> apply U_nil) | apply W_skip | apply W_block | apply W_ret | apply W_exit | refine W_true rfl (by assumption) ?_ | refine W_false rfl (by assumption) ?_ | refine W_cond rfl (fun _ => ?_) (fun _ => ?_)))
    exact ⟨(its ++ [(m, .mk op nn ar t e)], IntKind.i64.wrap (IntKind.i64.wrap (IntKind.i64.wrap (m + 1) + cntL t 0) + cntL e 0)), rfl, by rw [← hJ]; simp, by simp [hJl]⟩
  · intro a hJ
    have hlt := ge_sms (l := l)
    obtain ⟨its, m⟩ := a
    (repeat' (first | apply W_seq | refine W_true rfl rfl ?_ | refine W_false rfl rfl ?_ | (refine W_ops (id := 3) ?_ <;> refine T_ch 3 rfl ?_ <;> (refine T_go rfl ?_; first | refine G_true rfl rfl ?_ | refine G_false rfl rfl ?_ | refine G_true rfl (by with_reducible assumption) ?_ | refine G_false rfl (by with_reducible assumption) ?_ | refine G_true rfl (by assumption) ?_ | refine G_false rfl (by assumption) ?_ | refine G_split rfl (fun _ => ?_) (fun _ => ?_)) <;> apply T_nil) | refine W_region (id := 7) rfl ?_ | apply W_skip | apply W_block | apply W_ret | apply W_exit | refine W_true rfl (by assumption) ?_ | refine W_false rfl (by assumption) ?_ | refine W_cond rfl (fun _ => ?_) (fun _ => ?_)))
    have : its = itemsL l n := by simpa [itemsL] using hJ.1
    subst this
    exact ⟨.inl rfl, hfin⟩
theorem then_run (n op nn : Int) (a : List Ex') (t e : List Sm') (k : Nat) (hk : smsK t + 1 ≤ k) (hl : t.length < 1000) (hb : smsB t) (h : Heap) (lo : Nat) :
    call Try.prog cfg (k + 1) lo (.func 90) [.agg (itC (n, .mk op nn a t e))] h = some (accV 6 ((itemsL t (IntKind.i64.wrap (n + 1))).map itC), h) := by
  have hi := items_run t (IntKind.i64.wrap (n + 1)) (k - 1) (by omega) hl hb h h.length
  rw [show k - 1 + 1 = k by omega] at hi
  generalize itemsL t (IntKind.i64.wrap (n + 1)) = its at hi
  cases its <;>
  · apply W_call Try.func90 rfl (Nat.le_of_ble_eq_true rfl) rfl
    (repeat' (first | apply W_seq | refine W_true rfl rfl ?_ | refine W_false rfl rfl ?_ | refine W_region (id := 0) rfl ?_ | (refine W_ops (id := 1) ?_ <;> refine T_ch 6 rfl ?_ <;> (refine T_go rfl ?_; refine G_op (O_call rfl rfl rfl rfl (by assumption)) ?_) <;> refine T_ch 1 rfl ?_ <;> apply T_nil) | apply W_skip | apply W_block | apply W_ret | apply W_exit | refine W_true rfl (by assumption) ?_ | refine W_false rfl (by assumption) ?_ | refine W_cond rfl (fun _ => ?_) (fun _ => ?_)))
    exact ⟨.inl rfl, rfl⟩
theorem else_run (n op nn : Int) (a : List Ex') (t e : List Sm') (k : Nat) (hk : smsK t + smsK e + 1 ≤ k) (ht : t.length < 1000) (htb : smsB t) (hl : e.length < 1000) (hb : smsB e) (h : Heap) (lo : Nat) :
    call Try.prog cfg (k + 1) lo (.func 91) [.agg (itC (n, .mk op nn a t e))] h = some (accV 6 ((itemsL e (IntKind.i64.wrap (IntKind.i64.wrap (n + 1) + cntL t 0))).map itC), h) := by
  have hc := count_run k t (by omega) (by omega) htb h h.length
  have hi := items_run e (IntKind.i64.wrap (IntKind.i64.wrap (n + 1) + cntL t 0)) (k - 1) (by omega) hl hb h h.length
  rw [show k - 1 + 1 = k by omega] at hi
  generalize itemsL e (IntKind.i64.wrap (IntKind.i64.wrap (n + 1) + cntL t 0)) = its at hi
  cases its <;>
  · apply W_call Try.func91 rfl (Nat.le_of_ble_eq_true rfl) rfl
    (repeat' (first | apply W_seq | refine W_true rfl rfl ?_ | refine W_false rfl rfl ?_ | refine W_region (id := 0) rfl ?_ | (refine W_dops (id := 1) (bs := [0, 1, 3, 0, 8, 24, 0, 64, 192, 448, 1016, 2047, 4095]) (by decide +kernel) ?_ <;> (refine U_go rfl ?_; refine H_free (by decide +kernel) rfl rfl rfl rfl rfl ?_) <;> (refine U_go rfl ?_; refine H_free (by decide +kernel) rfl rfl rfl rfl rfl ?_) <;> (refine U_go rfl ?_; refine H_free (by decide +kernel) rfl rfl rfl rfl rfl ?_) <;> (refine U_go rfl ?_; refine H_free (by decide +kernel) rfl rfl rfl rfl rfl ?_) <;> (refine U_go rfl ?_; refine H_free (by decide +kernel) rfl rfl rfl rfl rfl ?_) <;> (refine U_go rfl ?_; refine H_free (by decide +kernel) rfl rfl rfl rfl rfl ?_) <;> (refine U_go rfl ?_; refine H_free (by decide +kernel) rfl rfl rfl rfl rfl ?_) <;> (refine U_go rfl ?_; refine H_free (by decide +kernel) rfl rfl rfl rfl rfl ?_) <;> (refine U_go rfl ?_; refine H_free (by decide +kernel) rfl rfl rfl rfl rfl ?_) <;> (refine U_go rfl ?_; refine H_free (by decide +kernel) rfl (O_call rfl rfl rfl rfl (by assumption)) rfl rfl rfl ?_) <;> (refine U_go rfl ?_; refine H_free (by decide +kernel) rfl rfl rfl rfl rfl ?_) <;> (refine U_go rfl ?_; refine H_op (by decide +kernel) (O_call rfl rfl rfl rfl (by assumption)) ?_) <;> (refine U_go rfl ?_; refine H_op (by decide +kernel) rfl ?_) <;> apply U_nil) | apply W_skip | apply W_block | apply W_ret | apply W_exit | refine W_true rfl (by assumption) ?_ | refine W_false rfl (by assumption) ?_ | refine W_cond rfl (fun _ => ?_) (fun _ => ?_)))
    exact ⟨.inl rfl, rfl⟩
end Go.Proofs.Ytelobnllkhnpaaa.L
/- Flows by fixed types, in the reference. -/
open Go Go.Proofs Go.Ev Go.Proofs.Ytelobnllkhnpaaa.E
namespace Go.Proofs.Ytelobnllkhnpaaa.L
set_option linter.unusedVariables false
set_option linter.unusedSimpArgs false
set_option maxRecDepth 100000

theorem acc_appendV {tab : Tab} {lo : Nat} {h : Heap} {t e : Nat} {ti : TI} {sz0 by_ : Nat} {zr : List AV} (ht : Go.Ev.look tab t = some ⟨.slice e, sz0, by_, zr⟩) (he : Go.Ev.look tab e = some ti) (hsz : 0 < ti.sz) (hlo : lo ≤ h.length) (rows more : List (List AV))
    (hr : ∀ r, r ∈ rows → r.length = ti.sz) (hroom : (rows.length + more.length) * ti.bytes ≤ room) (hroom2 : rows.length + more.length ≤ room) :
    append tab lo (accH h e rows) t (accA h ti.sz rows) (accV ti.sz more) = some (accA h ti.sz (rows ++ more), accH h e (rows ++ more)) := by
  cases more with
  | cons m ms => exact acc_append ht he hsz hlo rows (m :: ms) hr hroom hroom2
  | nil =>
    have := acc_append ht he hsz hlo rows [] hr hroom hroom2
    rw [← this]
    unfold append
    rw [ht]
    dsimp only
    rw [he]
    simp [accV, rowOf, lenOf]
mutual
def rdS1 (m : Nat) : Sm' → Prop
  | .mk op n a t e => rdEs m a ∧ ((op = 0 ∨ op = 4) → 0 ≤ n ∧ n < m) ∧ rdSs m t ∧ rdSs m e
def rdSs (m : Nat) : List Sm' → Prop
  | [] => True
  | s :: l => rdS1 m s ∧ rdSs m l
end
theorem rdSs_mem {m : Nat} : ∀ {l : List Sm'} {i : Nat} {e : Sm'}, rdSs m l → l[i]? = some e → rdS1 m e
  | [], i, e, _, h => by simp at h
  | a :: l, 0, e, hb, h => by simp at h; subst h; exact hb.1
  | a :: l, i + 1, e, hb, h => by simp at h; exact rdSs_mem hb.2 h
mutual
def fixR1 (lv : List Int) : Sm' → Int → Int → List (List AV)
  | .mk op nn a t e, ar, n =>
    (if op = 0 then flowL n (orI ar (ofEs lv 0 a)) (lv.getD nn.toNat 0) else if op = 4 then flowL n (orI (orI ar (ofEs lv 0 a)) 16) (lv.getD nn.toNat 0) else if op = 3 then flowL n (orI ar (ofEs lv 0 a)) nn else []) ++
      (fixRL lv t (orI ar (ofEs lv 0 a)) (IntKind.i64.wrap (n + 1)) ++ fixRL lv e (orI ar (ofEs lv 0 a)) (IntKind.i64.wrap (IntKind.i64.wrap (n + 1) + cntL t 0)))
def fixRL (lv : List Int) : List Sm' → Int → Int → List (List AV)
  | [], _, _ => []
  | s :: l, ar, n => fixR1 lv s ar n ++ fixRL lv l ar (cnt1 s n)
end
theorem flowL_row (a f t : Int) : ∀ r, r ∈ flowL a f t → r.length = 3 ∧ ∀ x, x ∈ r → static x = true := by
  intro r hr
  unfold flowL at hr
  split at hr
  · cases hr
  · simp at hr; subst hr
    refine ⟨rfl, fun x hx => ?_⟩
    simp only [List.mem_cons, List.not_mem_nil, or_false] at hx
    rcases hx with rfl | rfl | rfl <;> rfl
theorem flowL_len (a f t : Int) : (flowL a f t).length ≤ 1 := by unfold flowL; split <;> simp
mutual
theorem fixR1_row (lv : List Int) : ∀ (s : Sm') (ar n : Int) (r : List AV), r ∈ fixR1 lv s ar n → r.length = 3 ∧ ∀ x, x ∈ r → static x = true
  | .mk op nn a t e, ar, n, r, h => by
    rw [fixR1] at h
    rcases List.mem_append.1 h with h | h
    · split at h
      · exact flowL_row _ _ _ r h
      · split at h
        · exact flowL_row _ _ _ r h
        · split at h
          · exact flowL_row _ _ _ r h
          · cases h
    · rcases List.mem_append.1 h with h | h
      · exact fixRL_row lv t _ _ r h
      · exact fixRL_row lv e _ _ r h
theorem fixRL_row (lv : List Int) : ∀ (l : List Sm') (ar n : Int) (r : List AV), r ∈ fixRL lv l ar n → r.length = 3 ∧ ∀ x, x ∈ r → static x = true
  | [], ar, n, r, h => by rw [fixRL] at h; cases h
  | s :: l, ar, n, r, h => by
    rw [fixRL] at h
    rcases List.mem_append.1 h with h | h
    · exact fixR1_row lv s ar n r h
    · exact fixRL_row lv l ar _ r h
end
mutual
theorem fixR1_len (lv : List Int) : ∀ (s : Sm') (ar n : Int), (fixR1 lv s ar n).length ≤ smN s
  | .mk op nn a t e, ar, n => by
    have h1 := fixRL_len lv t (orI ar (ofEs lv 0 a)) (IntKind.i64.wrap (n + 1))
    have h2 := fixRL_len lv e (orI ar (ofEs lv 0 a)) (IntKind.i64.wrap (IntKind.i64.wrap (n + 1) + cntL t 0))
    rw [fixR1, smN, List.length_append, List.length_append]
    have h3 : (if op = 0 then flowL n (orI ar (ofEs lv 0 a)) (lv.getD nn.toNat 0) else if op = 4 then flowL n (orI (orI ar (ofEs lv 0 a)) 16) (lv.getD nn.toNat 0) else if op = 3 then flowL n (orI ar (ofEs lv 0 a)) nn else []).length ≤ 1 := by
      split
      · exact flowL_len _ _ _
      · split
        · exact flowL_len _ _ _
        · split
          · exact flowL_len _ _ _
          · simp
    omega
theorem fixRL_len (lv : List Int) : ∀ (l : List Sm') (ar n : Int), (fixRL lv l ar n).length ≤ smsN l
  | [], ar, n => by rw [fixRL, smsN]; simp
  | s :: l, ar, n => by
    have h1 := fixR1_len lv s ar n
    have h2 := fixRL_len lv l ar (cnt1 s n)
    rw [fixRL, smsN, List.length_append]; omega
end
theorem smsN_len : ∀ l : List Sm', l.length ≤ smsN l
  | [] => by simp
  | s :: l => by have := smsN_len l; have := smN_pos s; rw [smsN, List.length_cons]; omega
theorem smsN_mem : ∀ (l : List Sm') (i : Nat) (e : Sm'), l[i]? = some e → smN e ≤ smsN l
  | [], i, e, h => by simp at h
  | a :: l, 0, e, h => by simp at h; subst h; rw [smsN]; omega
  | a :: l, i + 1, e, h => by
    simp at h
    have := smsN_mem l i e h
    rw [smsN]; omega
theorem fl_append (h : Heap) (rows more : List (List AV)) (hr : ∀ r, r ∈ rows → r.length = 3) (hl : rows.length + more.length < 100000) : append cfg.tab h.length (accH h 89 rows) 45 (accA h 3 rows) (accV 3 more) = some (accA h 3 (rows ++ more), accH h 89 (rows ++ more)) :=
  acc_appendV (tab := cfg.tab) (lo := h.length) (h := h) (t := 45) (e := 89) rfl rfl (by decide) (Nat.le_refl _) rows more hr (by simp only [room]; show (rows.length + more.length) * 24 ≤ _; omega) (by simp only [room]; omega)

def fxS (h : Heap) (lv : List Int) (ar : Int) (v : AV) (i : Int) (a : List (List AV) × Int) : St :=
  { env := [(0, .v (.vs 1 (intsC lv))), (1, .v (.int .i64 ar)), (2, .v v), (7, .v (accA h 3 a.1)), (8, .v (.int .i64 i))], loc := [], heap := accH h 89 a.1, inRound := false, lo := h.length }
theorem lt_its {l : List Sm'} {n : Int} {i : Nat} (h : i < l.length) : decide ((i : Int) < (((itemsL l n).map itC).length : Int)) = true := decide_eq_true (by rw [List.length_map, itemsL_len]; omega)
theorem ge_its {l : List Sm'} {n : Int} : decide ((l.length : Int) < (((itemsL l n).map itC).length : Int)) = false := decide_eq_false (by rw [List.length_map, itemsL_len]; omega)

set_option maxHeartbeats 2000000 in
theorem fixedR_run (lv : List Int) : ∀ (k : Nat) (l : List Sm'), smsK l + 20 ≤ k → smsN l ≤ 600 → smsB l → rdSs lv.length l → ∀ (ar n : Int) (h : Heap) (lo : Nat),
    call Try.prog cfg k lo (.func 55) [.vs 1 (intsC lv), .int .i64 ar, accV 6 ((itemsL l n).map itC)] h = some (accV 3 (fixRL lv l ar n), h)
  | 0, l, hk, _, _, _, _, _, _, _ => by omega
  | k + 1, [], hk, hN, hb, hr, ar, n, h, lo => by
    apply W_call Try.func55 rfl (Nat.le_of_ble_eq_true rfl) rfl
    (repeat' (first | apply W_seq | refine W_true rfl rfl ?_ | refine W_false rfl rfl ?_ | refine W_region (id := 0) rfl ?_ | refine W_region (id := 1) rfl ?_ | refine W_region (id := 2) rfl ?_ | apply W_skip | apply W_block | apply W_ret | apply W_exit | refine W_true rfl (by assumption) ?_ | refine W_false rfl (by assumption) ?_ | refine W_cond rfl (fun _ => ?_) (fun _ => ?_)))
    apply W_iter (S := fxS h lv ar .nils) (l := ([] : List Sm')) (a0 := ([], 0)) (fun _ a => a = ([], 0)) (by simp) (by simp; omega) rfl rfl
    · intro i st rest a hi; simp at hi
    · intro a hJ
      subst hJ
      (repeat' (first | apply W_seq | refine W_true rfl rfl ?_ | refine W_false rfl rfl ?_ | (refine W_ops (id := 3) ?_ <;> refine T_ch 3 rfl ?_ <;> (refine T_go rfl ?_; first | refine G_true rfl rfl ?_ | refine G_false rfl rfl ?_ | refine G_true rfl (by with_reducible assumption) ?_ | refine G_false rfl (by with_reducible assumption) ?_ | refine G_true rfl (by assumption) ?_ | refine G_false rfl (by assumption) ?_ | refine G_split rfl (fun _ => ?_) (fun _ => ?_)) <;> apply T_nil) | refine W_region (id := 16) rfl ?_ | apply W_skip | apply W_block | apply W_ret | apply W_exit | refine W_true rfl (by assumption) ?_ | refine W_false rfl (by assumption) ?_ | refine W_cond rfl (fun _ => ?_) (fun _ => ?_)))
      exact ⟨.inl rfl, rfl⟩
  | k + 1, s0 :: l0, hk, hN, hb, hr, ar, n, h, lo => by
    have hll := smsK_len (s0 :: l0)
    have hln := smsN_len (s0 :: l0)
    have hfin := acc_frz (h := h) (e := 89) (sz := 3) (fixRL lv (s0 :: l0) ar n) (fixRL_row lv _ ar n)
    have htot := fixRL_len lv (s0 :: l0) ar n
    have hrows := fixRL_row lv (s0 :: l0) ar n
    generalize hl : s0 :: l0 = l at *
    have hJ0 : fixRL lv l ar n = fixRL lv l ar n := rfl
    generalize hR : fixRL lv l ar n = R at hfin htot hrows
    have hacc : accV 6 ((itemsL l n).map itC) = .vs 6 ((itemsL l n).map itC) := by subst hl; rfl
    rw [hacc]
    apply W_call Try.func55 rfl (Nat.le_of_ble_eq_true rfl) rfl
    (repeat' (first | apply W_seq | refine W_true rfl rfl ?_ | refine W_false rfl rfl ?_ | refine W_region (id := 0) rfl ?_ | refine W_region (id := 1) rfl ?_ | refine W_region (id := 2) rfl ?_ | apply W_skip | apply W_block | apply W_ret | apply W_exit | refine W_true rfl (by assumption) ?_ | refine W_false rfl (by assumption) ?_ | refine W_cond rfl (fun _ => ?_) (fun _ => ?_)))
    apply W_iterI (S := fxS h lv ar (.vs 6 ((itemsL l n).map itC))) (l := l) (a0 := ([], n)) (fun i rest a => a.1 ++ fixRL lv rest ar a.2 = R ∧ (itemsL l n).drop i = itemsL rest a.2) (by omega) (by omega) rfl ⟨by simpa using hR, rfl⟩
    · intro i st rest a hi hd hil hJ
      obtain ⟨rows, m⟩ := a
      obtain ⟨hJ, hdr⟩ := hJ
      dsimp only at hJ hdr
      have hlt := lt_its (n := n) hil
      have hmem := smsK_mem l i _ hi
      have hNm := smsN_mem l i _ hi
      have hbm := smsB_mem l i _ hb hi
      have hrm := rdSs_mem hr hi
      rw [itemsL] at hdr
      have hget : (itemsL l n)[i]? = some (m, st) := by
        have := congrArg (fun z => z[0]?) hdr
        simpa using this
      have hrow : ((itemsL l n).map itC)[i]? = some (itC (m, st)) := by rw [List.getElem?_map, hget]; rfl
      have hdr2 : (itemsL l n).drop (i + 1) = itemsL rest (cnt1 st m) := by rw [← List.drop_drop, hdr]; rfl
      rw [fixRL] at hJ
      obtain ⟨op, nn, a, t, e⟩ := st
      rw [smK] at hmem
      rw [smN] at hNm
      rw [smB] at hbm
      rw [rdS1] at hrm
      obtain ⟨⟨ha1, ha2⟩, ⟨ht1, ht2⟩, he1, he2⟩ := hbm
      obtain ⟨r1, r2, r3, r4⟩ := hrm
      have hla := exsK_len a
      have htl := smsN_len t
      have hel := smsN_len e
      rw [fixR1] at hJ
      generalize hF : (if op = 0 then flowL m (orI ar (ofEs lv 0 a)) (lv.getD nn.toNat 0) else if op = 4 then flowL m (orI (orI ar (ofEs lv 0 a)) 16) (lv.getD nn.toNat 0) else if op = 3 then flowL m (orI ar (ofEs lv 0 a)) nn else []) = F at hJ
      generalize hT : fixRL lv t (orI ar (ofEs lv 0 a)) (IntKind.i64.wrap (m + 1)) = T at hJ
      generalize hE : fixRL lv e (orI ar (ofEs lv 0 a)) (IntKind.i64.wrap (IntKind.i64.wrap (m + 1) + cntL t 0)) = E at hJ
      have hlen := congrArg List.length hJ
      simp only [List.length_append] at hlen
      have q1 : ∀ r, r ∈ rows → r.length = 3 := fun r hr => (hrows r (by rw [← hJ]; simp [hr])).1
      have q2 : ∀ r, r ∈ rows ++ F → r.length = 3 := fun r hr => (hrows r (by rw [← hJ]; simp at hr ⊢; rcases hr with hr | hr <;> simp [hr])).1
      have q3 : ∀ r, r ∈ rows ++ F ++ T → r.length = 3 := fun r hr => (hrows r (by rw [← hJ]; simp at hr ⊢; rcases hr with hr | hr | hr <;> simp [hr])).1
      have hA := argsR_run op nn a t e lv (k - 1) (by omega) ha1 ha2 r1 (accH h 89 rows) h.length
      have hO := or_run (k - 1) h.length ar (ofEs lv 0 a) (accH h 89 rows)
      have hO16 := or_run (k - 1) (accH h 89 rows).length (orI ar (ofEs lv 0 a)) 16 (accH h 89 rows)
      rw [show k - 1 + 1 = k by omega] at hA hO hO16
      have hF0 := flow_run m (orI ar (ofEs lv 0 a)) (lv.getD nn.toNat 0) (k - 2) (accH h 89 rows).length (accH h 89 rows)
      have hF4 := flow_run m (orI (orI ar (ofEs lv 0 a)) 16) (lv.getD nn.toNat 0) (k - 2) (accH h 89 rows).length (accH h 89 rows)
      have hF3 := flow_run m (orI ar (ofEs lv 0 a)) nn (k - 2) (accH h 89 rows).length (accH h 89 rows)
      rw [show k - 2 + 2 = k by omega] at hF0 hF4 hF3
      have hap1 := fl_append h rows F q1 (by omega)
      have hap2 := fl_append h (rows ++ F) T q2 (by simp; omega)
      have hap3 := fl_append h (rows ++ F ++ T) E q3 (by simp; omega)
      have hTh := then_run m op nn a t e (k - 1) (by omega) (by omega) ht2 (accH h 89 (rows ++ F)) h.length
      have hEl := else_run m op nn a t e (k - 1) (by omega) (by omega) ht2 (by omega) he2 (accH h 89 (rows ++ F ++ T)) h.length
      rw [show k - 1 + 1 = k by omega] at hTh hEl
      have hfT := fixedR_run lv k t (by omega) (by omega) ht2 r3 (orI ar (ofEs lv 0 a)) (IntKind.i64.wrap (m + 1)) (accH h 89 (rows ++ F)) h.length
      have hfE := fixedR_run lv k e (by omega) (by omega) he2 r4 (orI ar (ofEs lv 0 a)) (IntKind.i64.wrap (IntKind.i64.wrap (m + 1) + cntL t 0)) (accH h 89 (rows ++ F ++ T)) h.length
      rw [hT] at hfT
      rw [hE] at hfE
      have hend : rows ++ F ++ T ++ E ++ fixRL lv rest ar (cnt1 (.mk op nn a t e) m) = R := by rw [← hJ]; simp
      clear hJ hfin htot hrows hlen q1 q2 q3 hdr hR hJ0
      by_cases o0 : op = 0
      · have hx := intsC_at (r2 (.inl o0))
        rw [if_pos o0] at hF
        rw [hF] at hF0
        have c0 : (op == 0) = true := by simp [o0]
        (repeat' (first | apply W_seq | refine W_true rfl rfl ?_ | refine W_false rfl rfl ?_ | (refine W_ops (id := 3) ?_ <;> refine T_ch 3 rfl ?_ <;> (refine T_go rfl ?_; first | refine G_true rfl rfl ?_ | refine G_false rfl rfl ?_ | refine G_true rfl (by with_reducible assumption) ?_ | refine G_false rfl (by with_reducible assumption) ?_ | refine G_true rfl (by assumption) ?_ | refine G_false rfl (by assumption) ?_ | refine G_split rfl (fun _ => ?_) (fun _ => ?_)) <;> apply T_nil) | refine W_region (id := 4) rfl ?_ | (refine W_ops (id := 5) ?_ <;> refine T_ch 2 rfl ?_ <;> (refine T_go rfl ?_; first | refine G_op (O_index rfl rfl rfl rfl rfl (by assumption)) ?_ | refine G_op (O_indexI rfl rfl rfl rfl rfl (by assumption)) ?_ | refine G_op (O_indexH rfl rfl rfl rfl rfl (by assumption) (by assumption) (by assumption)) ?_ | refine G_op rfl ?_) <;> refine T_ch 1 rfl ?_ <;> (refine T_go rfl ?_; first | refine G_op rfl ?_ | refine G_op (O_loadS rfl rfl rfl rfl (by assumption) rfl rfl) ?_ | refine G_op (O_loadH rfl rfl rfl (by assumption) rfl rfl) ?_) <;> refine T_ch 2 rfl ?_ <;> apply T_nil) | (refine W_ops (id := 6) ?_ <;> refine T_ch 3 rfl ?_ <;> (refine T_go rfl ?_; refine G_op (O_call rfl rfl rfl rfl (by assumption)) ?_) <;> (refine T_go rfl ?_; refine G_op (O_call rfl rfl rfl rfl (by assumption)) ?_) <;> refine T_ch 1 rfl ?_ <;> apply T_nil) | refine W_region (id := 7) rfl ?_ | (refine W_ops (id := 8) ?_ <;> (refine T_go rfl ?_; first | refine G_true rfl rfl ?_ | refine G_false rfl rfl ?_ | refine G_true rfl (by with_reducible assumption) ?_ | refine G_false rfl (by with_reducible assumption) ?_ | refine G_true rfl (by assumption) ?_ | refine G_false rfl (by assumption) ?_ | refine G_split rfl (fun _ => ?_) (fun _ => ?_)) <;> refine T_ch 1 rfl ?_ <;> apply T_nil) | (refine W_dops (id := 9) (bs := [0, 0, 0, 6, 14, 30, 0, 0, 0, 256, 896, 1920, 4094, 8191, 16383]) (by decide +kernel) ?_ <;> (refine U_go rfl ?_; refine H_free (by decide +kernel) rfl rfl rfl rfl rfl ?_) <;> (refine U_go rfl ?_; refine H_free (by decide +kernel) rfl rfl rfl rfl rfl ?_) <;> (refine U_go rfl ?_; refine H_free (by decide +kernel) rfl rfl rfl rfl rfl ?_) <;> (refine U_go rfl ?_; first | refine H_free (by decide +kernel) rfl (O_index rfl rfl rfl rfl rfl (by assumption)) rfl rfl rfl ?_ | refine H_free (by decide +kernel) rfl (O_indexI rfl rfl rfl rfl rfl (by assumption)) rfl rfl rfl ?_ | refine H_free (by decide +kernel) rfl (O_indexH rfl rfl rfl rfl rfl (by assumption) (by assumption) (by assumption)) rfl rfl rfl ?_ | refine H_free (by decide +kernel) rfl rfl rfl rfl rfl ?_) <;> (refine U_go rfl ?_; refine H_free (by decide +kernel) rfl rfl rfl rfl rfl ?_) <;> (refine U_go rfl ?_; first | refine H_free (by decide +kernel) rfl rfl rfl rfl rfl ?_ | refine H_free (by decide +kernel) rfl (O_loadS rfl rfl rfl rfl (by assumption) rfl rfl) rfl rfl rfl ?_ | refine H_free (by decide +kernel) rfl (O_loadH rfl rfl rfl (by assumption) rfl rfl) rfl rfl rfl ?_) <;> (refine U_go rfl ?_; refine H_free (by decide +kernel) rfl rfl rfl rfl rfl ?_) <;> (refine U_go rfl ?_; refine H_free (by decide +kernel) rfl rfl rfl rfl rfl ?_) <;> (refine U_go rfl ?_; refine H_free (by decide +kernel) rfl rfl rfl rfl rfl ?_) <;> (refine U_go rfl ?_; refine H_free (by decide +kernel) rfl rfl rfl rfl rfl ?_) <;> (refine U_go rfl ?_; first | refine H_free (by decide +kernel) rfl (O_index rfl rfl rfl rfl rfl (by assumption)) rfl rfl rfl ?_ | refine H_free (by decide +kernel) rfl (O_indexI rfl rfl rfl rfl rfl (by assumption)) rfl rfl rfl ?_ | refine H_free (by decide +kernel) rfl (O_indexH rfl rfl rfl rfl rfl (by assumption) (by assumption) (by assumption)) rfl rfl rfl ?_ | refine H_free (by decide +kernel) rfl rfl rfl rfl rfl ?_) <;> (refine U_go rfl ?_; first | refine H_free (by decide +kernel) rfl rfl rfl rfl rfl ?_ | refine H_free (by decide +kernel) rfl (O_loadS rfl rfl rfl rfl (by assumption) rfl rfl) rfl rfl rfl ?_ | refine H_free (by decide +kernel) rfl (O_loadH rfl rfl rfl (by assumption) rfl rfl) rfl rfl rfl ?_) <;> (refine U_go rfl ?_; refine H_free (by decide +kernel) rfl (O_call rfl rfl rfl rfl (by assumption)) rfl rfl rfl ?_) <;> (refine U_go rfl ?_; first | refine H_op (by decide +kernel) (O_append rfl rfl rfl rfl rfl (by assumption)) ?_ | refine H_op (by decide +kernel) rfl ?_) <;> (refine U_go rfl ?_; refine H_op (by decide +kernel) rfl ?_) <;> apply U_nil) | (refine W_ops (id := 14) ?_ <;> refine T_ch 5 rfl ?_ <;> (refine T_go rfl ?_; first | refine G_op (O_index rfl rfl rfl rfl rfl (by assumption)) ?_ | refine G_op (O_indexI rfl rfl rfl rfl rfl (by assumption)) ?_ | refine G_op (O_indexH rfl rfl rfl rfl rfl (by assumption) (by assumption) (by assumption)) ?_ | refine G_op rfl ?_) <;> (refine T_go rfl ?_; first | refine G_op rfl ?_ | refine G_op (O_loadS rfl rfl rfl rfl (by assumption) rfl rfl) ?_ | refine G_op (O_loadH rfl rfl rfl (by assumption) rfl rfl) ?_) <;> (refine T_go rfl ?_; refine G_op (O_call rfl rfl rfl rfl (by assumption)) ?_) <;> (refine T_go rfl ?_; refine G_op (O_call rfl rfl rfl rfl (by assumption)) ?_) <;> (refine T_go rfl ?_; first | refine G_op (O_append rfl rfl rfl rfl rfl (by assumption)) ?_ | refine G_op rfl ?_) <;> refine T_ch 1 rfl ?_ <;> apply T_nil) | (refine W_ops (id := 15) ?_ <;> refine T_ch 5 rfl ?_ <;> (refine T_go rfl ?_; first | refine G_op (O_index rfl rfl rfl rfl rfl (by assumption)) ?_ | refine G_op (O_indexI rfl rfl rfl rfl rfl (by assumption)) ?_ | refine G_op (O_indexH rfl rfl rfl rfl rfl (by assumption) (by assumption) (by assumption)) ?_ | refine G_op rfl ?_) <;> (refine T_go rfl ?_; first | refine G_op rfl ?_ | refine G_op (O_loadS rfl rfl rfl rfl (by assumption) rfl rfl) ?_ | refine G_op (O_loadH rfl rfl rfl (by assumption) rfl rfl) ?_) <;> (refine T_go rfl ?_; refine G_op (O_call rfl rfl rfl rfl (by assumption)) ?_) <;> (refine T_go rfl ?_; refine G_op (O_call rfl rfl rfl rfl (by assumption)) ?_) <;> (refine T_go rfl ?_; first | refine G_op (O_append rfl rfl rfl rfl rfl (by assumption)) ?_ | refine G_op rfl ?_) <;> refine T_ch 1 rfl ?_ <;> apply T_nil) | apply W_skip | apply W_block | apply W_ret | apply W_exit | refine W_true rfl (by assumption) ?_ | refine W_false rfl (by assumption) ?_ | refine W_cond rfl (fun _ => ?_) (fun _ => ?_)))
        exact ⟨(rows ++ F ++ T ++ E, cnt1 (.mk op nn a t e) m), rfl, hend, hdr2⟩
      by_cases o4 : op = 4
      · have hx := intsC_at (r2 (.inr o4))
        rw [if_neg o0, if_pos o4] at hF
        rw [hF] at hF4
        have c0 : (op == 0) = false := by simp [o0]
        have c4 : (op == 4) = true := by simp [o4]
        (repeat' (first | apply W_seq | refine W_true rfl rfl ?_ | refine W_false rfl rfl ?_ | (refine W_ops (id := 3) ?_ <;> refine T_ch 3 rfl ?_ <;> (refine T_go rfl ?_; first | refine G_true rfl rfl ?_ | refine G_false rfl rfl ?_ | refine G_true rfl (by with_reducible assumption) ?_ | refine G_false rfl (by with_reducible assumption) ?_ | refine G_true rfl (by assumption) ?_ | refine G_false rfl (by assumption) ?_ | refine G_split rfl (fun _ => ?_) (fun _ => ?_)) <;> apply T_nil) | refine W_region (id := 4) rfl ?_ | (refine W_ops (id := 5) ?_ <;> refine T_ch 2 rfl ?_ <;> (refine T_go rfl ?_; first | refine G_op (O_index rfl rfl rfl rfl rfl (by assumption)) ?_ | refine G_op (O_indexI rfl rfl rfl rfl rfl (by assumption)) ?_ | refine G_op (O_indexH rfl rfl rfl rfl rfl (by assumption) (by assumption) (by assumption)) ?_ | refine G_op rfl ?_) <;> refine T_ch 1 rfl ?_ <;> (refine T_go rfl ?_; first | refine G_op rfl ?_ | refine G_op (O_loadS rfl rfl rfl rfl (by assumption) rfl rfl) ?_ | refine G_op (O_loadH rfl rfl rfl (by assumption) rfl rfl) ?_) <;> refine T_ch 2 rfl ?_ <;> apply T_nil) | (refine W_ops (id := 6) ?_ <;> refine T_ch 3 rfl ?_ <;> (refine T_go rfl ?_; refine G_op (O_call rfl rfl rfl rfl (by assumption)) ?_) <;> (refine T_go rfl ?_; refine G_op (O_call rfl rfl rfl rfl (by assumption)) ?_) <;> refine T_ch 1 rfl ?_ <;> apply T_nil) | refine W_region (id := 7) rfl ?_ | (refine W_ops (id := 8) ?_ <;> (refine T_go rfl ?_; first | refine G_true rfl rfl ?_ | refine G_false rfl rfl ?_ | refine G_true rfl (by with_reducible assumption) ?_ | refine G_false rfl (by with_reducible assumption) ?_ | refine G_true rfl (by assumption) ?_ | refine G_false rfl (by assumption) ?_ | refine G_split rfl (fun _ => ?_) (fun _ => ?_)) <;> refine T_ch 1 rfl ?_ <;> apply T_nil) | (refine W_ops (id := 10) ?_ <;> (refine T_go rfl ?_; first | refine G_true rfl rfl ?_ | refine G_false rfl rfl ?_ | refine G_true rfl (by with_reducible assumption) ?_ | refine G_false rfl (by with_reducible assumption) ?_ | refine G_true rfl (by assumption) ?_ | refine G_false rfl (by assumption) ?_ | refine G_split rfl (fun _ => ?_) (fun _ => ?_)) <;> refine T_ch 1 rfl ?_ <;> apply T_nil) | (refine W_dops (id := 11) (bs := [0, 0, 0, 6, 14, 30, 0, 64, 0, 0, 512, 1792, 3840, 8190, 16383, 32767]) (by decide +kernel) ?_ <;> (refine U_go rfl ?_; refine H_free (by decide +kernel) rfl rfl rfl rfl rfl ?_) <;> (refine U_go rfl ?_; refine H_free (by decide +kernel) rfl rfl rfl rfl rfl ?_) <;> (refine U_go rfl ?_; refine H_free (by decide +kernel) rfl rfl rfl rfl rfl ?_) <;> (refine U_go rfl ?_; first | refine H_free (by decide +kernel) rfl (O_index rfl rfl rfl rfl rfl (by assumption)) rfl rfl rfl ?_ | refine H_free (by decide +kernel) rfl (O_indexI rfl rfl rfl rfl rfl (by assumption)) rfl rfl rfl ?_ | refine H_free (by decide +kernel) rfl (O_indexH rfl rfl rfl rfl rfl (by assumption) (by assumption) (by assumption)) rfl rfl rfl ?_ | refine H_free (by decide +kernel) rfl rfl rfl rfl rfl ?_) <;> (refine U_go rfl ?_; refine H_free (by decide +kernel) rfl rfl rfl rfl rfl ?_) <;> (refine U_go rfl ?_; first | refine H_free (by decide +kernel) rfl rfl rfl rfl rfl ?_ | refine H_free (by decide +kernel) rfl (O_loadS rfl rfl rfl rfl (by assumption) rfl rfl) rfl rfl rfl ?_ | refine H_free (by decide +kernel) rfl (O_loadH rfl rfl rfl (by assumption) rfl rfl) rfl rfl rfl ?_) <;> (refine U_go rfl ?_; refine H_free (by decide +kernel) rfl rfl rfl rfl rfl ?_) <;> (refine U_go rfl ?_; refine H_free (by decide +kernel) rfl (O_call rfl rfl rfl rfl (by assumption)) rfl rfl rfl ?_) <;> (refine U_go rfl ?_; refine H_free (by decide +kernel) rfl rfl rfl rfl rfl ?_) <;> (refine U_go rfl ?_; refine H_free (by decide +kernel) rfl rfl rfl rfl rfl ?_) <;> (refine U_go rfl ?_; refine H_free (by decide +kernel) rfl rfl rfl rfl rfl ?_) <;> (refine U_go rfl ?_; first | refine H_free (by decide +kernel) rfl (O_index rfl rfl rfl rfl rfl (by assumption)) rfl rfl rfl ?_ | refine H_free (by decide +kernel) rfl (O_indexI rfl rfl rfl rfl rfl (by assumption)) rfl rfl rfl ?_ | refine H_free (by decide +kernel) rfl (O_indexH rfl rfl rfl rfl rfl (by assumption) (by assumption) (by assumption)) rfl rfl rfl ?_ | refine H_free (by decide +kernel) rfl rfl rfl rfl rfl ?_) <;> (refine U_go rfl ?_; first | refine H_free (by decide +kernel) rfl rfl rfl rfl rfl ?_ | refine H_free (by decide +kernel) rfl (O_loadS rfl rfl rfl rfl (by assumption) rfl rfl) rfl rfl rfl ?_ | refine H_free (by decide +kernel) rfl (O_loadH rfl rfl rfl (by assumption) rfl rfl) rfl rfl rfl ?_) <;> (refine U_go rfl ?_; refine H_free (by decide +kernel) rfl (O_call rfl rfl rfl rfl (by assumption)) rfl rfl rfl ?_) <;> (refine U_go rfl ?_; first | refine H_op (by decide +kernel) (O_append rfl rfl rfl rfl rfl (by assumption)) ?_ | refine H_op (by decide +kernel) rfl ?_) <;> (refine U_go rfl ?_; refine H_op (by decide +kernel) rfl ?_) <;> apply U_nil) | (refine W_ops (id := 14) ?_ <;> refine T_ch 5 rfl ?_ <;> (refine T_go rfl ?_; first | refine G_op (O_index rfl rfl rfl rfl rfl (by assumption)) ?_ | refine G_op (O_indexI rfl rfl rfl rfl rfl (by assumption)) ?_ | refine G_op (O_indexH rfl rfl rfl rfl rfl (by assumption) (by assumption) (by assumption)) ?_ | refine G_op rfl ?_) <;> (refine T_go rfl ?_; first | refine G_op rfl ?_ | refine G_op (O_loadS rfl rfl rfl rfl (by assumption) rfl rfl) ?_ | refine G_op (O_loadH rfl rfl rfl (by assumption) rfl rfl) ?_) <;> (refine T_go rfl ?_; refine G_op (O_call rfl rfl rfl rfl (by assumption)) ?_) <;> (refine T_go rfl ?_; refine G_op (O_call rfl rfl rfl rfl (by assumption)) ?_) <;> (refine T_go rfl ?_; first | refine G_op (O_append rfl rfl rfl rfl rfl (by assumption)) ?_ | refine G_op rfl ?_) <;> refine T_ch 1 rfl ?_ <;> apply T_nil) | (refine W_ops (id := 15) ?_ <;> refine T_ch 5 rfl ?_ <;> (refine T_go rfl ?_; first | refine G_op (O_index rfl rfl rfl rfl rfl (by assumption)) ?_ | refine G_op (O_indexI rfl rfl rfl rfl rfl (by assumption)) ?_ | refine G_op (O_indexH rfl rfl rfl rfl rfl (by assumption) (by assumption) (by assumption)) ?_ | refine G_op rfl ?_) <;> (refine T_go rfl ?_; first | refine G_op rfl ?_ | refine G_op (O_loadS rfl rfl rfl rfl (by assumption) rfl rfl) ?_ | refine G_op (O_loadH rfl rfl rfl (by assumption) rfl rfl) ?_) <;> (refine T_go rfl ?_; refine G_op (O_call rfl rfl rfl rfl (by assumption)) ?_) <;> (refine T_go rfl ?_; refine G_op (O_call rfl rfl rfl rfl (by assumption)) ?_) <;> (refine T_go rfl ?_; first | refine G_op (O_append rfl rfl rfl rfl rfl (by assumption)) ?_ | refine G_op rfl ?_) <;> refine T_ch 1 rfl ?_ <;> apply T_nil) | refine W_region (id := 4) rfl ?_ | apply W_skip | apply W_block | apply W_ret | apply W_exit | refine W_true rfl (by assumption) ?_ | refine W_false rfl (by assumption) ?_ | refine W_cond rfl (fun _ => ?_) (fun _ => ?_)))
        exact ⟨(rows ++ F ++ T ++ E, cnt1 (.mk op nn a t e) m), rfl, hend, hdr2⟩
      by_cases o3 : op = 3
      · rw [if_neg o0, if_neg o4, if_pos o3] at hF
        rw [hF] at hF3
        have c0 : (op == 0) = false := by simp [o0]
        have c4 : (op == 4) = false := by simp [o4]
        have c3 : (op == 3) = true := by simp [o3]
        (repeat' (first | apply W_seq | refine W_true rfl rfl ?_ | refine W_false rfl rfl ?_ | (refine W_ops (id := 3) ?_ <;> refine T_ch 3 rfl ?_ <;> (refine T_go rfl ?_; first | refine G_true rfl rfl ?_ | refine G_false rfl rfl ?_ | refine G_true rfl (by with_reducible assumption) ?_ | refine G_false rfl (by with_reducible assumption) ?_ | refine G_true rfl (by assumption) ?_ | refine G_false rfl (by assumption) ?_ | refine G_split rfl (fun _ => ?_) (fun _ => ?_)) <;> apply T_nil) | refine W_region (id := 4) rfl ?_ | (refine W_ops (id := 5) ?_ <;> refine T_ch 2 rfl ?_ <;> (refine T_go rfl ?_; first | refine G_op (O_index rfl rfl rfl rfl rfl (by assumption)) ?_ | refine G_op (O_indexI rfl rfl rfl rfl rfl (by assumption)) ?_ | refine G_op (O_indexH rfl rfl rfl rfl rfl (by assumption) (by assumption) (by assumption)) ?_ | refine G_op rfl ?_) <;> refine T_ch 1 rfl ?_ <;> (refine T_go rfl ?_; first | refine G_op rfl ?_ | refine G_op (O_loadS rfl rfl rfl rfl (by assumption) rfl rfl) ?_ | refine G_op (O_loadH rfl rfl rfl (by assumption) rfl rfl) ?_) <;> refine T_ch 2 rfl ?_ <;> apply T_nil) | (refine W_ops (id := 6) ?_ <;> refine T_ch 3 rfl ?_ <;> (refine T_go rfl ?_; refine G_op (O_call rfl rfl rfl rfl (by assumption)) ?_) <;> (refine T_go rfl ?_; refine G_op (O_call rfl rfl rfl rfl (by assumption)) ?_) <;> refine T_ch 1 rfl ?_ <;> apply T_nil) | refine W_region (id := 7) rfl ?_ | (refine W_ops (id := 8) ?_ <;> (refine T_go rfl ?_; first | refine G_true rfl rfl ?_ | refine G_false rfl rfl ?_ | refine G_true rfl (by with_reducible assumption) ?_ | refine G_false rfl (by with_reducible assumption) ?_ | refine G_true rfl (by assumption) ?_ | refine G_false rfl (by assumption) ?_ | refine G_split rfl (fun _ => ?_) (fun _ => ?_)) <;> refine T_ch 1 rfl ?_ <;> apply T_nil) | (refine W_ops (id := 10) ?_ <;> (refine T_go rfl ?_; first | refine G_true rfl rfl ?_ | refine G_false rfl rfl ?_ | refine G_true rfl (by with_reducible assumption) ?_ | refine G_false rfl (by with_reducible assumption) ?_ | refine G_true rfl (by assumption) ?_ | refine G_false rfl (by assumption) ?_ | refine G_split rfl (fun _ => ?_) (fun _ => ?_)) <;> refine T_ch 1 rfl ?_ <;> apply T_nil) | (refine W_ops (id := 12) ?_ <;> (refine T_go rfl ?_; first | refine G_true rfl rfl ?_ | refine G_false rfl rfl ?_ | refine G_true rfl (by with_reducible assumption) ?_ | refine G_false rfl (by with_reducible assumption) ?_ | refine G_true rfl (by assumption) ?_ | refine G_false rfl (by assumption) ?_ | refine G_split rfl (fun _ => ?_) (fun _ => ?_)) <;> refine T_ch 1 rfl ?_ <;> apply T_nil) | (refine W_dops (id := 13) (bs := [0, 0, 0, 6, 14, 30, 0, 0, 128, 510, 1023, 2047]) (by decide +kernel) ?_ <;> (refine U_go rfl ?_; refine H_free (by decide +kernel) rfl rfl rfl rfl rfl ?_) <;> (refine U_go rfl ?_; refine H_free (by decide +kernel) rfl rfl rfl rfl rfl ?_) <;> (refine U_go rfl ?_; refine H_free (by decide +kernel) rfl rfl rfl rfl rfl ?_) <;> (refine U_go rfl ?_; first | refine H_free (by decide +kernel) rfl (O_index rfl rfl rfl rfl rfl (by assumption)) rfl rfl rfl ?_ | refine H_free (by decide +kernel) rfl (O_indexI rfl rfl rfl rfl rfl (by assumption)) rfl rfl rfl ?_ | refine H_free (by decide +kernel) rfl (O_indexH rfl rfl rfl rfl rfl (by assumption) (by assumption) (by assumption)) rfl rfl rfl ?_ | refine H_free (by decide +kernel) rfl rfl rfl rfl rfl ?_) <;> (refine U_go rfl ?_; refine H_free (by decide +kernel) rfl rfl rfl rfl rfl ?_) <;> (refine U_go rfl ?_; first | refine H_free (by decide +kernel) rfl rfl rfl rfl rfl ?_ | refine H_free (by decide +kernel) rfl (O_loadS rfl rfl rfl rfl (by assumption) rfl rfl) rfl rfl rfl ?_ | refine H_free (by decide +kernel) rfl (O_loadH rfl rfl rfl (by assumption) rfl rfl) rfl rfl rfl ?_) <;> (refine U_go rfl ?_; refine H_free (by decide +kernel) rfl rfl rfl rfl rfl ?_) <;> (refine U_go rfl ?_; refine H_free (by decide +kernel) rfl rfl rfl rfl rfl ?_) <;> (refine U_go rfl ?_; refine H_free (by decide +kernel) rfl rfl rfl rfl rfl ?_) <;> (refine U_go rfl ?_; refine H_free (by decide +kernel) rfl (O_call rfl rfl rfl rfl (by assumption)) rfl rfl rfl ?_) <;> (refine U_go rfl ?_; first | refine H_op (by decide +kernel) (O_append rfl rfl rfl rfl rfl (by assumption)) ?_ | refine H_op (by decide +kernel) rfl ?_) <;> (refine U_go rfl ?_; refine H_op (by decide +kernel) rfl ?_) <;> apply U_nil) | (refine W_ops (id := 14) ?_ <;> refine T_ch 5 rfl ?_ <;> (refine T_go rfl ?_; first | refine G_op (O_index rfl rfl rfl rfl rfl (by assumption)) ?_ | refine G_op (O_indexI rfl rfl rfl rfl rfl (by assumption)) ?_ | refine G_op (O_indexH rfl rfl rfl rfl rfl (by assumption) (by assumption) (by assumption)) ?_ | refine G_op rfl ?_) <;> (refine T_go rfl ?_; first | refine G_op rfl ?_ | refine G_op (O_loadS rfl rfl rfl rfl (by assumption) rfl rfl) ?_ | refine G_op (O_loadH rfl rfl rfl (by assumption) rfl rfl) ?_) <;> (refine T_go rfl ?_; refine G_op (O_call rfl rfl rfl rfl (by assumption)) ?_) <;> (refine T_go rfl ?_; refine G_op (O_call rfl rfl rfl rfl (by assumption)) ?_) <;> (refine T_go rfl ?_; first | refine G_op (O_append rfl rfl rfl rfl rfl (by assumption)) ?_ | refine G_op rfl ?_) <;> refine T_ch 1 rfl ?_ <;> apply T_nil) | (refine W_ops (id := 15) ?_ <;> refine T_ch 5 rfl ?_ <;> (refine T_go rfl ?_; first | refine G_op (O_index rfl rfl rfl rfl rfl (by assumption)) ?_ | refine G_op (O_indexI rfl rfl rfl rfl rfl (by assumption)) ?_ | refine G_op (O_indexH rfl rfl rfl rfl rfl (by assumption) (by assumption) (by assumption)) ?_ | refine G_op rfl ?_) <;> (refine T_go rfl ?_; first | refine G_op rfl ?_ | refine G_op (O_loadS rfl rfl rfl rfl (by assumption) rfl rfl) ?_ | refine G_op (O_loadH rfl rfl rfl (by assumption) rfl rfl) ?_) <;> (refine T_go rfl ?_; refine G_op (O_call rfl rfl rfl rfl (by assumption)) ?_) <;> (refine T_go rfl ?_; refine G_op (O_call rfl rfl rfl rfl (by assumption)) ?_) <;> (refine T_go rfl ?_; first | refine G_op (O_append rfl rfl rfl rfl rfl (by assumption)) ?_ | refine G_op rfl ?_) <;> refine T_ch 1 rfl ?_ <;> apply T_nil) | apply W_skip | apply W_block | apply W_ret | apply W_exit | refine W_true rfl (by assumption) ?_ | refine W_false rfl (by assumption) ?_ | refine W_cond rfl (fun _ => ?_) (fun _ => ?_)))
        exact ⟨(rows ++ F ++ T ++ E, cnt1 (.mk op nn a t e) m), rfl, hend, hdr2⟩
      · rw [if_neg o0, if_neg o4, if_neg o3] at hF
        subst hF
        rw [List.append_nil] at *
        have c0 : (op == 0) = false := by simp [o0]
        have c4 : (op == 4) = false := by simp [o4]
        have c3 : (op == 3) = false := by simp [o3]
        (repeat' (first | apply W_seq | refine W_true rfl rfl ?_ | refine W_false rfl rfl ?_ | (refine W_ops (id := 3) ?_ <;> refine T_ch 3 rfl ?_ <;> (refine T_go rfl ?_; first | refine G_true rfl rfl ?_ | refine G_false rfl rfl ?_ | refine G_true rfl (by with_reducible assumption) ?_ | refine G_false rfl (by with_reducible assumption) ?_ | refine G_true rfl (by assumption) ?_ | refine G_false rfl (by assumption) ?_ | refine G_split rfl (fun _ => ?_) (fun _ => ?_)) <;> apply T_nil) | refine W_region (id := 4) rfl ?_ | (refine W_ops (id := 5) ?_ <;> refine T_ch 2 rfl ?_ <;> (refine T_go rfl ?_; first | refine G_op (O_index rfl rfl rfl rfl rfl (by assumption)) ?_ | refine G_op (O_indexI rfl rfl rfl rfl rfl (by assumption)) ?_ | refine G_op (O_indexH rfl rfl rfl rfl rfl (by assumption) (by assumption) (by assumption)) ?_ | refine G_op rfl ?_) <;> refine T_ch 1 rfl ?_ <;> (refine T_go rfl ?_; first | refine G_op rfl ?_ | refine G_op (O_loadS rfl rfl rfl rfl (by assumption) rfl rfl) ?_ | refine G_op (O_loadH rfl rfl rfl (by assumption) rfl rfl) ?_) <;> refine T_ch 2 rfl ?_ <;> apply T_nil) | (refine W_ops (id := 6) ?_ <;> refine T_ch 3 rfl ?_ <;> (refine T_go rfl ?_; refine G_op (O_call rfl rfl rfl rfl (by assumption)) ?_) <;> (refine T_go rfl ?_; refine G_op (O_call rfl rfl rfl rfl (by assumption)) ?_) <;> refine T_ch 1 rfl ?_ <;> apply T_nil) | refine W_region (id := 7) rfl ?_ | (refine W_ops (id := 8) ?_ <;> (refine T_go rfl ?_; first | refine G_true rfl rfl ?_ | refine G_false rfl rfl ?_ | refine G_true rfl (by with_reducible assumption) ?_ | refine G_false rfl (by with_reducible assumption) ?_ | refine G_true rfl (by assumption) ?_ | refine G_false rfl (by assumption) ?_ | refine G_split rfl (fun _ => ?_) (fun _ => ?_)) <;> refine T_ch 1 rfl ?_ <;> apply T_nil) | (refine W_ops (id := 10) ?_ <;> (refine T_go rfl ?_; first | refine G_true rfl rfl ?_ | refine G_false rfl rfl ?_ | refine G_true rfl (by with_reducible assumption) ?_ | refine G_false rfl (by with_reducible assumption) ?_ | refine G_true rfl (by assumption) ?_ | refine G_false rfl (by assumption) ?_ | refine G_split rfl (fun _ => ?_) (fun _ => ?_)) <;> refine T_ch 1 rfl ?_ <;> apply T_nil) | (refine W_ops (id := 12) ?_ <;> (refine T_go rfl ?_; first | refine G_true rfl rfl ?_ | refine G_false rfl rfl ?_ | refine G_true rfl (by with_reducible assumption) ?_ | refine G_false rfl (by with_reducible assumption) ?_ | refine G_true rfl (by assumption) ?_ | refine G_false rfl (by assumption) ?_ | refine G_split rfl (fun _ => ?_) (fun _ => ?_)) <;> refine T_ch 1 rfl ?_ <;> apply T_nil) | (refine W_ops (id := 14) ?_ <;> refine T_ch 5 rfl ?_ <;> (refine T_go rfl ?_; first | refine G_op (O_index rfl rfl rfl rfl rfl (by assumption)) ?_ | refine G_op (O_indexI rfl rfl rfl rfl rfl (by assumption)) ?_ | refine G_op (O_indexH rfl rfl rfl rfl rfl (by assumption) (by assumption) (by assumption)) ?_ | refine G_op rfl ?_) <;> (refine T_go rfl ?_; first | refine G_op rfl ?_ | refine G_op (O_loadS rfl rfl rfl rfl (by assumption) rfl rfl) ?_ | refine G_op (O_loadH rfl rfl rfl (by assumption) rfl rfl) ?_) <;> (refine T_go rfl ?_; refine G_op (O_call rfl rfl rfl rfl (by assumption)) ?_) <;> (refine T_go rfl ?_; refine G_op (O_call rfl rfl rfl rfl (by assumption)) ?_) <;> (refine T_go rfl ?_; first | refine G_op (O_append rfl rfl rfl rfl rfl (by assumption)) ?_ | refine G_op rfl ?_) <;> refine T_ch 1 rfl ?_ <;> apply T_nil) | (refine W_ops (id := 15) ?_ <;> refine T_ch 5 rfl ?_ <;> (refine T_go rfl ?_; first | refine G_op (O_index rfl rfl rfl rfl rfl (by assumption)) ?_ | refine G_op (O_indexI rfl rfl rfl rfl rfl (by assumption)) ?_ | refine G_op (O_indexH rfl rfl rfl rfl rfl (by assumption) (by assumption) (by assumption)) ?_ | refine G_op rfl ?_) <;> (refine T_go rfl ?_; first | refine G_op rfl ?_ | refine G_op (O_loadS rfl rfl rfl rfl (by assumption) rfl rfl) ?_ | refine G_op (O_loadH rfl rfl rfl (by assumption) rfl rfl) ?_) <;> (refine T_go rfl ?_; refine G_op (O_call rfl rfl rfl rfl (by assumption)) ?_) <;> (refine T_go rfl ?_; refine G_op (O_call rfl rfl rfl rfl (by assumption)) ?_) <;> (refine T_go rfl ?_; first | refine G_op (O_append rfl rfl rfl rfl rfl (by assumption)) ?_ | refine G_op rfl ?_) <;> refine T_ch 1 rfl ?_ <;> apply T_nil) | apply W_skip | apply W_block | apply W_ret | apply W_exit | refine W_true rfl (by assumption) ?_ | refine W_false rfl (by assumption) ?_ | refine W_cond rfl (fun _ => ?_) (fun _ => ?_)))
        exact ⟨(rows ++ T ++ E, cnt1 (.mk op nn a t e) m), rfl, hend, hdr2⟩
    · intro a hJ
      have hlt := ge_its (l := l) (n := n)
      obtain ⟨rows, m⟩ := a
      have hJ1 : rows = R := by simpa [fixRL] using hJ.1
      subst hJ1
      (repeat' (first | apply W_seq | refine W_true rfl rfl ?_ | refine W_false rfl rfl ?_ | (refine W_ops (id := 3) ?_ <;> refine T_ch 3 rfl ?_ <;> (refine T_go rfl ?_; first | refine G_true rfl rfl ?_ | refine G_false rfl rfl ?_ | refine G_true rfl (by with_reducible assumption) ?_ | refine G_false rfl (by with_reducible assumption) ?_ | refine G_true rfl (by assumption) ?_ | refine G_false rfl (by assumption) ?_ | refine G_split rfl (fun _ => ?_) (fun _ => ?_)) <;> apply T_nil) | refine W_region (id := 16) rfl ?_ | apply W_skip | apply W_block | apply W_ret | apply W_exit | refine W_true rfl (by assumption) ?_ | refine W_false rfl (by assumption) ?_ | refine W_cond rfl (fun _ => ?_) (fun _ => ?_)))
      exact ⟨.inl rfl, hfin⟩
theorem FixedR_run (lv : List Int) (p : Pr') (k : Nat) (hk : smsK p.body + 30 ≤ k) (hN : smsN p.body ≤ 600) (hb : prB p) (hr : rdSs lv.length p.body) (h : Heap) (lo : Nat) :
    call Try.prog cfg (k + 1) lo (.func 22) [.agg (prC p), .vs 1 (intsC lv)] h = some (accV 3 (fixRL lv p.body 0 0), h) := by
  have hln := smsN_len p.body
  have hI := items_run p.body 0 (k - 1) (by omega) (by omega) hb.2.2 h h.length
  rw [show k - 1 + 1 = k by omega] at hI
  have hF := fixedR_run lv k p.body (by omega) hN hb.2.2 hr 0 0 h h.length
  have hrw := fixRL_row lv p.body 0 0
  obtain ⟨w, vs, body⟩ := p
  dsimp only at hI hF hrw ⊢
  generalize fixRL lv body 0 0 = R at hF hrw ⊢
  cases R with
  | nil =>
    apply W_call Try.func22 rfl (Nat.le_of_ble_eq_true rfl) rfl
    (repeat' (first | apply W_seq | refine W_true rfl rfl ?_ | refine W_false rfl rfl ?_ | refine W_region (id := 0) rfl ?_ | (refine W_ops (id := 1) ?_ <;> refine T_ch 3 rfl ?_ <;> (refine T_go rfl ?_; refine G_op (O_call rfl rfl rfl rfl (by assumption)) ?_) <;> (refine T_go rfl ?_; refine G_op (O_call rfl rfl rfl rfl (by assumption)) ?_) <;> refine T_ch 1 rfl ?_ <;> apply T_nil) | apply W_skip | apply W_block | apply W_ret | apply W_exit | refine W_true rfl (by assumption) ?_ | refine W_false rfl (by assumption) ?_ | refine W_cond rfl (fun _ => ?_) (fun _ => ?_)))
    exact ⟨.inl rfl, rfl⟩
  | cons r R =>
    apply W_call Try.func22 rfl (Nat.le_of_ble_eq_true rfl) rfl
    (repeat' (first | apply W_seq | refine W_true rfl rfl ?_ | refine W_false rfl rfl ?_ | refine W_region (id := 0) rfl ?_ | (refine W_ops (id := 1) ?_ <;> refine T_ch 3 rfl ?_ <;> (refine T_go rfl ?_; refine G_op (O_call rfl rfl rfl rfl (by assumption)) ?_) <;> (refine T_go rfl ?_; refine G_op (O_call rfl rfl rfl rfl (by assumption)) ?_) <;> refine T_ch 1 rfl ?_ <;> apply T_nil) | apply W_skip | apply W_block | apply W_ret | apply W_exit | refine W_true rfl (by assumption) ?_ | refine W_false rfl (by assumption) ?_ | refine W_cond rfl (fun _ => ?_) (fun _ => ?_)))
    exact ⟨.inl rfl, rfl⟩
end Go.Proofs.Ytelobnllkhnpaaa.L
