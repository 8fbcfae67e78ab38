/- Expressions in the reference: form, Depth, Is. -/
import Derived.Test.YtelobnllkhnpaaaLvD
open Go Go.Proofs Go.Ev Go.Proofs.Ytelobnllkhnpaaa.E
namespace Go.Proofs.Ytelobnllkhnpaaa.L
set_option linter.unusedVariables false
set_option linter.unusedSimpArgs false
set_option maxRecDepth 100000

mutual
def formE (w : Int) (vs : List Vr') (c : Int) : Ex' → Bool
  | .mk op n cp es => nodeB w vs c (.mk op n cp es) && formEs w vs c es
def formEs (w : Int) (vs : List Vr') (c : Int) : List Ex' → Bool
  | [] => true
  | e :: es => formE w vs c e && formEs w vs c es
end
def formS (h : Heap) (lo : Nat) (w : Int) (vs : List Vr') (c : Int) (e : Ex') (i : Int) (_ : Unit) : St :=
  { env := [(0, .v (.int .i64 w)), (1, .v (.vs 3 (vsC vs))), (2, .v (.int .i64 c)), (7, .p 7 0), (9, .v (.int .i64 i))], loc := [(7, exC e)], heap := h, inRound := false, lo := lo }
theorem form_run (w : Int) (vs : List Vr') (c : Int) : ∀ (k : Nat) (e : Ex'), exK e + 14 ≤ k → exB e → ∀ (h : Heap) (lo : Nat), call Try.prog cfg k lo (.func 52) [.int .i64 w, .vs 3 (vsC vs), .int .i64 c, .agg (exC e)] h = some (.bool (formE w vs c e), h)
  | 0, e, hk, _, _, _ => by omega
  | k + 1, .mk op n cp es, hk, hb, h, lo => by
    rw [exK] at hk
    rw [exB] at hb
    have hlen := exsK_len es
    have hnode := node_run w vs c (.mk op n cp es) (k - 14) h.length h
    rw [show k - 14 + 14 = k by omega] at hnode
    rw [formE]
    apply W_call Try.func52 rfl (Nat.le_of_ble_eq_true rfl) rfl
    (repeat' (first | apply W_seq | refine W_true rfl rfl ?_ | refine W_false rfl rfl ?_ | refine W_region (id := 0) rfl ?_ | (refine W_ops (id := 1) ?_ <;> refine T_ch 4 rfl ?_ <;> (refine T_go rfl ?_; first | refine G_true (O_call rfl rfl rfl rfl (by assumption)) rfl ?_ | refine G_false (O_call rfl rfl rfl rfl (by assumption)) rfl ?_ | refine G_true (O_call rfl rfl rfl rfl (by assumption)) (by with_reducible assumption) ?_ | refine G_false (O_call rfl rfl rfl rfl (by assumption)) (by with_reducible assumption) ?_ | refine G_true (O_call rfl rfl rfl rfl (by assumption)) (by assumption) ?_ | refine G_false (O_call rfl rfl rfl rfl (by assumption)) (by assumption) ?_ | refine G_split (O_call rfl rfl rfl rfl (by assumption)) (fun _ => ?_) (fun _ => ?_)) <;> refine T_ch 1 rfl ?_ <;> apply T_nil) | refine W_region (id := 2) rfl ?_ | refine W_region (id := 3) rfl ?_ | apply W_skip | apply W_block | apply W_ret | apply W_exit | refine W_true rfl (by assumption) ?_ | refine W_false rfl (by assumption) ?_ | refine W_cond rfl (fun _ => ?_) (fun _ => ?_)))
    · rename_i hn
      apply W_iter (S := formS h h.length w vs c (.mk op n cp es)) (l := es) (a0 := ()) (fun rest _ => formEs w vs c rest = formEs w vs c es) hb.1 (by omega) rfl rfl
      · intro i e rest _ hi hd hil hJ
        have hrow := exsC_get _ _ _ hi
        have ih := form_run w vs c k e (by have := exsK_mem es i _ hi; omega) (exsB_mem es i _ hb.2 hi) h h.length
        have hlt := lt_exs hil
        obtain ⟨op', n', cp', es'⟩ := e
        (repeat' (first | apply W_seq | refine W_true rfl rfl ?_ | refine W_false rfl rfl ?_ | (refine W_ops (id := 4) ?_ <;> refine T_ch 4 rfl ?_ <;> (refine T_go rfl ?_; first | refine G_true rfl rfl ?_ | refine G_false rfl rfl ?_ | refine G_true rfl (by with_reducible assumption) ?_ | refine G_false rfl (by with_reducible assumption) ?_ | refine G_true rfl (by assumption) ?_ | refine G_false rfl (by assumption) ?_ | refine G_split rfl (fun _ => ?_) (fun _ => ?_)) <;> apply T_nil) | refine W_region (id := 5) rfl ?_ | (refine W_ops (id := 6) ?_ <;> refine T_ch 6 rfl ?_ <;> (refine T_go rfl ?_; first | refine G_op (O_index rfl rfl rfl rfl rfl (by assumption)) ?_ | refine G_op (O_indexI rfl rfl rfl rfl rfl (by assumption)) ?_ | refine G_op (O_indexH rfl rfl rfl rfl rfl (by assumption) (by assumption) (by assumption)) ?_ | refine G_op rfl ?_) <;> (refine T_go rfl ?_; first | refine G_op rfl ?_ | refine G_op (O_loadS rfl rfl rfl rfl (by assumption) rfl rfl) ?_ | refine G_op (O_loadH rfl rfl rfl (by assumption) rfl rfl) ?_) <;> (refine T_go rfl ?_; first | refine G_true (O_call rfl rfl rfl rfl (by assumption)) rfl ?_ | refine G_false (O_call rfl rfl rfl rfl (by assumption)) rfl ?_ | refine G_true (O_call rfl rfl rfl rfl (by assumption)) (by with_reducible assumption) ?_ | refine G_false (O_call rfl rfl rfl rfl (by assumption)) (by with_reducible assumption) ?_ | refine G_true (O_call rfl rfl rfl rfl (by assumption)) (by assumption) ?_ | refine G_false (O_call rfl rfl rfl rfl (by assumption)) (by assumption) ?_ | refine G_split (O_call rfl rfl rfl rfl (by assumption)) (fun _ => ?_) (fun _ => ?_)) <;> refine T_ch 1 rfl ?_ <;> apply T_nil) | refine W_region (id := 7) rfl ?_ | apply W_skip | apply W_block | apply W_ret | apply W_exit | refine W_true rfl (by assumption) ?_ | refine W_false rfl (by assumption) ?_ | refine W_cond rfl (fun _ => ?_) (fun _ => ?_)))
        · rename_i hf; exact ⟨(), rfl, by rw [← hJ, formEs, hf, Bool.true_and]⟩
        · rename_i hf; exact ⟨.inl rfl, by rw [← hJ, formEs, hf]; simp only [Bool.false_and, Bool.and_false]; rfl⟩
      · intro _ hJ
        have hlt := ge_exs (l := es)
        (repeat' (first | apply W_seq | refine W_true rfl rfl ?_ | refine W_false rfl rfl ?_ | (refine W_ops (id := 4) ?_ <;> refine T_ch 4 rfl ?_ <;> (refine T_go rfl ?_; first | refine G_true rfl rfl ?_ | refine G_false rfl rfl ?_ | refine G_true rfl (by with_reducible assumption) ?_ | refine G_false rfl (by with_reducible assumption) ?_ | refine G_true rfl (by assumption) ?_ | refine G_false rfl (by assumption) ?_ | refine G_split rfl (fun _ => ?_) (fun _ => ?_)) <;> apply T_nil) | refine W_region (id := 8) rfl ?_ | apply W_skip | apply W_block | apply W_ret | apply W_exit | refine W_true rfl (by assumption) ?_ | refine W_false rfl (by assumption) ?_ | refine W_cond rfl (fun _ => ?_) (fun _ => ?_)))
        exact ⟨.inl rfl, by rw [← hJ, hn]; rfl⟩
    · rename_i hn; exact ⟨.inl rfl, by rw [hn]; simp only [Bool.false_and]; rfl⟩

def maxI (a b : Int) : Int := if decide (a < b) then b else a
mutual
def depthE : Ex' → Int
  | .mk _ _ _ es => IntKind.i64.wrap (depthEs es 0 + 1)
def depthEs : List Ex' → Int → Int
  | [], n => n
  | e :: es, n => depthEs es (maxI n (depthE e))
end
def depS (h : Heap) (lo : Nat) (e : Ex') (i : Int) (n : Int) : St :=
  { env := [(1, .p 1 0), (3, .v (.int .i64 n)), (4, .v (.int .i64 i))], loc := [(1, exC e)], heap := h, inRound := false, lo := lo }
theorem depth_run : ∀ (k : Nat) (e : Ex'), exK e ≤ k → exB e → ∀ (h : Heap) (lo : Nat), call Try.prog cfg k lo (.func 51) [.agg (exC e)] h = some (.int .i64 (depthE e), h)
  | 0, e, hk, _, _, _ => by have := exK_pos e; omega
  | k + 1, .mk op n cp es, hk, hb, h, lo => by
    rw [exK] at hk
    rw [exB] at hb
    have hlen := exsK_len es
    rw [depthE]
    apply W_call Try.func51 rfl (Nat.le_of_ble_eq_true rfl) rfl
    (repeat' (first | apply W_seq | refine W_true rfl rfl ?_ | refine W_false rfl rfl ?_ | refine W_region (id := 0) rfl ?_ | refine W_region (id := 1) rfl ?_ | refine W_region (id := 2) rfl ?_ | apply W_skip | apply W_block | apply W_ret | apply W_exit | refine W_true rfl (by assumption) ?_ | refine W_false rfl (by assumption) ?_ | refine W_cond rfl (fun _ => ?_) (fun _ => ?_)))
    apply W_iter (S := depS h h.length (.mk op n cp es)) (l := es) (a0 := 0) (fun rest a => depthEs rest a = depthEs es 0) hb.1 (by omega) rfl rfl
    · intro i e rest a hi hd hil hJ
      have hrow := exsC_get _ _ _ hi
      have ih := depth_run k e (by have := exsK_mem es i _ hi; omega) (exsB_mem es i _ hb.2 hi) h h.length
      have hlt := lt_exs hil
      obtain ⟨op', n', cp', es'⟩ := e
      (repeat' (first | apply W_seq | refine W_true rfl rfl ?_ | refine W_false rfl rfl ?_ | (refine W_ops (id := 3) ?_ <;> refine T_ch 4 rfl ?_ <;> (refine T_go rfl ?_; first | refine G_true rfl rfl ?_ | refine G_false rfl rfl ?_ | refine G_true rfl (by with_reducible assumption) ?_ | refine G_false rfl (by with_reducible assumption) ?_ | refine G_true rfl (by assumption) ?_ | refine G_false rfl (by assumption) ?_ | refine G_split rfl (fun _ => ?_) (fun _ => ?_)) <;> apply T_nil) | refine W_region (id := 4) rfl ?_ | (refine W_ops (id := 5) ?_ <;> refine T_ch 4 rfl ?_ <;> (refine T_go rfl ?_; first | refine G_op (O_index rfl rfl rfl rfl rfl (by assumption)) ?_ | refine G_op (O_indexI rfl rfl rfl rfl rfl (by assumption)) ?_ | refine G_op (O_indexH rfl rfl rfl rfl rfl (by assumption) (by assumption) (by assumption)) ?_ | refine G_op rfl ?_) <;> (refine T_go rfl ?_; first | refine G_op rfl ?_ | refine G_op (O_loadS rfl rfl rfl rfl (by assumption) rfl rfl) ?_ | refine G_op (O_loadH rfl rfl rfl (by assumption) rfl rfl) ?_) <;> (refine T_go rfl ?_; refine G_op (O_call rfl rfl rfl rfl (by assumption)) ?_) <;> refine T_ch 2 rfl ?_ <;> apply T_nil) | apply W_skip | apply W_block | apply W_ret | apply W_exit | refine W_true rfl (by assumption) ?_ | refine W_false rfl (by assumption) ?_ | refine W_cond rfl (fun _ => ?_) (fun _ => ?_)))
      exact ⟨_, rfl, by rw [← hJ]; rfl⟩
    · intro a hJ
      have hlt := ge_exs (l := es)
      (repeat' (first | apply W_seq | refine W_true rfl rfl ?_ | refine W_false rfl rfl ?_ | (refine W_ops (id := 3) ?_ <;> refine T_ch 4 rfl ?_ <;> (refine T_go rfl ?_; first | refine G_true rfl rfl ?_ | refine G_false rfl rfl ?_ | refine G_true rfl (by with_reducible assumption) ?_ | refine G_false rfl (by with_reducible assumption) ?_ | refine G_true rfl (by assumption) ?_ | refine G_false rfl (by assumption) ?_ | refine G_split rfl (fun _ => ?_) (fun _ => ?_)) <;> apply T_nil) | refine W_region (id := 6) rfl ?_ | apply W_skip | apply W_block | apply W_ret | apply W_exit | refine W_true rfl (by assumption) ?_ | refine W_false rfl (by assumption) ?_ | refine W_cond rfl (fun _ => ?_) (fun _ => ?_)))
      exact ⟨.inl rfl, by rw [← hJ]; rfl⟩

def isE (w : Int) (vs : List Vr') (c : Int) (e : Ex') : Bool := fitsE e 400 && decide (depthE e ≤ 16) && formE w vs c e
theorem isE_run (w : Int) (vs : List Vr') (c : Int) (e : Ex') (k : Nat) (hk : exK e + 14 ≤ k) (hb : exB e) (h : Heap) (lo : Nat) : call Try.prog cfg (k + 1) lo (.func 16) [.int .i64 w, .vs 3 (vsC vs), .int .i64 c, .agg (exC e)] h = some (.bool (isE w vs c e), h) := by
  have h1 := fitsE_run (k - 1) h h.length e (by omega) hb 400
  rw [show k - 1 + 1 = k by omega] at h1
  have h2 := depth_run k e (by omega) hb h h.length
  have h3 := form_run w vs c k e hk hb h h.length
  obtain ⟨op, n, cp, es⟩ := e
  apply W_call Try.func16 rfl (Nat.le_of_ble_eq_true rfl) rfl
  (repeat' (first | apply W_seq | refine W_true rfl rfl ?_ | refine W_false rfl rfl ?_ | refine W_region (id := 0) rfl ?_ | (refine W_ops (id := 1) ?_ <;> refine T_ch 1 rfl ?_ <;> (refine T_go rfl ?_; first | refine G_true (O_call rfl rfl rfl rfl (by assumption)) rfl ?_ | refine G_false (O_call rfl rfl rfl rfl (by assumption)) rfl ?_ | refine G_true (O_call rfl rfl rfl rfl (by assumption)) (by with_reducible assumption) ?_ | refine G_false (O_call rfl rfl rfl rfl (by assumption)) (by with_reducible assumption) ?_ | refine G_true (O_call rfl rfl rfl rfl (by assumption)) (by assumption) ?_ | refine G_false (O_call rfl rfl rfl rfl (by assumption)) (by assumption) ?_ | refine G_split (O_call rfl rfl rfl rfl (by assumption)) (fun _ => ?_) (fun _ => ?_)) <;> refine T_ch 2 rfl ?_ <;> (first | refine T_skip rfl ?_ | (refine T_go rfl ?_; refine G_op (O_call rfl rfl rfl rfl (by assumption)) ?_)) <;> (first | refine T_skip rfl ?_ | (refine T_go rfl ?_; first | refine G_true rfl rfl ?_ | refine G_false rfl rfl ?_ | refine G_true rfl (by with_reducible assumption) ?_ | refine G_false rfl (by with_reducible assumption) ?_ | refine G_true rfl (by assumption) ?_ | refine G_false rfl (by assumption) ?_ | refine G_split rfl (fun _ => ?_) (fun _ => ?_))) <;> refine T_ch 6 rfl ?_ <;> (first | refine T_skip rfl ?_ | (refine T_go rfl ?_; first | refine G_true (O_call rfl rfl rfl rfl (by assumption)) rfl ?_ | refine G_false (O_call rfl rfl rfl rfl (by assumption)) rfl ?_ | refine G_true (O_call rfl rfl rfl rfl (by assumption)) (by with_reducible assumption) ?_ | refine G_false (O_call rfl rfl rfl rfl (by assumption)) (by with_reducible assumption) ?_ | refine G_true (O_call rfl rfl rfl rfl (by assumption)) (by assumption) ?_ | refine G_false (O_call rfl rfl rfl rfl (by assumption)) (by assumption) ?_ | refine G_split (O_call rfl rfl rfl rfl (by assumption)) (fun _ => ?_) (fun _ => ?_))) <;> refine T_ch 2 rfl ?_ <;> apply T_nil) | apply W_skip | apply W_block | apply W_ret | apply W_exit | refine W_true rfl (by assumption) ?_ | refine W_false rfl (by assumption) ?_ | refine W_cond rfl (fun _ => ?_) (fun _ => ?_)))
  all_goals exact ⟨.inl rfl, Eq.trans (b := some (AV.bool _, _)) rfl (by simp [isE, *])⟩
end Go.Proofs.Ytelobnllkhnpaaa.L
