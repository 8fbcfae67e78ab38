/- Relabel: which levels may be, Clone, None, Range. -/
import Derived.Test.YtelobnllkhnpaaaLvXY
import Derived.Test.YtelobnllkhnpaaaLvN
import Derived.Test.YtelobnllkhnpaaaLvR
import Derived.Test.YtelobnllkhnpaaaLvGlue
open Go Go.Proofs Go.Ev Go.Proofs.Ytelobnllkhnpaaa.E
namespace Go.Proofs.Ytelobnllkhnpaaa.L
set_option linter.unusedVariables false
set_option linter.unusedSimpArgs false
set_option maxRecDepth 100000

theorem setCells_flat {sz off : Nat} {ys : List AV} : ∀ (rows : List (List AV)) (i : Nat) (row : List AV), (∀ r, r ∈ rows → r.length = sz) → rows[i]? = some row → off + ys.length ≤ sz →
    setCells rows.flatten (i * sz + off) ys = (rows.set i (setCells row off ys)).flatten
  | [], i, row, _, h, _ => by simp at h
  | r :: l, 0, row, hr, h, ho => by
    simp at h; subst h
    have hl := hr r (List.mem_cons_self ..)
    rw [Nat.zero_mul, Nat.zero_add, List.set_cons_zero, List.flatten_cons, List.flatten_cons]
    unfold setCells
    rw [List.take_append_of_le_length (by omega), List.drop_append_of_le_length (by omega)]
    simp only [List.append_assoc]
  | r :: l, i + 1, row, hr, h, ho => by
    simp at h
    have hl := hr r (List.mem_cons_self ..)
    have ih := setCells_flat l i row (fun r hr' => hr r (List.mem_cons_of_mem _ hr')) h ho
    rw [List.set_cons_succ, List.flatten_cons, List.flatten_cons, ← ih, Nat.succ_mul]
    unfold setCells
    rw [show i * sz + sz + off = r.length + (i * sz + off) by omega, List.take_length_add_append, show r.length + (i * sz + off) + ys.length = r.length + (i * sz + off + ys.length) by omega, List.drop_length_add_append]
    simp only [List.append_assoc]

def badL (m n : Int) : Bool := decide (n < 0) || decide (n > m)
variable (k : Nat) (h : Heap) (lo : Nat)
theorem bad_run (n : Int) : call Try.prog cfg (k + 1) lo (.func 65) [.int .i64 n] h = some (.bool (badL 15 n), h) := by
  unfold badL
  apply W_call Try.func65 rfl (Nat.le_of_ble_eq_true rfl) rfl
  (repeat' (first | apply W_seq | refine W_true rfl rfl ?_ | refine W_false rfl rfl ?_ | refine W_region (id := 0) rfl ?_ | (refine W_ops (id := 1) ?_ <;> refine T_ch 1 rfl ?_ <;> (refine T_go rfl ?_; first | refine G_true rfl rfl ?_ | refine G_false rfl rfl ?_ | refine G_true rfl (by with_reducible assumption) ?_ | refine G_false rfl (by with_reducible assumption) ?_ | refine G_true rfl (by assumption) ?_ | refine G_false rfl (by assumption) ?_ | refine G_split rfl (fun _ => ?_) (fun _ => ?_)) <;> refine T_ch 2 rfl ?_ <;> (first | refine T_skip rfl ?_ | (refine T_go rfl ?_; first | refine G_true rfl rfl ?_ | refine G_false rfl rfl ?_ | refine G_true rfl (by with_reducible assumption) ?_ | refine G_false rfl (by with_reducible assumption) ?_ | refine G_true rfl (by assumption) ?_ | refine G_false rfl (by assumption) ?_ | refine G_split rfl (fun _ => ?_) (fun _ => ?_))) <;> refine T_ch 2 rfl ?_ <;> apply T_nil) | apply W_skip | apply W_block | apply W_ret | apply W_exit | refine W_true rfl (by assumption) ?_ | refine W_false rfl (by assumption) ?_ | refine W_cond rfl (fun _ => ?_) (fun _ => ?_)))
  · rename_i hc
    exact ⟨.inl rfl, by rw [hc]; rfl⟩
  · rename_i hc hd
    exact ⟨.inl rfl, by rw [hc, hd]; rfl⟩
  · rename_i hc hd
    exact ⟨.inl rfl, by rw [hc, hd]; rfl⟩
def idxL (m : Int) : List Int → Nat → Int
  | [], _ => -1
  | n :: l, i => if badL m n then (i : Int) else idxL m l (i + 1)
theorem idxL_ge (m : Int) : ∀ (l : List Int) (i : Nat), decide (idxL m l i ≥ 0) = l.any (badL m)
  | [], i => rfl
  | n :: l, i => by
    rw [idxL, List.any_cons]
    cases hb : badL m n
    · rw [if_neg (by simp), idxL_ge m l (i + 1)]; rfl
    · rw [if_pos rfl]; simp
theorem intsC_get {l : List Int} {i : Nat} {n : Int} (h : l[i]? = some n) : (intsC l)[i]? = some [.int .i64 n] := by simp [intsC, h]
theorem lt_ints {l : List Int} {i : Nat} (h : i < l.length) : decide ((i : Int) < ((intsC l).length : Int)) = true := decide_eq_true (by rw [intsC_len]; omega)
theorem ge_ints {l : List Int} : decide ((l.length : Int) < ((intsC l).length : Int)) = false := decide_eq_false (by rw [intsC_len]; omega)
def ifS (h : Heap) (lo : Nat) (l : List Int) (i : Int) (_ : Unit) : St :=
  { env := [(0, .v (.vs 1 (intsC l))), (1, .v (.fn (.func 65) [])), (7, .v (.int .i64 (intsC l).length)), (8, .v (.int .i64 i))], loc := [], heap := h, inRound := false, lo := lo }
theorem index_run (l : List Int) (hk : l.length + 1 < k) (hl : l.length < 9223372036854775808) : call Try.prog cfg (k + 1) lo (.func 95) [.vs 1 (intsC l), .fn (.func 65) []] h = some (.int .i64 (idxL 15 l 0), h) := by
  apply W_call Try.func95 rfl (Nat.le_of_ble_eq_true rfl) rfl
  (repeat' (first | apply W_seq | refine W_true rfl rfl ?_ | refine W_false rfl rfl ?_ | refine W_region (id := 0) rfl ?_ | refine W_region (id := 1) rfl ?_ | apply W_skip | apply W_block | apply W_ret | apply W_exit | refine W_true rfl (by assumption) ?_ | refine W_false rfl (by assumption) ?_ | refine W_cond rfl (fun _ => ?_) (fun _ => ?_)))
  apply W_iterI (S := ifS h lo l) (l := l) (a0 := ()) (fun i rest _ => idxL 15 rest i = idxL 15 l 0) (by omega) (by omega) rfl rfl
  · intro i n rest a hi hd hil hJ
    have hrow := intsC_get hi
    have hlt := lt_ints hil
    have hb := bad_run (k - 1) h lo n
    rw [show k - 1 + 1 = k by omega] at hb
    rw [idxL] at hJ
    cases hc : badL 15 n
    · rw [hc] at hb hJ
      rw [if_neg (by simp)] at hJ
      (repeat' (first | apply W_seq | refine W_true rfl rfl ?_ | refine W_false rfl rfl ?_ | (refine W_ops (id := 2) ?_ <;> (refine T_go rfl ?_; first | refine G_true rfl rfl ?_ | refine G_false rfl rfl ?_ | refine G_true rfl (by with_reducible assumption) ?_ | refine G_false rfl (by with_reducible assumption) ?_ | refine G_true rfl (by assumption) ?_ | refine G_false rfl (by assumption) ?_ | refine G_split rfl (fun _ => ?_) (fun _ => ?_)) <;> apply T_nil) | refine W_region (id := 3) rfl ?_ | (refine W_ops (id := 4) ?_ <;> refine T_ch 3 rfl ?_ <;> (refine T_go rfl ?_; first | refine G_op (O_index rfl rfl rfl rfl rfl (by assumption)) ?_ | refine G_op (O_indexI rfl rfl rfl rfl rfl (by assumption)) ?_ | refine G_op (O_indexH rfl rfl rfl rfl rfl (by assumption) (by assumption) (by assumption)) ?_ | refine G_op rfl ?_) <;> (refine T_go rfl ?_; first | refine G_op rfl ?_ | refine G_op (O_loadS rfl rfl rfl rfl (by assumption) rfl rfl) ?_ | refine G_op (O_loadH rfl rfl rfl (by assumption) rfl rfl) ?_) <;> (refine T_go rfl ?_; first | refine G_true (O_call rfl rfl rfl rfl (by assumption)) rfl ?_ | refine G_false (O_call rfl rfl rfl rfl (by assumption)) rfl ?_ | refine G_true (O_call rfl rfl rfl rfl (by assumption)) (by with_reducible assumption) ?_ | refine G_false (O_call rfl rfl rfl rfl (by assumption)) (by with_reducible assumption) ?_ | refine G_true (O_call rfl rfl rfl rfl (by assumption)) (by assumption) ?_ | refine G_false (O_call rfl rfl rfl rfl (by assumption)) (by assumption) ?_ | refine G_split (O_call rfl rfl rfl rfl (by assumption)) (fun _ => ?_) (fun _ => ?_)) <;> apply T_nil) | refine W_region (id := 5) rfl ?_ | refine W_region (id := 6) rfl ?_ | apply W_skip | apply W_block | apply W_ret | apply W_exit | refine W_true rfl (by assumption) ?_ | refine W_false rfl (by assumption) ?_ | refine W_cond rfl (fun _ => ?_) (fun _ => ?_)))
      exact ⟨(), rfl, hJ⟩
    · rw [hc] at hb hJ
      rw [if_pos rfl] at hJ
      (repeat' (first | apply W_seq | refine W_true rfl rfl ?_ | refine W_false rfl rfl ?_ | (refine W_ops (id := 2) ?_ <;> (refine T_go rfl ?_; first | refine G_true rfl rfl ?_ | refine G_false rfl rfl ?_ | refine G_true rfl (by with_reducible assumption) ?_ | refine G_false rfl (by with_reducible assumption) ?_ | refine G_true rfl (by assumption) ?_ | refine G_false rfl (by assumption) ?_ | refine G_split rfl (fun _ => ?_) (fun _ => ?_)) <;> apply T_nil) | refine W_region (id := 3) rfl ?_ | (refine W_ops (id := 4) ?_ <;> refine T_ch 3 rfl ?_ <;> (refine T_go rfl ?_; first | refine G_op (O_index rfl rfl rfl rfl rfl (by assumption)) ?_ | refine G_op (O_indexI rfl rfl rfl rfl rfl (by assumption)) ?_ | refine G_op (O_indexH rfl rfl rfl rfl rfl (by assumption) (by assumption) (by assumption)) ?_ | refine G_op rfl ?_) <;> (refine T_go rfl ?_; first | refine G_op rfl ?_ | refine G_op (O_loadS rfl rfl rfl rfl (by assumption) rfl rfl) ?_ | refine G_op (O_loadH rfl rfl rfl (by assumption) rfl rfl) ?_) <;> (refine T_go rfl ?_; first | refine G_true (O_call rfl rfl rfl rfl (by assumption)) rfl ?_ | refine G_false (O_call rfl rfl rfl rfl (by assumption)) rfl ?_ | refine G_true (O_call rfl rfl rfl rfl (by assumption)) (by with_reducible assumption) ?_ | refine G_false (O_call rfl rfl rfl rfl (by assumption)) (by with_reducible assumption) ?_ | refine G_true (O_call rfl rfl rfl rfl (by assumption)) (by assumption) ?_ | refine G_false (O_call rfl rfl rfl rfl (by assumption)) (by assumption) ?_ | refine G_split (O_call rfl rfl rfl rfl (by assumption)) (fun _ => ?_) (fun _ => ?_)) <;> apply T_nil) | refine W_region (id := 5) rfl ?_ | refine W_region (id := 6) rfl ?_ | apply W_skip | apply W_block | apply W_ret | apply W_exit | refine W_true rfl (by assumption) ?_ | refine W_false rfl (by assumption) ?_ | refine W_cond rfl (fun _ => ?_) (fun _ => ?_)))
      exact ⟨.inl rfl, by rw [← hJ]; rfl⟩
  · intro a hJ
    have hlt := ge_ints (l := l)
    (repeat' (first | apply W_seq | refine W_true rfl rfl ?_ | refine W_false rfl rfl ?_ | (refine W_ops (id := 2) ?_ <;> (refine T_go rfl ?_; first | refine G_true rfl rfl ?_ | refine G_false rfl rfl ?_ | refine G_true rfl (by with_reducible assumption) ?_ | refine G_false rfl (by with_reducible assumption) ?_ | refine G_true rfl (by assumption) ?_ | refine G_false rfl (by assumption) ?_ | refine G_split rfl (fun _ => ?_) (fun _ => ?_)) <;> apply T_nil) | refine W_region (id := 7) rfl ?_ | apply W_skip | apply W_block | apply W_ret | apply W_exit | refine W_true rfl (by assumption) ?_ | refine W_false rfl (by assumption) ?_ | refine W_cond rfl (fun _ => ?_) (fun _ => ?_)))
    exact ⟨.inl rfl, by rw [← hJ]; rfl⟩
theorem contains_run (l : List Int) (hk : l.length + 2 < k) (hl : l.length < 9223372036854775808) : call Try.prog cfg (k + 1) lo (.func 64) [.vs 1 (intsC l), .fn (.func 65) []] h = some (.bool (l.any (badL 15)), h) := by
  have hI := index_run (k - 1) h lo l (by omega) hl
  rw [show k - 1 + 1 = k by omega] at hI
  have hg := idxL_ge 15 l 0
  cases hc : l.any (badL 15) <;> rw [hc] at hg <;>
  · apply W_call Try.func64 rfl (Nat.le_of_ble_eq_true rfl) rfl
    (repeat' (first | apply W_seq | refine W_true rfl rfl ?_ | refine W_false rfl rfl ?_ | refine W_region (id := 0) rfl ?_ | (refine W_ops (id := 1) ?_ <;> refine T_ch 2 rfl ?_ <;> (refine T_go rfl ?_; refine G_op (O_call rfl rfl rfl rfl (by assumption)) ?_) <;> (refine T_go rfl ?_; first | refine G_true rfl rfl ?_ | refine G_false rfl rfl ?_ | refine G_true rfl (by with_reducible assumption) ?_ | refine G_false rfl (by with_reducible assumption) ?_ | refine G_true rfl (by assumption) ?_ | refine G_false rfl (by assumption) ?_ | refine G_split rfl (fun _ => ?_) (fun _ => ?_)) <;> refine T_ch 1 rfl ?_ <;> apply T_nil) | apply W_skip | apply W_block | apply W_ret | apply W_exit | refine W_true rfl (by assumption) ?_ | refine W_false rfl (by assumption) ?_ | refine W_cond rfl (fun _ => ?_) (fun _ => ?_)))
    exact ⟨.inl rfl, rfl⟩
def rgS (h : Heap) (p : Pr') (m : Int) (l : List Int) (i : Int) (_ : Unit) : St :=
  { env := [(1, .v (.vs 1 (intsC l))), (2, .v (.int .i64 m)), (3, .p 3 0), (7, .v (.int .i64 i))], loc := [(3, prC p)], heap := h, inRound := false, lo := h.length }
def rangeB (p : Pr') (l : List Int) (m : Int) : Bool := !l.any (badL m) && decide (l.length = p.vars.length)
theorem range_run (p : Pr') (m : Int) (l : List Int) (hk : l.length < k) (hl : l.length < 9223372036854775808) : call Try.prog cfg (k + 1) lo (.func 27) [.agg (prC p), .vs 1 (intsC l), .int .i64 m] h = some (.bool (rangeB p l m), h) := by
  obtain ⟨w, vs, body⟩ := p
  apply W_call Try.func27 rfl (Nat.le_of_ble_eq_true rfl) rfl
  (repeat' (first | apply W_seq | refine W_true rfl rfl ?_ | refine W_false rfl rfl ?_ | refine W_region (id := 0) rfl ?_ | refine W_region (id := 1) rfl ?_ | apply W_skip | apply W_block | apply W_ret | apply W_exit | refine W_true rfl (by assumption) ?_ | refine W_false rfl (by assumption) ?_ | refine W_cond rfl (fun _ => ?_) (fun _ => ?_)))
  apply W_iterI (S := rgS h ⟨w, vs, body⟩ m l) (l := l) (a0 := ()) (fun i rest _ => rest.any (badL m) = l.any (badL m)) (by omega) (by omega) rfl rfl
  · intro i n rest a hi hd hil hJ
    have hrow := intsC_get hi
    have hlt := lt_ints hil
    rw [List.any_cons] at hJ
    have hbd : badL m n = (decide (n < 0) || decide (n > m)) := rfl
    (repeat' (first | apply W_seq | refine W_true rfl rfl ?_ | refine W_false rfl rfl ?_ | (refine W_ops (id := 2) ?_ <;> refine T_ch 3 rfl ?_ <;> (refine T_go rfl ?_; first | refine G_true rfl rfl ?_ | refine G_false rfl rfl ?_ | refine G_true rfl (by with_reducible assumption) ?_ | refine G_false rfl (by with_reducible assumption) ?_ | refine G_true rfl (by assumption) ?_ | refine G_false rfl (by assumption) ?_ | refine G_split rfl (fun _ => ?_) (fun _ => ?_)) <;> apply T_nil) | refine W_region (id := 3) rfl ?_ | (refine W_ops (id := 4) ?_ <;> refine T_ch 2 rfl ?_ <;> (refine T_go rfl ?_; first | refine G_op (O_index rfl rfl rfl rfl rfl (by assumption)) ?_ | refine G_op (O_indexI rfl rfl rfl rfl rfl (by assumption)) ?_ | refine G_op (O_indexH rfl rfl rfl rfl rfl (by assumption) (by assumption) (by assumption)) ?_ | refine G_op rfl ?_) <;> (refine T_go rfl ?_; first | refine G_op rfl ?_ | refine G_op (O_loadS rfl rfl rfl rfl (by assumption) rfl rfl) ?_ | refine G_op (O_loadH rfl rfl rfl (by assumption) rfl rfl) ?_) <;> (refine T_go rfl ?_; first | refine G_true rfl rfl ?_ | refine G_false rfl rfl ?_ | refine G_true rfl (by with_reducible assumption) ?_ | refine G_false rfl (by with_reducible assumption) ?_ | refine G_true rfl (by assumption) ?_ | refine G_false rfl (by assumption) ?_ | refine G_split rfl (fun _ => ?_) (fun _ => ?_)) <;> refine T_ch 3 rfl ?_ <;> (first | refine T_skip rfl ?_ | (refine T_go rfl ?_; first | refine G_op (O_index rfl rfl rfl rfl rfl (by assumption)) ?_ | refine G_op (O_indexI rfl rfl rfl rfl rfl (by assumption)) ?_ | refine G_op (O_indexH rfl rfl rfl rfl rfl (by assumption) (by assumption) (by assumption)) ?_ | refine G_op rfl ?_)) <;> (first | refine T_skip rfl ?_ | (refine T_go rfl ?_; first | refine G_op rfl ?_ | refine G_op (O_loadS rfl rfl rfl rfl (by assumption) rfl rfl) ?_ | refine G_op (O_loadH rfl rfl rfl (by assumption) rfl rfl) ?_)) <;> refine T_ch 1 rfl ?_ <;> (first | refine T_skip rfl ?_ | (refine T_go rfl ?_; first | refine G_true rfl rfl ?_ | refine G_false rfl rfl ?_ | refine G_true rfl (by with_reducible assumption) ?_ | refine G_false rfl (by with_reducible assumption) ?_ | refine G_true rfl (by assumption) ?_ | refine G_false rfl (by assumption) ?_ | refine G_split rfl (fun _ => ?_) (fun _ => ?_))) <;> refine T_ch 1 rfl ?_ <;> apply T_nil) | refine W_region (id := 5) rfl ?_ | apply W_skip | apply W_block | apply W_ret | apply W_exit | refine W_true rfl (by assumption) ?_ | refine W_false rfl (by assumption) ?_ | refine W_cond rfl (fun _ => ?_) (fun _ => ?_)))
    · rename_i hc
      rw [hbd, hc] at hJ
      exact ⟨.inl rfl, by unfold rangeB; rw [← hJ]; rfl⟩
    · rename_i hc hc2
      rw [hbd, hc, hc2] at hJ
      exact ⟨.inl rfl, by unfold rangeB; rw [← hJ]; rfl⟩
    · rename_i hc hc2
      rw [hbd, hc, hc2] at hJ
      exact ⟨(), rfl, by rw [← hJ]; rfl⟩
  · intro a hJ
    have hlt := ge_ints (l := l)
    have hr : rangeB ⟨w, vs, body⟩ l m = decide ((intsC l).length = (vsC vs).length) := by
      unfold rangeB
      rw [← hJ, intsC_len, vsC_len]; rfl
    rw [hr]
    (repeat' (first | apply W_seq | refine W_true rfl rfl ?_ | refine W_false rfl rfl ?_ | (refine W_ops (id := 2) ?_ <;> refine T_ch 3 rfl ?_ <;> (refine T_go rfl ?_; first | refine G_true rfl rfl ?_ | refine G_false rfl rfl ?_ | refine G_true rfl (by with_reducible assumption) ?_ | refine G_false rfl (by with_reducible assumption) ?_ | refine G_true rfl (by assumption) ?_ | refine G_false rfl (by assumption) ?_ | refine G_split rfl (fun _ => ?_) (fun _ => ?_)) <;> apply T_nil) | (refine W_ops (id := 6) ?_ <;> refine T_ch 5 rfl ?_ <;> (refine T_go rfl ?_; first | refine G_true rfl rfl ?_ | refine G_false rfl rfl ?_ | refine G_true rfl (by with_reducible assumption) ?_ | refine G_false rfl (by with_reducible assumption) ?_ | refine G_true rfl (by assumption) ?_ | refine G_false rfl (by assumption) ?_ | refine G_split rfl (fun _ => ?_) (fun _ => ?_)) <;> refine T_ch 1 rfl ?_ <;> apply T_nil) | apply W_skip | apply W_block | apply W_ret | apply W_exit | refine W_true rfl (by assumption) ?_ | refine W_false rfl (by assumption) ?_ | refine W_cond rfl (fun _ => ?_) (fun _ => ?_)))
    · rename_i he
      exact ⟨.inl rfl, Eq.trans (b := some (AV.bool true, h)) rfl (by rw [decide_eq_true (by simp at he; rw [vsC_len]; omega)])⟩
    · rename_i he
      exact ⟨.inl rfl, Eq.trans (b := some (AV.bool false, h)) rfl (by rw [decide_eq_false (by simp at he; rw [vsC_len]; omega)])⟩
theorem none_run : call Try.prog cfg (k + 1) lo (.func 28) [.agg [.int .i64 0, .nils, .nils]] h = some (.bool true, h) := by
  apply W_call Try.func28 rfl (Nat.le_of_ble_eq_true rfl) rfl
  (repeat' (first | apply W_seq | refine W_true rfl rfl ?_ | refine W_false rfl rfl ?_ | refine W_region (id := 0) rfl ?_ | (refine W_ops (id := 1) ?_ <;> refine T_ch 2 rfl ?_ <;> (refine T_go rfl ?_; first | refine G_true rfl rfl ?_ | refine G_false rfl rfl ?_ | refine G_true rfl (by with_reducible assumption) ?_ | refine G_false rfl (by with_reducible assumption) ?_ | refine G_true rfl (by assumption) ?_ | refine G_false rfl (by assumption) ?_ | refine G_split rfl (fun _ => ?_) (fun _ => ?_)) <;> refine T_ch 4 rfl ?_ <;> (first | refine T_skip rfl ?_ | (refine T_go rfl ?_; first | refine G_true rfl rfl ?_ | refine G_false rfl rfl ?_ | refine G_true rfl (by with_reducible assumption) ?_ | refine G_false rfl (by with_reducible assumption) ?_ | refine G_true rfl (by assumption) ?_ | refine G_false rfl (by assumption) ?_ | refine G_split rfl (fun _ => ?_) (fun _ => ?_))) <;> refine T_ch 5 rfl ?_ <;> (first | refine T_skip rfl ?_ | (refine T_go rfl ?_; first | refine G_true rfl rfl ?_ | refine G_false rfl rfl ?_ | refine G_true rfl (by with_reducible assumption) ?_ | refine G_false rfl (by with_reducible assumption) ?_ | refine G_true rfl (by assumption) ?_ | refine G_false rfl (by assumption) ?_ | refine G_split rfl (fun _ => ?_) (fun _ => ?_))) <;> refine T_ch 2 rfl ?_ <;> apply T_nil) | apply W_skip | apply W_block | apply W_ret | apply W_exit | refine W_true rfl (by assumption) ?_ | refine W_false rfl (by assumption) ?_ | refine W_cond rfl (fun _ => ?_) (fun _ => ?_)))
  exact ⟨.inl rfl, rfl⟩

theorem append_sl {tab : Tab} {lo : Nat} {h : Heap} {t e id len : Nat} {ti : TI} {sz0 by_ : Nat} {zr xs : List AV} (ht : Go.Ev.look tab t = some ⟨.slice e, sz0, by_, zr⟩) (he : Go.Ev.look tab e = some ti) (hg : h[id]? = some (.cells e xs)) (hlo : lo ≤ id) (hlen : len * ti.sz = xs.length) (hsz : 0 < ti.sz)
    (more : List (List AV)) (r1 : (len + more.length) * ti.bytes ≤ room) (r2 : len + more.length ≤ room) :
    append tab lo h t (.sl id ti.sz 0 len) (.vs ti.sz more) = some (.sl id ti.sz 0 (len + more.length), h.set id (.cells e (xs ++ more.flatten))) := by
  unfold append
  rw [ht]
  dsimp only
  rw [he]
  dsimp only
  have hrow : rowOf h ti.sz (.vs ti.sz more) = some more.flatten := by simp [rowOf]
  rw [hrow]
  simp only [lenOf]
  rw [hg]
  dsimp only
  rw [if_pos ⟨hlo, by trivial, by trivial, by trivial, hlen, hsz, r1, r2⟩]
theorem vsC_row (l : List Vr') : ∀ r, r ∈ vsC l → r.length = 3 ∧ ∀ x, x ∈ r → static x = true := by
  intro r hr
  obtain ⟨v, _, rfl⟩ := List.mem_map.1 hr
  refine ⟨rfl, fun x hx => ?_⟩
  simp only [vrC, List.mem_cons, List.not_mem_nil, or_false] at hx
  rcases hx with rfl | rfl | rfl <;> rfl
theorem clone_run (vs : List Vr') (hne : vs ≠ []) (hl : vs.length < 1000) (hlo : lo ≤ h.length) :
    call Try.prog cfg (k + 1) lo (.func 66) [.vs 3 (vsC vs)] h = some (.sl h.length 3 0 vs.length, h ++ [.cells 76 (vsC vs).flatten]) := by
  have hap := append_sl (tab := cfg.tab) (lo := lo) (h := h ++ [.cells 76 []]) (t := 22) (e := 76) (id := h.length) (len := 0) (xs := []) rfl rfl (by simp) hlo (by simp) (by decide) (vsC vs)
    (by rw [vsC_len]; simp only [room]; show (0 + vs.length) * 32 ≤ _; omega) (by rw [vsC_len]; simp only [room]; omega)
  have e1 : (h ++ [HObj.cells 76 []]).set h.length (.cells 76 ([] ++ (vsC vs).flatten)) = h ++ [.cells 76 (vsC vs).flatten] := by simp
  rw [e1, vsC_len, Nat.zero_add] at hap
  cases vs with
  | nil => exact absurd rfl hne
  | cons v vs =>
    apply W_call Try.func66 rfl (Nat.le_of_ble_eq_true rfl) rfl
    (repeat' (first | apply W_seq | refine W_true rfl rfl ?_ | refine W_false rfl rfl ?_ | refine W_region (id := 0) rfl ?_ | (refine W_ops (id := 1) ?_ <;> refine T_ch 1 rfl ?_ <;> (refine T_go rfl ?_; first | refine G_true rfl rfl ?_ | refine G_false rfl rfl ?_ | refine G_true rfl (by with_reducible assumption) ?_ | refine G_false rfl (by with_reducible assumption) ?_ | refine G_true rfl (by assumption) ?_ | refine G_false rfl (by assumption) ?_ | refine G_split rfl (fun _ => ?_) (fun _ => ?_)) <;> apply T_nil) | refine W_region (id := 2) rfl ?_ | (refine W_ops (id := 3) ?_ <;> refine T_ch 2 rfl ?_ <;> (refine T_go rfl ?_; first | refine G_op (O_append rfl rfl rfl rfl rfl (by assumption)) ?_ | refine G_op rfl ?_) <;> refine T_ch 1 rfl ?_ <;> apply T_nil) | apply W_skip | apply W_block | apply W_ret | apply W_exit | refine W_true rfl (by assumption) ?_ | refine W_false rfl (by assumption) ?_ | refine W_cond rfl (fun _ => ?_) (fun _ => ?_)))
    exact ⟨.inl rfl, rfl⟩
end Go.Proofs.Ytelobnllkhnpaaa.L
/- level.Relabel. -/
open Go Go.Proofs Go.Ev Go.Proofs.Ytelobnllkhnpaaa.E
namespace Go.Proofs.Ytelobnllkhnpaaa.L
set_option linter.unusedVariables false
set_option linter.unusedSimpArgs false
set_option maxRecDepth 100000

theorem chkI_cases (p : Pr') : chkI p = 0 ∨ chkI p = 1 ∨ chkI p = 30 := by
  unfold chkI
  split
  · split <;> simp
  · simp
def relV (vs : List Vr') (l : List Int) : List Vr' := List.zipWith (fun v n => { v with level := n }) vs l
theorem relV_len {vs : List Vr'} {l : List Int} (h : l.length = vs.length) : (relV vs l).length = vs.length := by simp [relV, h]
def relP (p : Pr') (l : List Int) : Pr' := { p with vars := relV p.vars l }
/-- One more variable has its level. -/
theorem rel_step {vs a : List Vr'} {l : List Int} {i : Nat} {v : Vr'} {n : Int} (hv : vs[i]? = some v) (hn : l[i]? = some n) (hJ : a = (relV vs l).take i ++ vs.drop i) :
    a[i]? = some v ∧ a.set i { v with level := n } = (relV vs l).take (i + 1) ++ vs.drop (i + 1) := by
  have hiv : i < vs.length := by
    rcases Nat.lt_or_ge i vs.length with h | h
    · exact h
    · rw [List.getElem?_eq_none h] at hv; cases hv
  have hil : i < l.length := by
    rcases Nat.lt_or_ge i l.length with h | h
    · exact h
    · rw [List.getElem?_eq_none h] at hn; cases hn
  have hrel : (relV vs l)[i]? = some { v with level := n } := by
    unfold relV
    rw [List.getElem?_zipWith, hv, hn]
  have hlen : ((relV vs l).take i).length = i := by
    rw [List.length_take]; simp [relV]; omega
  have hd : vs.drop i = v :: vs.drop (i + 1) := by
    rw [List.drop_eq_getElem_cons hiv]
    rw [List.getElem?_eq_getElem hiv] at hv
    injection hv with hv; rw [hv]
  subst hJ
  constructor
  · rw [List.getElem?_append_right (by omega), hlen, Nat.sub_self, hd]; rfl
  · rw [List.set_append_right _ _ (by omega), hlen, Nat.sub_self, hd, List.set_cons_zero, take_succ_of hrel, List.append_assoc]; rfl
theorem vsC_flat (vs : List Vr') : (vsC vs).flatten.length = vs.length * 3 := by rw [flat_len (sz := 3) _ (fun r hr => (vsC_row vs r hr).1), vsC_len]
theorem vs_set {a : List Vr'} {i : Nat} {v : Vr'} (n : Int) (h : a[i]? = some v) : setCells (vsC a).flatten (0 + i * 3 + 1) [.int .i64 n] = (vsC (a.set i { v with level := n })).flatten := by
  have := setCells_flat (sz := 3) (off := 1) (ys := [.int .i64 n]) (vsC a) i (vrC v) (fun r hr => (vsC_row a r hr).1) (vsC_get h) (by simp)
  rw [Nat.zero_add, this]
  unfold vsC
  rw [List.map_set]
  rfl
def hR (h : Heap) (w : Int) (b : List Sm') (n : Nat) (a : List Vr') : Heap := (h ++ [HObj.cells 76 (vsC a).flatten]) ++ [HObj.cells 25 [.int .i64 w, .sl h.length 3 0 n, .vs 5 (smsC b)]]
theorem hR_frz (h : Heap) (w : Int) (b : List Sm') (a : List Vr') : frz1 (hR h w b a.length a) h.length (.sl h.length 3 0 a.length) = some (.vs 3 (vsC a)) := by
  unfold frz1
  dsimp only
  have hg : (hR h w b a.length a)[h.length]? = some (.cells 76 (vsC a).flatten) := by simp [hR]
  rw [hg]
  dsimp only
  have hst : (vsC a).flatten.all static = true := by
    rw [List.all_eq_true]
    intro x hx
    obtain ⟨q, h1, h2⟩ := List.mem_flatten.1 hx
    exact (vsC_row a q h1).2 x h2
  rw [if_pos ⟨Nat.le_refl _, by rw [vsC_flat]; omega, hst⟩, List.drop_zero]
  have := chunks_flat (sz := 3) (vsC a) (fun r hr => (vsC_row a r hr).1)
  rw [vsC_len] at this
  rw [this]
def rlS (h : Heap) (l : List Int) (q n : Nat) (i : Int) (H : Heap) : St :=
  { env := [(1, .v (.vs 1 (intsC l))), (4, .p 4 0), (7, .v (.hp q 3 0)), (37, .v (.int .i64 n)), (38, .v (.int .i64 i))], loc := [(4, [.int .i64 0, .nils, .nils])], heap := H, inRound := false, lo := h.length }
theorem relabel_fin (h : Heap) (w : Int) (b : List Sm') (a : List Vr') : hand true h (.tup [.agg [.int .i64 w, .sl h.length 3 0 a.length, .vs 5 (smsC b)], .int .i64 0]) (hR h w b a.length a) = some (.tup [.agg (prC ⟨w, a, b⟩), .int .i64 0], h) := by
  have h1 := hR_frz h w b a
  have hi : ∀ (z : Int), frz1 (hR h w b a.length a) h.length (.int .i64 z) = some (.int .i64 z) := fun _ => rfl
  have hv : frz1 (hR h w b a.length a) h.length (.vs 5 (smsC b)) = some (.vs 5 (smsC b)) := rfl
  unfold hand
  rw [if_pos rfl]
  simp only [frz, frzM, frz2, frzL, hi, h1, hv]
  rfl
def relabF (p : Pr') (l : List Int) : AV × Int :=
  if chkI p = 0 then (if rangeB p l 15 = true then (.agg (prC (relP p l)), 0) else (.agg [.int .i64 0, .nils, .nils], 1)) else (.agg [.int .i64 0, .nils, .nils], chkI p)
set_option maxHeartbeats 2000000 in
theorem relabel_run (p : Pr') (l : List Int) (k : Nat) (hk : smsK p.body + p.vars.length + l.length + 100 ≤ k) (hK : smsK p.body ≤ 1000000) (hv : chkI p = 0 → p.vars ≠ [] ∧ p.vars.length < 1000) (hl : l.length < 9223372036854775808) (hb : prB p) (h : Heap) (lo : Nat) :
    call Try.prog cfg (k + 1) lo (.func 26) [.agg (prC p), .vs 1 (intsC l)] h = some (.tup [(relabF p l).1, .int .i64 (relabF p l).2], h) := by
  have hC := levcheck_run p (k - 1) (by omega) hb h h.length
  rw [show k - 1 + 1 = k by omega] at hC
  unfold relabF
  rcases chkI_cases p with hc | hc | hc
  · rw [hc] at hC ⊢
    rw [if_pos rfl]
    obtain ⟨hne, hvl⟩ := hv hc
    by_cases hll : l.length = p.vars.length
    · have hF := contains_run (k - 1) h h.length l (by omega) hl
      rw [show k - 1 + 1 = k by omega] at hF
      have hrb : rangeB p l 15 = !l.any (badL 15) := by unfold rangeB; rw [decide_eq_true hll]; simp
      rw [hrb]
      have hln : (((intsC l).length : Int) != ((vsC p.vars).length : Int)) = false := by rw [intsC_len, vsC_len, hll]; simp
      cases ha : l.any (badL 15)
      · rw [ha] at hF
        have hcl := clone_run (k - 1) h h.length p.vars hne hvl (Nat.le_refl _)
        rw [show k - 1 + 1 = k by omega] at hcl
        have hcp := copied_run k p.body (by omega) hK (h ++ [.cells 76 (vsC p.vars).flatten]) (h ++ [HObj.cells 76 (vsC p.vars).flatten]).length
        have hfin := relabel_fin h p.width p.body (relV p.vars l)
        rw [relV_len hll] at hfin
        obtain ⟨w, vs, body⟩ := p
        dsimp only at *
        rw [if_pos (by rfl)]
        have g1 : ((h ++ [HObj.cells 76 (vsC vs).flatten]) ++ [HObj.cells 25 [.int .i64 0, .nils, .nils]])[(h ++ [HObj.cells 76 (vsC vs).flatten]).length]? = some (.cells 25 [.int .i64 0, .nils, .nils]) := by simp
        have g2 : h.length ≤ (h ++ [HObj.cells 76 (vsC vs).flatten]).length := by simp
        have g3 : (h ++ [HObj.cells 76 (vsC vs).flatten]).length < ((h ++ [HObj.cells 76 (vsC vs).flatten]) ++ [HObj.cells 25 [.int .i64 0, .nils, .nils]]).length := by simp
        have hgp : ∀ a, (hR h w body vs.length a)[(h ++ [HObj.cells 76 (vsC vs).flatten]).length]? = some (.cells 25 [.int .i64 w, .sl h.length 3 0 vs.length, .vs 5 (smsC body)]) := fun a => by simp [hR]
        apply W_call Try.func26 rfl (Nat.le_of_ble_eq_true rfl) rfl
        (repeat' (first | apply W_seq | refine W_true rfl rfl ?_ | refine W_false rfl rfl ?_ | refine W_region (id := 0) rfl ?_ | (refine W_ops (id := 1) ?_ <;> refine T_ch 1 rfl ?_ <;> (refine T_go rfl ?_; refine G_op (O_call rfl rfl rfl rfl (by assumption)) ?_) <;> refine T_ch 1 rfl ?_ <;> apply T_nil) | (refine W_ops (id := 2) ?_ <;> refine T_ch 1 rfl ?_ <;> (refine T_go rfl ?_; first | refine G_true rfl rfl ?_ | refine G_false rfl rfl ?_ | refine G_true rfl (by with_reducible assumption) ?_ | refine G_false rfl (by with_reducible assumption) ?_ | refine G_true rfl (by assumption) ?_ | refine G_false rfl (by assumption) ?_ | refine G_split rfl (fun _ => ?_) (fun _ => ?_)) <;> apply T_nil) | refine W_region (id := 3) rfl ?_ | (refine W_ops (id := 4) ?_ <;> refine T_ch 5 rfl ?_ <;> (refine T_go rfl ?_; first | refine G_true rfl rfl ?_ | refine G_false rfl rfl ?_ | refine G_true rfl (by with_reducible assumption) ?_ | refine G_false rfl (by with_reducible assumption) ?_ | refine G_true rfl (by assumption) ?_ | refine G_false rfl (by assumption) ?_ | refine G_split rfl (fun _ => ?_) (fun _ => ?_)) <;> refine T_ch 2 rfl ?_ <;> (first | refine T_skip rfl ?_ | (refine T_go rfl ?_; first | refine G_true (O_call rfl rfl rfl rfl (by assumption)) rfl ?_ | refine G_false (O_call rfl rfl rfl rfl (by assumption)) rfl ?_ | refine G_true (O_call rfl rfl rfl rfl (by assumption)) (by with_reducible assumption) ?_ | refine G_false (O_call rfl rfl rfl rfl (by assumption)) (by with_reducible assumption) ?_ | refine G_true (O_call rfl rfl rfl rfl (by assumption)) (by assumption) ?_ | refine G_false (O_call rfl rfl rfl rfl (by assumption)) (by assumption) ?_ | refine G_split (O_call rfl rfl rfl rfl (by assumption)) (fun _ => ?_) (fun _ => ?_))) <;> refine T_ch 1 rfl ?_ <;> apply T_nil) | refine W_region (id := 5) rfl ?_ | (refine W_dops (id := 6) (bs := [0, 1, 0, 4, 12, 0, 32, 124, 255, 0, 1023]) (by decide +kernel) ?_ <;> (refine U_go rfl ?_; refine H_free (by decide +kernel) rfl rfl rfl rfl rfl ?_) <;> (refine U_go rfl ?_; refine H_free (by decide +kernel) rfl rfl rfl rfl rfl ?_) <;> (refine U_go rfl ?_; refine H_free (by decide +kernel) rfl rfl rfl rfl rfl ?_) <;> (refine U_go rfl ?_; refine H_free (by decide +kernel) rfl rfl rfl rfl rfl ?_) <;> (refine U_go rfl ?_; first | refine H_free (by decide +kernel) rfl (O_call rfl rfl rfl rfl (by assumption)) rfl rfl rfl ?_ | refine H_make (by decide +kernel) rfl (O_call rfl rfl rfl rfl (by assumption)) rfl rfl rfl ?_) <;> (refine U_go rfl ?_; refine H_free (by decide +kernel) rfl rfl rfl rfl rfl ?_) <;> (refine U_go rfl ?_; refine H_free (by decide +kernel) rfl rfl rfl rfl rfl ?_) <;> (refine U_go rfl ?_; first | refine H_free (by decide +kernel) rfl (O_call rfl rfl rfl rfl (by assumption)) rfl rfl rfl ?_ | refine H_make (by decide +kernel) rfl (O_call rfl rfl rfl rfl (by assumption)) rfl rfl rfl ?_) <;> (refine U_go rfl ?_; refine H_free (by decide +kernel) rfl rfl rfl rfl rfl ?_) <;> (refine U_go rfl ?_; first | refine H_free (by decide +kernel) rfl rfl rfl rfl rfl ?_ | refine H_make (by decide +kernel) rfl rfl rfl rfl rfl ?_) <;> (refine U_go rfl ?_; first | refine H_op (by decide +kernel) (O_storeS rfl rfl rfl rfl rfl (by assumption) (by assumption) ⟨rfl, rfl, Nat.le_of_ble_eq_true rfl⟩ rfl) ?_ | refine H_op (by decide +kernel) rfl ?_ | refine H_op (by decide +kernel) (O_storeH rfl rfl rfl rfl (by assumption) ⟨by assumption, rfl, rfl, Nat.le_of_ble_eq_true rfl⟩) ?_ | refine H_op (by decide +kernel) (O_storeH rfl rfl rfl rfl (by assumption) (by assumption)) ?_) <;> apply U_nil) | (refine W_ops (id := 7) ?_ <;> refine T_ch 1 rfl ?_ <;> (refine T_go rfl ?_; first | refine G_op (O_loadS rfl rfl rfl rfl (by assumption) rfl rfl) ?_ | refine G_op rfl ?_ | refine G_op (O_loadH rfl rfl rfl (by assumption) rfl rfl) ?_) <;> refine T_ch 2 rfl ?_ <;> apply T_nil) | apply W_skip | apply W_block | apply W_ret | apply W_exit | refine W_true rfl (by assumption) ?_ | refine W_false rfl (by assumption) ?_ | refine W_cond rfl (fun _ => ?_) (fun _ => ?_)))
        apply W_iterI (S := rlS h l (h ++ [HObj.cells 76 (vsC vs).flatten]).length vs.length) (l := vs)
          (a0 := ((h ++ [HObj.cells 76 (vsC vs).flatten]) ++ [HObj.cells 25 [.int .i64 0, .nils, .nils]]).set (h ++ [HObj.cells 76 (vsC vs).flatten]).length (.cells 25 [.int .i64 w, .sl h.length 3 0 vs.length, .vs 5 (smsC body)]))
          (fun i rest H => ∃ a, a = (relV vs l).take i ++ vs.drop i ∧ H = hR h w body vs.length a) (by omega) (by omega) rfl ⟨vs, by simp, by simp [hR]⟩
        · intro i v rest H hi hd hil hJ
          obtain ⟨a, ha', rfl⟩ := hJ
          obtain ⟨n, hn⟩ : ∃ n, l[i]? = some n := ⟨l[i]'(by omega), List.getElem?_eq_getElem _⟩
          obtain ⟨hai, hset⟩ := rel_step hi hn ha'
          have hal : a.length = vs.length := by rw [ha', List.length_append, List.length_take, List.length_drop, relV_len hll]; omega
          have hrow := intsC_get hn
          have hlt : decide ((i : Int) < (vs.length : Int)) = true := decide_eq_true (by omega)
          have hgp' := hgp a
          have hgv : (hR h w body vs.length a)[h.length]? = some (.cells 76 (vsC a).flatten) := by simp [hR]
          have hvl' : 0 + vs.length * 3 = (vsC a).flatten.length := by rw [vsC_flat, hal]; omega
          have hst : h.length ≤ h.length ∧ (vsC a).flatten.length = (vsC a).flatten.length ∧ [AV.int .i64 n].length = 1 ∧ 0 + i * 3 + 1 + 1 ≤ (vsC a).flatten.length := ⟨Nat.le_refl _, rfl, rfl, by rw [← hvl']; omega⟩
          have hheap : (hR h w body vs.length a).set h.length (.cells 76 (setCells (vsC a).flatten (0 + i * 3 + 1) [.int .i64 n])) = hR h w body vs.length (a.set i { v with level := n }) := by rw [vs_set n hai]; simp [hR]
          (repeat' (first | apply W_seq | refine W_true rfl rfl ?_ | refine W_false rfl rfl ?_ | (refine W_ops (id := 8) ?_ <;> (refine T_go rfl ?_; first | refine G_true rfl rfl ?_ | refine G_false rfl rfl ?_ | refine G_true rfl (by with_reducible assumption) ?_ | refine G_false rfl (by with_reducible assumption) ?_ | refine G_true rfl (by assumption) ?_ | refine G_false rfl (by assumption) ?_ | refine G_split rfl (fun _ => ?_) (fun _ => ?_)) <;> apply T_nil) | refine W_region (id := 9) rfl ?_ | (refine W_dops (id := 10) (bs := [0, 1, 0, 0, 0, 24, 56, 127, 255, 511]) (by decide +kernel) ?_ <;> (refine U_go rfl ?_; refine H_free (by decide +kernel) rfl rfl rfl rfl rfl ?_) <;> (refine U_go rfl ?_; first | refine H_free (by decide +kernel) rfl (O_loadS rfl rfl rfl rfl (by assumption) rfl rfl) rfl rfl rfl ?_ | refine H_free (by decide +kernel) rfl rfl rfl rfl rfl ?_ | refine H_free (by decide +kernel) rfl (O_loadH rfl rfl rfl (by assumption) rfl rfl) rfl rfl rfl ?_) <;> (refine U_go rfl ?_; refine H_free (by decide +kernel) rfl rfl rfl rfl rfl ?_) <;> (refine U_go rfl ?_; refine H_free (by decide +kernel) rfl rfl rfl rfl rfl ?_) <;> (refine U_go rfl ?_; refine H_free (by decide +kernel) rfl rfl rfl rfl rfl ?_) <;> (refine U_go rfl ?_; first | refine H_free (by decide +kernel) rfl (O_index rfl rfl rfl rfl rfl (by assumption)) rfl rfl rfl ?_ | refine H_free (by decide +kernel) rfl (O_indexI rfl rfl rfl rfl rfl (by assumption)) rfl rfl rfl ?_ | refine H_free (by decide +kernel) rfl (O_indexH rfl rfl rfl rfl rfl (by assumption) (by assumption) (by assumption)) rfl rfl rfl ?_ | refine H_free (by decide +kernel) rfl rfl rfl rfl rfl ?_) <;> (refine U_go rfl ?_; first | refine H_free (by decide +kernel) rfl rfl rfl rfl rfl ?_ | refine H_free (by decide +kernel) rfl (O_loadS rfl rfl rfl rfl (by assumption) rfl rfl) rfl rfl rfl ?_ | refine H_free (by decide +kernel) rfl (O_loadH rfl rfl rfl (by assumption) rfl rfl) rfl rfl rfl ?_) <;> (refine U_go rfl ?_; first | refine H_op (by decide +kernel) (O_index rfl rfl rfl rfl rfl (by assumption)) ?_ | refine H_op (by decide +kernel) (O_indexI rfl rfl rfl rfl rfl (by assumption)) ?_ | refine H_op (by decide +kernel) (O_indexH rfl rfl rfl rfl rfl (by assumption) (by assumption) (by assumption)) ?_ | refine H_op (by decide +kernel) rfl ?_) <;> (refine U_go rfl ?_; refine H_op (by decide +kernel) rfl ?_) <;> (refine U_go rfl ?_; first | refine H_op (by decide +kernel) (O_storeS rfl rfl rfl rfl rfl (by assumption) (by assumption) ⟨rfl, rfl, Nat.le_of_ble_eq_true rfl⟩ rfl) ?_ | refine H_op (by decide +kernel) rfl ?_ | refine H_op (by decide +kernel) (O_storeH rfl rfl rfl rfl (by assumption) ⟨by assumption, rfl, rfl, Nat.le_of_ble_eq_true rfl⟩) ?_ | refine H_op (by decide +kernel) (O_storeH rfl rfl rfl rfl (by assumption) (by assumption)) ?_) <;> apply U_nil) | refine W_region (id := 11) rfl ?_ | apply W_skip | apply W_block | apply W_ret | apply W_exit | refine W_true rfl (by assumption) ?_ | refine W_false rfl (by assumption) ?_ | refine W_cond rfl (fun _ => ?_) (fun _ => ?_)))
          exact ⟨_, rfl, _, hset, hheap⟩
        · intro H hJ
          obtain ⟨a, ha', rfl⟩ := hJ
          have : a = relV vs l := by rw [ha', List.drop_length, List.append_nil, List.take_of_length_le (by rw [relV_len hll]; omega)]
          subst this
          have hlt : decide ((vs.length : Int) < (vs.length : Int)) = false := decide_eq_false (by omega)
          have hgp' := hgp (relV vs l)
          (repeat' (first | apply W_seq | refine W_true rfl rfl ?_ | refine W_false rfl rfl ?_ | (refine W_ops (id := 8) ?_ <;> (refine T_go rfl ?_; first | refine G_true rfl rfl ?_ | refine G_false rfl rfl ?_ | refine G_true rfl (by with_reducible assumption) ?_ | refine G_false rfl (by with_reducible assumption) ?_ | refine G_true rfl (by assumption) ?_ | refine G_false rfl (by assumption) ?_ | refine G_split rfl (fun _ => ?_) (fun _ => ?_)) <;> apply T_nil) | (refine W_ops (id := 12) ?_ <;> (refine T_go rfl ?_; first | refine G_op (O_loadS rfl rfl rfl rfl (by assumption) rfl rfl) ?_ | refine G_op rfl ?_ | refine G_op (O_loadH rfl rfl rfl (by assumption) rfl rfl) ?_) <;> refine T_ch 2 rfl ?_ <;> apply T_nil) | apply W_skip | apply W_block | apply W_ret | apply W_exit | refine W_true rfl (by assumption) ?_ | refine W_false rfl (by assumption) ?_ | refine W_cond rfl (fun _ => ?_) (fun _ => ?_)))
          exact ⟨.inl rfl, hfin⟩
      · rw [ha] at hF
        obtain ⟨w, vs, body⟩ := p
        dsimp only at *
        rw [if_neg (by simp)]
        apply W_call Try.func26 rfl (Nat.le_of_ble_eq_true rfl) rfl
        (repeat' (first | apply W_seq | refine W_true rfl rfl ?_ | refine W_false rfl rfl ?_ | refine W_region (id := 0) rfl ?_ | (refine W_ops (id := 1) ?_ <;> refine T_ch 1 rfl ?_ <;> (refine T_go rfl ?_; refine G_op (O_call rfl rfl rfl rfl (by assumption)) ?_) <;> refine T_ch 1 rfl ?_ <;> apply T_nil) | (refine W_ops (id := 2) ?_ <;> refine T_ch 1 rfl ?_ <;> (refine T_go rfl ?_; first | refine G_true rfl rfl ?_ | refine G_false rfl rfl ?_ | refine G_true rfl (by with_reducible assumption) ?_ | refine G_false rfl (by with_reducible assumption) ?_ | refine G_true rfl (by assumption) ?_ | refine G_false rfl (by assumption) ?_ | refine G_split rfl (fun _ => ?_) (fun _ => ?_)) <;> apply T_nil) | refine W_region (id := 3) rfl ?_ | (refine W_ops (id := 4) ?_ <;> refine T_ch 5 rfl ?_ <;> (refine T_go rfl ?_; first | refine G_true rfl rfl ?_ | refine G_false rfl rfl ?_ | refine G_true rfl (by with_reducible assumption) ?_ | refine G_false rfl (by with_reducible assumption) ?_ | refine G_true rfl (by assumption) ?_ | refine G_false rfl (by assumption) ?_ | refine G_split rfl (fun _ => ?_) (fun _ => ?_)) <;> refine T_ch 2 rfl ?_ <;> (first | refine T_skip rfl ?_ | (refine T_go rfl ?_; first | refine G_true (O_call rfl rfl rfl rfl (by assumption)) rfl ?_ | refine G_false (O_call rfl rfl rfl rfl (by assumption)) rfl ?_ | refine G_true (O_call rfl rfl rfl rfl (by assumption)) (by with_reducible assumption) ?_ | refine G_false (O_call rfl rfl rfl rfl (by assumption)) (by with_reducible assumption) ?_ | refine G_true (O_call rfl rfl rfl rfl (by assumption)) (by assumption) ?_ | refine G_false (O_call rfl rfl rfl rfl (by assumption)) (by assumption) ?_ | refine G_split (O_call rfl rfl rfl rfl (by assumption)) (fun _ => ?_) (fun _ => ?_))) <;> refine T_ch 1 rfl ?_ <;> apply T_nil) | refine W_region (id := 5) rfl ?_ | apply W_skip | apply W_block | apply W_ret | apply W_exit | refine W_true rfl (by assumption) ?_ | refine W_false rfl (by assumption) ?_ | refine W_cond rfl (fun _ => ?_) (fun _ => ?_)))
        exact ⟨.inl rfl, rfl⟩
    · have hrb : rangeB p l 15 = false := by unfold rangeB; rw [decide_eq_false hll]; simp
      rw [hrb, if_neg (by simp)]
      have hln : (((intsC l).length : Int) != ((vsC p.vars).length : Int)) = true := by rw [intsC_len, vsC_len]; simp; omega
      obtain ⟨w, vs, body⟩ := p
      dsimp only at *
      apply W_call Try.func26 rfl (Nat.le_of_ble_eq_true rfl) rfl
      (repeat' (first | apply W_seq | refine W_true rfl rfl ?_ | refine W_false rfl rfl ?_ | refine W_region (id := 0) rfl ?_ | (refine W_ops (id := 1) ?_ <;> refine T_ch 1 rfl ?_ <;> (refine T_go rfl ?_; refine G_op (O_call rfl rfl rfl rfl (by assumption)) ?_) <;> refine T_ch 1 rfl ?_ <;> apply T_nil) | (refine W_ops (id := 2) ?_ <;> refine T_ch 1 rfl ?_ <;> (refine T_go rfl ?_; first | refine G_true rfl rfl ?_ | refine G_false rfl rfl ?_ | refine G_true rfl (by with_reducible assumption) ?_ | refine G_false rfl (by with_reducible assumption) ?_ | refine G_true rfl (by assumption) ?_ | refine G_false rfl (by assumption) ?_ | refine G_split rfl (fun _ => ?_) (fun _ => ?_)) <;> apply T_nil) | refine W_region (id := 3) rfl ?_ | (refine W_ops (id := 4) ?_ <;> refine T_ch 5 rfl ?_ <;> (refine T_go rfl ?_; first | refine G_true rfl rfl ?_ | refine G_false rfl rfl ?_ | refine G_true rfl (by with_reducible assumption) ?_ | refine G_false rfl (by with_reducible assumption) ?_ | refine G_true rfl (by assumption) ?_ | refine G_false rfl (by assumption) ?_ | refine G_split rfl (fun _ => ?_) (fun _ => ?_)) <;> refine T_ch 2 rfl ?_ <;> (first | refine T_skip rfl ?_ | (refine T_go rfl ?_; first | refine G_true (O_call rfl rfl rfl rfl (by assumption)) rfl ?_ | refine G_false (O_call rfl rfl rfl rfl (by assumption)) rfl ?_ | refine G_true (O_call rfl rfl rfl rfl (by assumption)) (by with_reducible assumption) ?_ | refine G_false (O_call rfl rfl rfl rfl (by assumption)) (by with_reducible assumption) ?_ | refine G_true (O_call rfl rfl rfl rfl (by assumption)) (by assumption) ?_ | refine G_false (O_call rfl rfl rfl rfl (by assumption)) (by assumption) ?_ | refine G_split (O_call rfl rfl rfl rfl (by assumption)) (fun _ => ?_) (fun _ => ?_))) <;> refine T_ch 1 rfl ?_ <;> apply T_nil) | refine W_region (id := 5) rfl ?_ | apply W_skip | apply W_block | apply W_ret | apply W_exit | refine W_true rfl (by assumption) ?_ | refine W_false rfl (by assumption) ?_ | refine W_cond rfl (fun _ => ?_) (fun _ => ?_)))
      exact ⟨.inl rfl, rfl⟩
  · rw [hc] at hC ⊢
    rw [if_neg (by simp)]
    obtain ⟨w, vs, body⟩ := p
    apply W_call Try.func26 rfl (Nat.le_of_ble_eq_true rfl) rfl
    (repeat' (first | apply W_seq | refine W_true rfl rfl ?_ | refine W_false rfl rfl ?_ | refine W_region (id := 0) rfl ?_ | (refine W_ops (id := 1) ?_ <;> refine T_ch 1 rfl ?_ <;> (refine T_go rfl ?_; refine G_op (O_call rfl rfl rfl rfl (by assumption)) ?_) <;> refine T_ch 1 rfl ?_ <;> apply T_nil) | (refine W_ops (id := 2) ?_ <;> refine T_ch 1 rfl ?_ <;> (refine T_go rfl ?_; first | refine G_true rfl rfl ?_ | refine G_false rfl rfl ?_ | refine G_true rfl (by with_reducible assumption) ?_ | refine G_false rfl (by with_reducible assumption) ?_ | refine G_true rfl (by assumption) ?_ | refine G_false rfl (by assumption) ?_ | refine G_split rfl (fun _ => ?_) (fun _ => ?_)) <;> apply T_nil) | refine W_region (id := 3) rfl ?_ | apply W_skip | apply W_block | apply W_ret | apply W_exit | refine W_true rfl (by assumption) ?_ | refine W_false rfl (by assumption) ?_ | refine W_cond rfl (fun _ => ?_) (fun _ => ?_)))
    exact ⟨.inl rfl, rfl⟩
  · rw [hc] at hC ⊢
    rw [if_neg (by simp)]
    obtain ⟨w, vs, body⟩ := p
    apply W_call Try.func26 rfl (Nat.le_of_ble_eq_true rfl) rfl
    (repeat' (first | apply W_seq | refine W_true rfl rfl ?_ | refine W_false rfl rfl ?_ | refine W_region (id := 0) rfl ?_ | (refine W_ops (id := 1) ?_ <;> refine T_ch 1 rfl ?_ <;> (refine T_go rfl ?_; refine G_op (O_call rfl rfl rfl rfl (by assumption)) ?_) <;> refine T_ch 1 rfl ?_ <;> apply T_nil) | (refine W_ops (id := 2) ?_ <;> refine T_ch 1 rfl ?_ <;> (refine T_go rfl ?_; first | refine G_true rfl rfl ?_ | refine G_false rfl rfl ?_ | refine G_true rfl (by with_reducible assumption) ?_ | refine G_false rfl (by with_reducible assumption) ?_ | refine G_true rfl (by assumption) ?_ | refine G_false rfl (by assumption) ?_ | refine G_split rfl (fun _ => ?_) (fun _ => ?_)) <;> apply T_nil) | refine W_region (id := 3) rfl ?_ | apply W_skip | apply W_block | apply W_ret | apply W_exit | refine W_true rfl (by assumption) ?_ | refine W_false rfl (by assumption) ?_ | refine W_cond rfl (fun _ => ?_) (fun _ => ?_)))
    exact ⟨.inl rfl, rfl⟩
end Go.Proofs.Ytelobnllkhnpaaa.L
/- ref03.CopyRows: statements in memory of their own; the objects lie where they come. -/
open Go Go.Proofs Go.Ev Go.Proofs.Ytelobnllkhnpaaa.E
namespace Go.Proofs.Ytelobnllkhnpaaa.L
set_option linter.unusedVariables false
set_option linter.unusedSimpArgs false
set_option maxRecDepth 100000

theorem accA_len {h1 h2 : Heap} (e : h1.length = h2.length) (sz : Nat) (rows : List (List AV)) : accA h1 sz rows = accA h2 sz rows := by
  cases rows with
  | nil => rfl
  | cons r l => simp [accA, e]
/-- The heap while a statement's expressions are copied. -/
def accI (H : Heap) (b : List Ex') : AV := accA (H ++ [HObj.dead]) 4 (exsC b)
def c5 (H : Heap) (op n : Int) (t e : List Sm') (b : List Ex') : HObj := .cells 86 [.int .i64 op, .int .i64 n, accI H b, .vs 5 (smsC t), .vs 5 (smsC e)]
def HI (H : Heap) (op n : Int) (t e : List Sm') (b : List Ex') : Heap := accH (H ++ [c5 H op n t e b]) 28 (exsC b)
theorem HI_get (H : Heap) (op n : Int) (t e : List Sm') (b : List Ex') : (HI H op n t e b)[H.length]? = some (c5 H op n t e b) := by
  unfold HI accH
  split <;> simp
theorem HI_old (H : Heap) (op n : Int) (t e : List Sm') (b : List Ex') {j : Nat} (hj : j < H.length) : (HI H op n t e b)[j]? = H[j]? := by
  unfold HI accH
  split
  · rw [List.getElem?_append_left hj]
  · rw [List.getElem?_append_left (by simp; omega), List.getElem?_append_left hj]
theorem HI_len (H : Heap) (op n : Int) (t e : List Sm') (b : List Ex') : H.length < (HI H op n t e b).length := by
  unfold HI accH
  split <;> simp <;> omega
theorem HI_append (H : Heap) (lo : Nat) (hlo : lo ≤ H.length) (op n : Int) (t e : List Sm') (b : List Ex') (x : Ex') (hl : b.length < 1000000) :
    append cfg.tab lo (HI H op n t e b) 26 (accI H b) (.vs 4 [exC x]) = some (accI H (b ++ [x]), accH (H ++ [c5 H op n t e b]) 28 (exsC (b ++ [x]))) := by
  have := acc_append (tab := cfg.tab) (lo := lo) (h := H ++ [c5 H op n t e b]) (t := 26) (e := 28) rfl rfl (by decide) (by simp; omega) (exsC b) [exC x] (fun r hr => (exsC_row b r hr).1) (by rw [exsC_len]; simp only [List.length_cons, List.length_nil, room]; show (b.length + (0 + 1)) * 48 ≤ _; omega) (by rw [exsC_len]; simp [room]; omega)
  unfold accI HI
  rw [accA_len (h1 := H ++ [HObj.dead]) (h2 := H ++ [c5 H op n t e b]) (by simp), accA_len (h1 := H ++ [HObj.dead]) (h2 := H ++ [c5 H op n t e b]) (by simp)]
  rw [show exsC (b ++ [x]) = exsC b ++ [exC x] by simp [exsC_mp]]
  exact this
theorem HI_set (H : Heap) (op n : Int) (t e : List Sm') (b b' : List Ex') : (accH (H ++ [c5 H op n t e b]) 28 (exsC b')).set H.length (c5 H op n t e b') = HI H op n t e b' := by
  unfold HI accH
  split
  · rename_i hx
    simp
  · rename_i r l hx
    simp [List.set_append]

/-- The copies so far: where they lie. -/
def RX (h H : Heap) (id : Nat) (ar : List Ex') (x : AV) : Prop := (ar = [] ∧ x = .nils) ∨ ∃ jd, x = .sl jd 4 0 ar.length ∧ jd ≠ id ∧ h.length ≤ jd ∧ H[jd]? = some (.cells 28 (exsC ar).flatten)
def RS (h H : Heap) (id : Nat) : Sm' → List AV → Prop
  | .mk op n ar t e, r => ∃ x, r = [.int .i64 op, .int .i64 n, x, .vs 5 (smsC t), .vs 5 (smsC e)] ∧ RX h H id ar x
def GS (h : Heap) (a : List Sm') (v : AV) (H : Heap) : Prop := h.length ≤ H.length ∧ ((a = [] ∧ v = .nils) ∨ ∃ (id : Nat) (rows : List (List AV)), v = .sl id 5 0 a.length ∧ h.length ≤ id ∧ H[id]? = some (.cells 86 rows.flatten) ∧ rows.length = a.length ∧
  ∀ (j : Nat) (s : Sm'), a[j]? = some s → ∃ r, rows[j]? = some r ∧ RS h H id s r)
theorem HI_args (h H : Heap) (hH : h.length ≤ H.length) (op n : Int) (t e : List Sm') (ar : List Ex') (more : Heap) (id : Nat) (hid : id ≠ H.length + 1) : RX h (HI H op n t e ar ++ more) id ar (accI H ar) := by
  cases ar with
  | nil => exact .inl ⟨rfl, rfl⟩
  | cons y ys =>
    refine .inr ⟨H.length + 1, ?_, fun e => hid e.symm, by omega, ?_⟩
    · simp [accI, exsC, accA, exsC_len]
    · simp [HI, exsC, accH]
theorem RX_mono {h H H' : Heap} {id : Nat} {ar : List Ex'} {x : AV} (hx : RX h H id ar x) (hh : ∀ jd T xs, jd ≠ id → H[jd]? = some (.cells T xs) → H'[jd]? = some (.cells T xs)) : RX h H' id ar x := by
  rcases hx with hx | ⟨jd, h1, h2, h3, h4⟩
  · exact .inl hx
  · exact .inr ⟨jd, h1, h2, h3, hh jd _ _ h2 h4⟩
theorem RS_mono {h H H' : Heap} {id : Nat} {s : Sm'} {r : List AV} (hx : RS h H id s r) (hh : ∀ jd T xs, jd ≠ id → H[jd]? = some (.cells T xs) → H'[jd]? = some (.cells T xs)) : RS h H' id s r := by
  obtain ⟨op, n, ar, t, e⟩ := s
  obtain ⟨x, h1, h2⟩ := hx
  exact ⟨x, h1, RX_mono h2 hh⟩
theorem GS_step {h H : Heap} {a : List Sm'} {v : AV} (hG : GS h a v H) (op n : Int) (ar : List Ex') (t e : List Sm') (hl : a.length < 100000) :
    ∃ v' H', append cfg.tab h.length (HI H op n t e ar ++ [.cells 86 [.int .i64 op, .int .i64 n, accI H ar, .vs 5 (smsC t), .vs 5 (smsC e)]]) 23 v (.sl (HI H op n t e ar).length 5 0 1) = some (v', H') ∧ GS h (a ++ [.mk op n ar t e]) v' H' := by
  obtain ⟨g0, hG⟩ := hG
  have hL := HI_len H op n t e ar
  generalize hrow : [AV.int .i64 op, AV.int .i64 n, accI H ar, AV.vs 5 (smsC t), AV.vs 5 (smsC e)] = row
  have hrl : row.length = 5 := by rw [← hrow]; rfl
  have hg : (HI H op n t e ar ++ [HObj.cells 86 row])[(HI H op n t e ar).length]? = some (.cells 86 row) := by simp
  have hro : rowOf (HI H op n t e ar ++ [HObj.cells 86 row]) 5 (.sl (HI H op n t e ar).length 5 0 1) = some row := by
    unfold rowOf
    dsimp only
    rw [hg]
    dsimp only
    rw [if_pos ⟨rfl, by rw [hrl]⟩, List.drop_zero]
  have hlo : lenOf (.sl (HI H op n t e ar).length 5 0 1) = some 1 := rfl
  have hti : ∃ z by_, Go.Ev.look cfg.tab 23 = some ⟨.slice 86, 1, by_, z⟩ := ⟨_, _, rfl⟩
  have hte : ∃ K z, Go.Ev.look cfg.tab 86 = some ⟨K, 5, 88, z⟩ := ⟨_, _, rfl⟩
  obtain ⟨z1, b1, hti⟩ := hti
  obtain ⟨K2, z2, hte⟩ := hte
  unfold append
  rw [hti]
  dsimp only
  rw [hte]
  dsimp only
  rw [hro, hlo]
  dsimp only
  rcases hG with ⟨ha, hv⟩ | ⟨id, rows, hv, hid, hcell, hrl2, hrs⟩
  · subst ha hv
    dsimp only
    rw [if_neg (by decide), if_pos ⟨by decide, by decide, by decide⟩]
    refine ⟨_, _, rfl, by simp; omega, .inr ⟨(HI H op n t e ar ++ [HObj.cells 86 row]).length, [row], rfl, by simp; omega, by simp, rfl, fun j s hj => ?_⟩⟩
    cases j with
    | succ j => simp at hj
    | zero =>
      simp at hj; subst hj
      refine ⟨row, rfl, accI H ar, hrow.symm, ?_⟩
      rw [List.append_assoc]
      exact HI_args h H g0 op n t e ar _ _ (by simp; omega)
  · subst hv
    have hidl : id < H.length := by
      rcases Nat.lt_or_ge id H.length with h' | h'
      · exact h'
      · rw [List.getElem?_eq_none h'] at hcell; cases hcell
    have hc2 : (HI H op n t e ar ++ [HObj.cells 86 row])[id]? = some (.cells 86 rows.flatten) := by
      rw [List.getElem?_append_left (by omega), HI_old _ _ _ _ _ _ hidl]; exact hcell
    have hr5 : ∀ r, r ∈ rows → r.length = 5 := fun r hr => by
      obtain ⟨j, hj⟩ := List.mem_iff_getElem?.1 hr
      have hjl : j < rows.length := by
        rcases Nat.lt_or_ge j rows.length with h' | h'
        · exact h'
        · rw [List.getElem?_eq_none h'] at hj; cases hj
      obtain ⟨r', q1, q2⟩ := hrs j (a[j]'(by omega)) (List.getElem?_eq_getElem _)
      rw [hj] at q1
      injection q1 with q1; subst q1
      generalize a[j]'(by omega) = s at q2
      obtain ⟨op', n', ar', t', e'⟩ := s
      obtain ⟨x, q3, _⟩ := q2
      rw [q3]; rfl
    have hfl := flat_len rows hr5
    dsimp only
    rw [hc2]
    dsimp only
    rw [if_pos ⟨hid, by trivial, by trivial, by trivial, by rw [hfl, hrl2], by decide, by simp only [room]; omega, by simp only [room]; omega⟩]
    refine ⟨_, _, rfl, by simp; omega, .inr ⟨id, rows ++ [row], by simp, hid, by rw [List.getElem?_set_self (by simp; omega)]; simp, by simp [hrl2], fun j s hj => ?_⟩⟩
    have hmono : ∀ jd T xs, jd ≠ id → H[jd]? = some (.cells T xs) → ((HI H op n t e ar ++ [HObj.cells 86 row]).set id (.cells 86 (rows.flatten ++ row)))[jd]? = some (.cells T xs) := fun jd T xs h1 h2 => by
      have hjl : jd < H.length := by
        rcases Nat.lt_or_ge jd H.length with h' | h'
        · exact h'
        · rw [List.getElem?_eq_none h'] at h2; cases h2
      rw [List.getElem?_set_ne (fun e => h1 e.symm), List.getElem?_append_left (by omega), HI_old _ _ _ _ _ _ hjl]; exact h2
    rcases Nat.lt_or_ge j a.length with hj' | hj'
    · rw [List.getElem?_append_left hj'] at hj
      obtain ⟨r, q1, q2⟩ := hrs j s hj
      exact ⟨r, by rw [List.getElem?_append_left (by omega)]; exact q1, RS_mono q2 hmono⟩
    · have hje : j = a.length := by
        rcases Nat.lt_or_ge a.length j with h' | h'
        · rw [List.getElem?_eq_none (by simp; omega)] at hj; cases hj
        · omega
      subst hje
      simp at hj; subst hj
      refine ⟨row, by rw [List.getElem?_append_right (by omega), hrl2, Nat.sub_self]; rfl, accI H ar, hrow.symm, ?_⟩
      refine RX_mono (HI_args h H g0 op n t e ar [HObj.cells 86 row] id (by omega)) (fun jd T xs h1 h2 => ?_)
      rw [List.getElem?_set_ne (fun e => h1 e.symm)]; exact h2
theorem frz0_static {H : Heap} {lo : Nat} {x : AV} (h : static x = true) : frz0 H lo x = some x := by
  cases x <;> first | rfl | (cases h; done)
theorem frzL0_app {H : Heap} {lo : Nat} : ∀ {xs ys cs bs : List AV}, frzL0 H lo xs = some cs → frzL0 H lo ys = some bs → frzL0 H lo (xs ++ ys) = some (cs ++ bs)
  | [], ys, cs, bs, h1, h2 => by injection h1 with h1; subst h1; exact h2
  | x :: xs, ys, cs, bs, h1, h2 => by
    simp only [frzL0] at h1
    split at h1
    · rename_i b hb
      split at h1
      · rename_i m hm
        injection h1 with h1; subst h1
        have := frzL0_app hm h2
        simp only [List.cons_append, frzL0, hb, this]
      · cases h1
    · cases h1
theorem frzL0_static {H : Heap} {lo : Nat} : ∀ {xs : List AV}, xs.all static = true → frzL0 H lo xs = some xs
  | [], _ => rfl
  | x :: xs, h => by
    simp only [List.all_cons, Bool.and_eq_true] at h
    simp only [frzL0, frz0_static h.1, frzL0_static h.2]
theorem RX_frz {h H : Heap} {id : Nat} {ar : List Ex'} {x : AV} (hx : RX h H id ar x) : ∃ y, frz0 H h.length x = some y ∧ nilz 4 y = .vs 4 (exsC ar) := by
  rcases hx with ⟨rfl, rfl⟩ | ⟨jd, rfl, h2, h3, h4⟩
  · exact ⟨.nils, rfl, rfl⟩
  · refine ⟨.vs 4 (exsC ar), ?_, rfl⟩
    have hst : (exsC ar).flatten.all static = true := by
      rw [List.all_eq_true]
      intro x hx
      obtain ⟨q, h1, h2⟩ := List.mem_flatten.1 hx
      exact (exsC_row ar q h1).2 x h2
    have hfl := flat_len (exsC ar) (fun r hr => (exsC_row ar r hr).1)
    have hch := chunks_flat (exsC ar) (fun r hr => (exsC_row ar r hr).1)
    rw [exsC_len] at hfl hch
    unfold frz0
    dsimp only
    rw [h4]
    dsimp only
    rw [if_pos ⟨h3, by rw [hfl]; omega, hst⟩, List.drop_zero, hch]
theorem RS_frz {h H : Heap} {id : Nat} {s : Sm'} {r : List AV} (hx : RS h H id s r) : ∃ r', frzL0 H h.length r = some r' ∧ nilzL [0, 0, 4, 0, 0] r' = smC s ∧ r'.length = 5 := by
  obtain ⟨op, n, ar, t, e⟩ := s
  obtain ⟨x, rfl, h2⟩ := hx
  obtain ⟨y, h3, h4⟩ := RX_frz h2
  refine ⟨[.int .i64 op, .int .i64 n, y, .vs 5 (smsC t), .vs 5 (smsC e)], ?_, ?_, rfl⟩
  · have hi : ∀ (z : Int), frz0 H h.length (.int .i64 z) = some (.int .i64 z) := fun _ => rfl
    have hv : ∀ (z : List (List AV)), frz0 H h.length (.vs 5 z) = some (.vs 5 z) := fun _ => rfl
    simp only [frzL0, hi, hv, h3]
  · show [.int .i64 op, .int .i64 n, nilz 4 y, .vs 5 (smsC t), .vs 5 (smsC e)] = smC (.mk op n ar t e)
    rw [h4, smC]
theorem rows_frz {h H : Heap} {id : Nat} : ∀ (a : List Sm') (rows : List (List AV)), rows.length = a.length → (∀ (j : Nat) (s : Sm'), a[j]? = some s → ∃ r, rows[j]? = some r ∧ RS h H id s r) →
    ∃ ys : List (List AV), frzL0 H h.length rows.flatten = some ys.flatten ∧ ys.length = a.length ∧ ys.map (nilzL [0, 0, 4, 0, 0]) = smsC a ∧ ∀ r, r ∈ ys → r.length = 5
  | [], rows, hl, _ => by
    have : rows = [] := List.eq_nil_of_length_eq_zero hl
    subst this
    exact ⟨[], rfl, rfl, rfl, fun r hr => by cases hr⟩
  | s :: a, [], hl, _ => by simp at hl
  | s :: a, r :: rows, hl, hrs => by
    obtain ⟨r0, h1, h2⟩ := hrs 0 s rfl
    simp at h1; subst h1
    obtain ⟨r', q1, q2, q3⟩ := RS_frz h2
    obtain ⟨ys, p1, p2, p3, p4⟩ := rows_frz a rows (by simpa using hl) (fun j s' hj => by
      obtain ⟨r1, k1, k2⟩ := hrs (j + 1) s' (by simpa using hj)
      exact ⟨r1, by simpa using k1, k2⟩)
    refine ⟨r' :: ys, ?_, by simp [p2], by rw [List.map_cons, q2, p3, smsC], fun r hr => ?_⟩
    · rw [List.flatten_cons, List.flatten_cons]; exact frzL0_app q1 p1
    · rcases List.mem_cons.1 hr with rfl | hr
      · exact q3
      · exact p4 r hr
theorem GS_fin {h H : Heap} {l : List Sm'} {v : AV} (hG : GS h l v H) : handF (some ⟨5, [0, 0, 4, 0, 0]⟩) true h v H = some (.vs 5 (smsC l), h) := by
  obtain ⟨g0, hG⟩ := hG
  rcases hG with ⟨ha, hv⟩ | ⟨id, rows, hv, hid, hcell, hrl2, hrs⟩
  · subst ha hv; rfl
  · subst hv
    obtain ⟨ys, p1, p2, p3, p4⟩ := rows_frz l rows hrl2 hrs
    have hfl := flat_len ys p4
    have hch := chunks_flat ys p4
    rw [p2] at hfl hch
    have hlr : rows.flatten.length = ys.flatten.length := by
      have : ∀ {xs zs : List AV}, frzL0 H h.length xs = some zs → xs.length = zs.length := by
        intro xs
        induction xs with
        | nil => intro zs hz; injection hz with hz; subst hz; rfl
        | cons x xs ih =>
          intro zs hz
          simp only [frzL0] at hz
          split at hz
          · split at hz
            · rename_i m hm
              injection hz with hz; subst hz
              simp [ih hm]
            · cases hz
          · cases hz
      exact this p1
    have h1 : frz1 H h.length (.sl id 5 0 l.length) = some (.vs 5 ys) := by
      unfold frz1
      dsimp only
      rw [hcell]
      dsimp only
      by_cases hst : rows.flatten.all static = true
      · have := frzL0_static (H := H) (lo := h.length) hst
        rw [this] at p1
        injection p1 with p1
        rw [if_pos ⟨hid, by rw [hlr, hfl]; omega, hst⟩, List.drop_zero, p1, hch]
      · rw [if_neg (fun c => hst c.2.2), p1]
        dsimp only
        rw [if_pos ⟨hid, by rw [hlr, hfl]; omega⟩, List.drop_zero, hch]
    have h2 : frz H h.length (.sl id 5 0 l.length) = some (.vs 5 ys) := h1
    unfold handF hand
    simp only [if_true, h2, nzA, p3]
def crS (h : Heap) (l : List Sm') (i : Int) (a : AV × Heap) : St :=
  { env := [(0, .v (.vs 5 (smsC l))), (3, .v a.1), (4, .v (.int .i64 i))], loc := [], heap := a.2, inRound := false, lo := h.length }
def crI (h : Heap) (l : List Sm') (v : AV) (i : Int) (q : Nat) (j : Int) (H : Heap) : St :=
  { env := [(0, .v (.vs 5 (smsC l))), (3, .v v), (4, .v (.int .i64 i)), (5, .v (.hp q 5 0)), (6, .v (.int .i64 j))], loc := [], heap := H, inRound := false, lo := h.length }
set_option maxHeartbeats 2000000 in
theorem copyRows_run : ∀ (k : Nat) (l : List Sm'), smsK l + 1 ≤ k → smsK l ≤ 90000 → ∀ (h : Heap) (lo : Nat), call Try.prog cfg k lo (.func 98) [.vs 5 (smsC l)] h = some (.vs 5 (smsC l), h)
  | 0, l, hk, _, _, _ => by omega
  | k + 1, l, hk, hK, h, lo => by
    have hlen := smsK_len l
    apply W_call Try.func98 rfl (Nat.le_of_ble_eq_true rfl) rfl
    (repeat' (first | apply W_seq | refine W_true rfl rfl ?_ | refine W_false rfl rfl ?_ | refine W_region (id := 0) rfl ?_ | refine W_region (id := 1) rfl ?_ | refine W_region (id := 2) rfl ?_ | apply W_skip | apply W_block | apply W_ret | apply W_exit | refine W_true rfl (by assumption) ?_ | refine W_false rfl (by assumption) ?_ | refine W_cond rfl (fun _ => ?_) (fun _ => ?_)))
    apply W_iterI (S := crS h l) (l := l) (a0 := (.nils, h)) (fun i rest a => ∃ d, d ++ rest = l ∧ d.length = i ∧ GS h d a.1 a.2) (by omega) (by omega) rfl ⟨[], rfl, rfl, Nat.le_refl _, .inl ⟨rfl, rfl⟩⟩
    · intro i s rest a hi hd hil hJ
      obtain ⟨d, hdl, hdi, hG⟩ := hJ
      obtain ⟨v, H⟩ := a
      dsimp only at hG
      have hrow := smsC_get _ _ _ hi
      have hlt := lt_sms hil
      have hm := smsK_mem l i _ hi
      obtain ⟨op, n, ar, t, e⟩ := s
      rw [smK] at hm
      have hp1 := exsK_pos ar
      have hp2 := smsK_pos t
      have hp3 := smsK_pos e
      have hla := exsK_len ar
      have g0 := hG.1
      have ih2 := copyRows_run k t (by omega) (by omega) H H.length
      have ih3 := copyRows_run k e (by omega) (by omega) H H.length
      have hz1 : (H ++ [HObj.cells 86 [.int .i64 0, .int .i64 0, .nils, .nils, .nils]])[H.length]? = some (.cells 86 [.int .i64 0, .int .i64 0, .nils, .nils, .nils]) := by simp
      have e0 : (H ++ [HObj.cells 86 [.int .i64 0, .int .i64 0, .nils, .nils, .nils]]).set H.length (.cells 86 [.int .i64 op, .int .i64 n, .nils, .vs 5 (smsC t), .vs 5 (smsC e)]) = HI H op n t e [] := by simp [HI, accH, exsC, c5, accI, accA]
      obtain ⟨v', H', hap, hG'⟩ := GS_step hG op n ar t e (by omega)
      (repeat' (first | apply W_seq | refine W_true rfl rfl ?_ | refine W_false rfl rfl ?_ | (refine W_ops (id := 3) ?_ <;> refine T_ch 3 rfl ?_ <;> (refine T_go rfl ?_; first | refine G_true rfl rfl ?_ | refine G_false rfl rfl ?_ | refine G_true rfl (by with_reducible assumption) ?_ | refine G_false rfl (by with_reducible assumption) ?_ | refine G_true rfl (by assumption) ?_ | refine G_false rfl (by assumption) ?_ | refine G_split rfl (fun _ => ?_) (fun _ => ?_)) <;> apply T_nil) | (refine W_dops (id := 5) (bs := [0, 0, 3, 7, 15, 0, 0, 96, 224, 480, 0, 0, 3072, 7168, 15360, 31744, 0, 0, 196608, 458752, 983040, 2096128, 4194303, 0, 16777215]) (by decide +kernel) ?_ <;> (refine U_go rfl ?_; refine H_free (by decide +kernel) rfl rfl rfl rfl rfl ?_) <;> (refine U_go rfl ?_; refine H_free (by decide +kernel) rfl rfl rfl rfl rfl ?_) <;> (refine U_go rfl ?_; first | refine H_free (by decide +kernel) rfl (O_index rfl rfl rfl rfl rfl (by assumption)) rfl rfl rfl ?_ | refine H_free (by decide +kernel) rfl (O_indexI rfl rfl rfl rfl rfl (by assumption)) rfl rfl rfl ?_ | refine H_free (by decide +kernel) rfl (O_indexH rfl rfl rfl rfl rfl (by assumption) (by assumption) (by assumption)) rfl rfl rfl ?_ | refine H_free (by decide +kernel) rfl rfl rfl rfl rfl ?_) <;> (refine U_go rfl ?_; refine H_free (by decide +kernel) rfl rfl rfl rfl rfl ?_) <;> (refine U_go rfl ?_; first | refine H_free (by decide +kernel) rfl rfl rfl rfl rfl ?_ | refine H_free (by decide +kernel) rfl (O_loadS rfl rfl rfl rfl (by assumption) rfl rfl) rfl rfl rfl ?_ | refine H_free (by decide +kernel) rfl (O_loadH rfl rfl rfl (by assumption) rfl rfl) rfl rfl rfl ?_) <;> (refine U_go rfl ?_; refine H_free (by decide +kernel) rfl rfl rfl rfl rfl ?_) <;> (refine U_go rfl ?_; refine H_free (by decide +kernel) rfl rfl rfl rfl rfl ?_) <;> (refine U_go rfl ?_; first | refine H_free (by decide +kernel) rfl (O_index rfl rfl rfl rfl rfl (by assumption)) rfl rfl rfl ?_ | refine H_free (by decide +kernel) rfl (O_indexI rfl rfl rfl rfl rfl (by assumption)) rfl rfl rfl ?_ | refine H_free (by decide +kernel) rfl (O_indexH rfl rfl rfl rfl rfl (by assumption) (by assumption) (by assumption)) rfl rfl rfl ?_ | refine H_free (by decide +kernel) rfl rfl rfl rfl rfl ?_) <;> (refine U_go rfl ?_; refine H_free (by decide +kernel) rfl rfl rfl rfl rfl ?_) <;> (refine U_go rfl ?_; first | refine H_free (by decide +kernel) rfl rfl rfl rfl rfl ?_ | refine H_free (by decide +kernel) rfl (O_loadS rfl rfl rfl rfl (by assumption) rfl rfl) rfl rfl rfl ?_ | refine H_free (by decide +kernel) rfl (O_loadH rfl rfl rfl (by assumption) rfl rfl) rfl rfl rfl ?_) <;> (refine U_go rfl ?_; refine H_free (by decide +kernel) rfl rfl rfl rfl rfl ?_) <;> (refine U_go rfl ?_; refine H_free (by decide +kernel) rfl rfl rfl rfl rfl ?_) <;> (refine U_go rfl ?_; first | refine H_free (by decide +kernel) rfl (O_index rfl rfl rfl rfl rfl (by assumption)) rfl rfl rfl ?_ | refine H_free (by decide +kernel) rfl (O_indexI rfl rfl rfl rfl rfl (by assumption)) rfl rfl rfl ?_ | refine H_free (by decide +kernel) rfl (O_indexH rfl rfl rfl rfl rfl (by assumption) (by assumption) (by assumption)) rfl rfl rfl ?_ | refine H_free (by decide +kernel) rfl rfl rfl rfl rfl ?_) <;> (refine U_go rfl ?_; refine H_free (by decide +kernel) rfl rfl rfl rfl rfl ?_) <;> (refine U_go rfl ?_; first | refine H_free (by decide +kernel) rfl rfl rfl rfl rfl ?_ | refine H_free (by decide +kernel) rfl (O_loadS rfl rfl rfl rfl (by assumption) rfl rfl) rfl rfl rfl ?_ | refine H_free (by decide +kernel) rfl (O_loadH rfl rfl rfl (by assumption) rfl rfl) rfl rfl rfl ?_) <;> (refine U_go rfl ?_; first | refine H_free (by decide +kernel) rfl (O_call rfl rfl rfl rfl (by assumption)) rfl rfl rfl ?_ | refine H_make (by decide +kernel) rfl (O_call rfl rfl rfl rfl (by assumption)) rfl rfl rfl ?_) <;> (refine U_go rfl ?_; refine H_free (by decide +kernel) rfl rfl rfl rfl rfl ?_) <;> (refine U_go rfl ?_; refine H_free (by decide +kernel) rfl rfl rfl rfl rfl ?_) <;> (refine U_go rfl ?_; first | refine H_free (by decide +kernel) rfl (O_index rfl rfl rfl rfl rfl (by assumption)) rfl rfl rfl ?_ | refine H_free (by decide +kernel) rfl (O_indexI rfl rfl rfl rfl rfl (by assumption)) rfl rfl rfl ?_ | refine H_free (by decide +kernel) rfl (O_indexH rfl rfl rfl rfl rfl (by assumption) (by assumption) (by assumption)) rfl rfl rfl ?_ | refine H_free (by decide +kernel) rfl rfl rfl rfl rfl ?_) <;> (refine U_go rfl ?_; refine H_free (by decide +kernel) rfl rfl rfl rfl rfl ?_) <;> (refine U_go rfl ?_; first | refine H_free (by decide +kernel) rfl rfl rfl rfl rfl ?_ | refine H_free (by decide +kernel) rfl (O_loadS rfl rfl rfl rfl (by assumption) rfl rfl) rfl rfl rfl ?_ | refine H_free (by decide +kernel) rfl (O_loadH rfl rfl rfl (by assumption) rfl rfl) rfl rfl rfl ?_) <;> (refine U_go rfl ?_; first | refine H_free (by decide +kernel) rfl (O_call rfl rfl rfl rfl (by assumption)) rfl rfl rfl ?_ | refine H_make (by decide +kernel) rfl (O_call rfl rfl rfl rfl (by assumption)) rfl rfl rfl ?_) <;> (refine U_go rfl ?_; refine H_free (by decide +kernel) rfl rfl rfl rfl rfl ?_) <;> (refine U_go rfl ?_; first | refine H_free (by decide +kernel) rfl rfl rfl rfl rfl ?_ | refine H_make (by decide +kernel) rfl rfl rfl rfl rfl ?_) <;> (refine U_go rfl ?_; first | refine H_op (by decide +kernel) (O_storeS rfl rfl rfl rfl rfl (by assumption) (by assumption) ⟨rfl, rfl, Nat.le_of_ble_eq_true rfl⟩ rfl) ?_ | refine H_op (by decide +kernel) rfl ?_ | refine H_op (by decide +kernel) (O_storeH rfl rfl rfl rfl (by assumption) ⟨by assumption, rfl, rfl, Nat.le_of_ble_eq_true rfl⟩) ?_ | refine H_op (by decide +kernel) (O_storeH rfl rfl rfl rfl (by assumption) (by assumption)) ?_) <;> apply U_nil) | refine W_region (id := 6) rfl ?_ | apply W_skip | apply W_block | apply W_ret | apply W_exit | refine W_true rfl (by assumption) ?_ | refine W_false rfl (by assumption) ?_ | refine W_cond rfl (fun _ => ?_) (fun _ => ?_)))
      apply W_iterI (S := crI h l v i H.length) (l := ar) (a0 := (H ++ [HObj.cells 86 [.int .i64 0, .int .i64 0, .nils, .nils, .nils]]).set H.length (.cells 86 [.int .i64 op, .int .i64 n, .nils, .vs 5 (smsC t), .vs 5 (smsC e)])) (fun j rest H2 => ∃ b, b ++ rest = ar ∧ b.length = j ∧ H2 = HI H op n t e b) (by omega) (by omega) rfl ⟨[], rfl, rfl, e0⟩
      · intro j x rest' H2 hj hd' hjl hJ'
        obtain ⟨b, hb1, hb2, rfl⟩ := hJ'
        have hrj := exsC_get _ _ _ hj
        have hjt := lt_exs hjl
        have hmx := exsK_mem1 ar j _ hj
        have ihx := ecopy_run k x (by omega) (by omega) (HI H op n t e b) (HI H op n t e b).length
        have hgx : (HI H op n t e b)[H.length]? = some (.cells 86 [.int .i64 op, .int .i64 n, accI H b, .vs 5 (smsC t), .vs 5 (smsC e)]) := HI_get H op n t e b
        have hax := HI_append H h.length g0 op n t e b x (by omega)
        obtain ⟨y, ys, hy⟩ : ∃ y ys, b ++ [x] = y :: ys := by cases b <;> exact ⟨_, _, rfl⟩
        rw [hy] at hax
        have hset := HI_set H op n t e b (y :: ys)
        have hgy : (accH (H ++ [c5 H op n t e b]) 28 (exsC (y :: ys)))[H.length]? = some (.cells 86 [.int .i64 op, .int .i64 n, accI H b, .vs 5 (smsC t), .vs 5 (smsC e)]) := by simp [accH, exsC, c5]
        obtain ⟨op', n', c', es⟩ := x
        (repeat' (first | apply W_seq | refine W_true rfl rfl ?_ | refine W_false rfl rfl ?_ | (refine W_ops (id := 7) ?_ <;> refine T_ch 3 rfl ?_ <;> (refine T_go rfl ?_; first | refine G_op (O_index rfl rfl rfl rfl rfl (by assumption)) ?_ | refine G_op (O_indexI rfl rfl rfl rfl rfl (by assumption)) ?_ | refine G_op (O_indexH rfl rfl rfl rfl rfl (by assumption) (by assumption) (by assumption)) ?_ | refine G_op rfl ?_) <;> refine T_ch 1 rfl ?_ <;> (refine T_go rfl ?_; first | refine G_op rfl ?_ | refine G_op (O_loadS rfl rfl rfl rfl (by assumption) rfl rfl) ?_ | refine G_op (O_loadH rfl rfl rfl (by assumption) rfl rfl) ?_) <;> refine T_ch 1 rfl ?_ <;> (refine T_go rfl ?_; first | refine G_true rfl rfl ?_ | refine G_false rfl rfl ?_ | refine G_true rfl (by with_reducible assumption) ?_ | refine G_false rfl (by with_reducible assumption) ?_ | refine G_true rfl (by assumption) ?_ | refine G_false rfl (by assumption) ?_ | refine G_split rfl (fun _ => ?_) (fun _ => ?_)) <;> apply T_nil) | refine W_region (id := 8) rfl ?_ | (refine W_dops (id := 9) (bs := [0, 1, 0, 0, 12, 28, 60, 0, 252, 508, 1020, 2044, 4095, 8191, 16383]) (by decide +kernel) ?_ <;> (refine U_go rfl ?_; refine H_free (by decide +kernel) rfl rfl rfl rfl rfl ?_) <;> (refine U_go rfl ?_; first | refine H_free (by decide +kernel) rfl (O_loadS rfl rfl rfl rfl (by assumption) rfl rfl) rfl rfl rfl ?_ | refine H_free (by decide +kernel) rfl rfl rfl rfl rfl ?_ | refine H_free (by decide +kernel) rfl (O_loadH rfl rfl rfl (by assumption) rfl rfl) rfl rfl rfl ?_) <;> (refine U_go rfl ?_; refine H_free (by decide +kernel) rfl rfl rfl rfl rfl ?_) <;> (refine U_go rfl ?_; refine H_free (by decide +kernel) rfl rfl rfl rfl rfl ?_) <;> (refine U_go rfl ?_; first | refine H_free (by decide +kernel) rfl (O_index rfl rfl rfl rfl rfl (by assumption)) rfl rfl rfl ?_ | refine H_free (by decide +kernel) rfl (O_indexI rfl rfl rfl rfl rfl (by assumption)) rfl rfl rfl ?_ | refine H_free (by decide +kernel) rfl (O_indexH rfl rfl rfl rfl rfl (by assumption) (by assumption) (by assumption)) rfl rfl rfl ?_ | refine H_free (by decide +kernel) rfl rfl rfl rfl rfl ?_) <;> (refine U_go rfl ?_; refine H_free (by decide +kernel) rfl rfl rfl rfl rfl ?_) <;> (refine U_go rfl ?_; first | refine H_free (by decide +kernel) rfl rfl rfl rfl rfl ?_ | refine H_free (by decide +kernel) rfl (O_loadS rfl rfl rfl rfl (by assumption) rfl rfl) rfl rfl rfl ?_ | refine H_free (by decide +kernel) rfl (O_loadH rfl rfl rfl (by assumption) rfl rfl) rfl rfl rfl ?_) <;> (refine U_go rfl ?_; refine H_free (by decide +kernel) rfl rfl rfl rfl rfl ?_) <;> (refine U_go rfl ?_; first | refine H_free (by decide +kernel) rfl (O_index rfl rfl rfl rfl rfl (by assumption)) rfl rfl rfl ?_ | refine H_free (by decide +kernel) rfl (O_indexI rfl rfl rfl rfl rfl (by assumption)) rfl rfl rfl ?_ | refine H_free (by decide +kernel) rfl (O_indexH rfl rfl rfl rfl rfl (by assumption) (by assumption) (by assumption)) rfl rfl rfl ?_ | refine H_free (by decide +kernel) rfl rfl rfl rfl rfl ?_) <;> (refine U_go rfl ?_; first | refine H_free (by decide +kernel) rfl rfl rfl rfl rfl ?_ | refine H_free (by decide +kernel) rfl (O_loadS rfl rfl rfl rfl (by assumption) rfl rfl) rfl rfl rfl ?_ | refine H_free (by decide +kernel) rfl (O_loadH rfl rfl rfl (by assumption) rfl rfl) rfl rfl rfl ?_) <;> (refine U_go rfl ?_; first | refine H_free (by decide +kernel) rfl (O_call rfl rfl rfl rfl (by assumption)) rfl rfl rfl ?_ | refine H_make (by decide +kernel) rfl (O_call rfl rfl rfl rfl (by assumption)) rfl rfl rfl ?_) <;> (refine U_go rfl ?_; first | refine H_free (by decide +kernel) rfl rfl rfl rfl rfl ?_ | refine H_make (by decide +kernel) rfl rfl rfl rfl rfl ?_) <;> (refine U_go rfl ?_; first | refine H_op (by decide +kernel) (O_append rfl rfl rfl rfl rfl (by assumption)) ?_ | refine H_op (by decide +kernel) rfl ?_) <;> (refine U_go rfl ?_; refine H_op (by decide +kernel) rfl ?_) <;> (refine U_go rfl ?_; first | refine H_op (by decide +kernel) (O_storeS rfl rfl rfl rfl rfl (by assumption) (by assumption) ⟨rfl, rfl, Nat.le_of_ble_eq_true rfl⟩ rfl) ?_ | refine H_op (by decide +kernel) rfl ?_ | refine H_op (by decide +kernel) (O_storeH rfl rfl rfl rfl (by assumption) ⟨by assumption, rfl, rfl, Nat.le_of_ble_eq_true rfl⟩) ?_ | refine H_op (by decide +kernel) (O_storeH rfl rfl rfl rfl (by assumption) (by assumption)) ?_) <;> apply U_nil) | apply W_skip | apply W_block | apply W_ret | apply W_exit | refine W_true rfl (by assumption) ?_ | refine W_false rfl (by assumption) ?_ | refine W_cond rfl (fun _ => ?_) (fun _ => ?_)))
        exact ⟨_, rfl, y :: ys, by rw [← hb1, ← hy]; simp, by rw [← hy]; simp [hb2], hset⟩
      · intro H2 hJ'
        obtain ⟨b, hb1, hb2, rfl⟩ := hJ'
        have hbe : b = ar := by simpa using hb1
        subst hbe
        have hjt := ge_exs (l := b)
        have hgx : (HI H op n t e b)[H.length]? = some (.cells 86 [.int .i64 op, .int .i64 n, accI H b, .vs 5 (smsC t), .vs 5 (smsC e)]) := HI_get H op n t e b
        (repeat' (first | apply W_seq | refine W_true rfl rfl ?_ | refine W_false rfl rfl ?_ | (refine W_ops (id := 7) ?_ <;> refine T_ch 3 rfl ?_ <;> (refine T_go rfl ?_; first | refine G_op (O_index rfl rfl rfl rfl rfl (by assumption)) ?_ | refine G_op (O_indexI rfl rfl rfl rfl rfl (by assumption)) ?_ | refine G_op (O_indexH rfl rfl rfl rfl rfl (by assumption) (by assumption) (by assumption)) ?_ | refine G_op rfl ?_) <;> refine T_ch 1 rfl ?_ <;> (refine T_go rfl ?_; first | refine G_op rfl ?_ | refine G_op (O_loadS rfl rfl rfl rfl (by assumption) rfl rfl) ?_ | refine G_op (O_loadH rfl rfl rfl (by assumption) rfl rfl) ?_) <;> refine T_ch 1 rfl ?_ <;> (refine T_go rfl ?_; first | refine G_true rfl rfl ?_ | refine G_false rfl rfl ?_ | refine G_true rfl (by with_reducible assumption) ?_ | refine G_false rfl (by with_reducible assumption) ?_ | refine G_true rfl (by assumption) ?_ | refine G_false rfl (by assumption) ?_ | refine G_split rfl (fun _ => ?_) (fun _ => ?_)) <;> apply T_nil) | (refine W_ops (id := 10) ?_ <;> refine T_ch 1 rfl ?_ <;> (refine T_go rfl ?_; first | refine G_op (O_loadS rfl rfl rfl rfl (by assumption) rfl rfl) ?_ | refine G_op rfl ?_ | refine G_op (O_loadH rfl rfl rfl (by assumption) rfl rfl) ?_) <;> refine T_ch 1 rfl ?_ <;> (refine T_go rfl ?_; first | refine G_op (O_append rfl rfl rfl rfl rfl (by assumption)) ?_ | refine G_op rfl ?_) <;> refine T_ch 1 rfl ?_ <;> apply T_nil) | refine W_region (id := 4) rfl ?_ | apply W_skip | apply W_block | apply W_ret | apply W_exit | refine W_true rfl (by assumption) ?_ | refine W_false rfl (by assumption) ?_ | refine W_cond rfl (fun _ => ?_) (fun _ => ?_)))
        exact ⟨(v', H'), rfl, d ++ [.mk op n b t e], by rw [← hdl]; simp, by simp [hdi], hG'⟩
    · intro a hJ
      obtain ⟨d, hdl, hdi, hG⟩ := hJ
      have : d = l := by simpa using hdl
      subst this
      have hlt := ge_sms (l := d)
      have hfin := GS_fin hG
      (repeat' (first | apply W_seq | refine W_true rfl rfl ?_ | refine W_false rfl rfl ?_ | (refine W_ops (id := 3) ?_ <;> refine T_ch 3 rfl ?_ <;> (refine T_go rfl ?_; first | refine G_true rfl rfl ?_ | refine G_false rfl rfl ?_ | refine G_true rfl (by with_reducible assumption) ?_ | refine G_false rfl (by with_reducible assumption) ?_ | refine G_true rfl (by assumption) ?_ | refine G_false rfl (by assumption) ?_ | refine G_split rfl (fun _ => ?_) (fun _ => ?_)) <;> apply T_nil) | refine W_region (id := 11) rfl ?_ | apply W_skip | apply W_block | apply W_ret | apply W_exit | refine W_true rfl (by assumption) ?_ | refine W_false rfl (by assumption) ?_ | refine W_cond rfl (fun _ => ?_) (fun _ => ?_)))
      exact ⟨.inl rfl, hfin⟩
end Go.Proofs.Ytelobnllkhnpaaa.L
/- ref03.Copy, ref21.Relabel. -/
open Go Go.Proofs Go.Ev Go.Proofs.Ytelobnllkhnpaaa.E
namespace Go.Proofs.Ytelobnllkhnpaaa.L
set_option linter.unusedVariables false
set_option linter.unusedSimpArgs false
set_option maxRecDepth 100000

def accP (h : Heap) (a : List Vr') : AV := accA (h ++ [HObj.dead]) 3 (vsC a)
def cP (h : Heap) (w : Int) (b : List Sm') (a : List Vr') : HObj := .cells 25 [.int .i64 w, accP h a, .vs 5 (smsC b)]
def HP (h : Heap) (w : Int) (b : List Sm') (a : List Vr') : Heap := accH (h ++ [cP h w b a]) 76 (vsC a)
theorem HP_get (h : Heap) (w : Int) (b : List Sm') (a : List Vr') : (HP h w b a)[h.length]? = some (cP h w b a) := by
  unfold HP accH
  split <;> simp
theorem HP_append (h : Heap) (lo : Nat) (hlo : lo ≤ h.length) (w : Int) (b : List Sm') (a : List Vr') (x : Vr') (hl : a.length < 1000000) :
    append cfg.tab lo (HP h w b a) 22 (accP h a) (.vs 3 [vrC x]) = some (accP h (a ++ [x]), accH (h ++ [cP h w b a]) 76 (vsC (a ++ [x]))) := by
  have := acc_append (tab := cfg.tab) (lo := lo) (h := h ++ [cP h w b a]) (t := 22) (e := 76) rfl rfl (by decide) (by simp; omega) (vsC a) [vrC x] (fun r hr => (vsC_row a r hr).1) (by rw [vsC_len]; simp only [List.length_cons, List.length_nil, room]; show (a.length + (0 + 1)) * 32 ≤ _; omega) (by rw [vsC_len]; simp [room]; omega)
  unfold accP HP
  rw [accA_len (h1 := h ++ [HObj.dead]) (h2 := h ++ [cP h w b a]) (by simp), accA_len (h1 := h ++ [HObj.dead]) (h2 := h ++ [cP h w b a]) (by simp)]
  rw [show vsC (a ++ [x]) = vsC a ++ [vrC x] by simp [vsC]]
  exact this
theorem HP_set (h : Heap) (w : Int) (b : List Sm') (a a' : List Vr') : (accH (h ++ [cP h w b a]) 76 (vsC a')).set h.length (cP h w b a') = HP h w b a' := by
  unfold HP accH
  split
  · simp
  · simp [List.set_append]
def pcS (h : Heap) (lo : Nat) (p : Pr') (i : Int) (H : Heap) : St :=
  { env := [(1, .p 1 0), (2, .p 2 0), (3, .v (.hp h.length 3 0)), (4, .v (.int .i64 i))], loc := [(1, prC p), (2, [.int .i64 0, .nils, .nils])], heap := H, inRound := false, lo := lo }
set_option maxHeartbeats 2000000 in
theorem pcopy_run (p : Pr') (k : Nat) (hk : smsK p.body + p.vars.length + 10 ≤ k) (hK : smsK p.body ≤ 90000) (hv : p.vars.length < 1000) (h : Heap) (lo : Nat) (hlo : lo ≤ h.length) :
    call Try.prog cfg (k + 1) lo (.func 70) [.agg (prC p)] h = some (.agg [.int .i64 p.width, accP h p.vars, .vs 5 (smsC p.body)], HP h p.width p.body p.vars) := by
  have hc := copyRows_run k p.body (by omega) hK h h.length
  obtain ⟨w, vs, body⟩ := p
  dsimp only at *
  have hz1 : (h ++ [HObj.cells 25 [.int .i64 0, .nils, .nils]])[h.length]? = some (.cells 25 [.int .i64 0, .nils, .nils]) := by simp
  have e0 : (h ++ [HObj.cells 25 [.int .i64 0, .nils, .nils]]).set h.length (.cells 25 [.int .i64 w, .nils, .vs 5 (smsC body)]) = HP h w body [] := by simp [HP, accH, vsC, cP, accP, accA]
  apply W_call Try.func70 rfl (Nat.le_of_ble_eq_true rfl) rfl
  (repeat' (first | apply W_seq | refine W_true rfl rfl ?_ | refine W_false rfl rfl ?_ | refine W_region (id := 0) rfl ?_ | (refine W_dops (id := 1) (bs := [0, 1, 0, 4, 12, 31, 0, 127]) (by decide +kernel) ?_ <;> (refine U_go rfl ?_; refine H_free (by decide +kernel) rfl rfl rfl rfl rfl ?_) <;> (refine U_go rfl ?_; refine H_free (by decide +kernel) rfl rfl rfl rfl rfl ?_) <;> (refine U_go rfl ?_; refine H_free (by decide +kernel) rfl rfl rfl rfl rfl ?_) <;> (refine U_go rfl ?_; refine H_free (by decide +kernel) rfl rfl rfl rfl rfl ?_) <;> (refine U_go rfl ?_; first | refine H_free (by decide +kernel) rfl (O_call rfl rfl rfl rfl (by assumption)) rfl rfl rfl ?_ | refine H_make (by decide +kernel) rfl (O_call rfl rfl rfl rfl (by assumption)) rfl rfl rfl ?_) <;> (refine U_go rfl ?_; refine H_free (by decide +kernel) rfl rfl rfl rfl rfl ?_) <;> (refine U_go rfl ?_; first | refine H_free (by decide +kernel) rfl rfl rfl rfl rfl ?_ | refine H_make (by decide +kernel) rfl rfl rfl rfl rfl ?_) <;> (refine U_go rfl ?_; first | refine H_op (by decide +kernel) (O_storeS rfl rfl rfl rfl rfl (by assumption) (by assumption) ⟨rfl, rfl, Nat.le_of_ble_eq_true rfl⟩ rfl) ?_ | refine H_op (by decide +kernel) rfl ?_ | refine H_op (by decide +kernel) (O_storeH rfl rfl rfl rfl (by assumption) ⟨by assumption, rfl, rfl, Nat.le_of_ble_eq_true rfl⟩) ?_ | refine H_op (by decide +kernel) (O_storeH rfl rfl rfl rfl (by assumption) (by assumption)) ?_) <;> apply U_nil) | refine W_region (id := 2) rfl ?_ | apply W_skip | apply W_block | apply W_ret | apply W_exit | refine W_true rfl (by assumption) ?_ | refine W_false rfl (by assumption) ?_ | refine W_cond rfl (fun _ => ?_) (fun _ => ?_)))
  apply W_iterI (S := pcS h lo ⟨w, vs, body⟩) (l := vs) (a0 := (h ++ [HObj.cells 25 [.int .i64 0, .nils, .nils]]).set h.length (.cells 25 [.int .i64 w, .nils, .vs 5 (smsC body)])) (fun i rest H => ∃ a, a ++ rest = vs ∧ a.length = i ∧ H = HP h w body a) (by omega) (by omega) rfl ⟨[], rfl, rfl, e0⟩
  · intro i v rest H hi hd hil hJ
    obtain ⟨a, ha1, ha2, rfl⟩ := hJ
    have hrow := vsC_get hi
    have hlt := lt_vsC hil
    have hgx : (HP h w body a)[h.length]? = some (.cells 25 [.int .i64 w, accP h a, .vs 5 (smsC body)]) := HP_get h w body a
    have hax := HP_append h lo hlo w body a v (by omega)
    obtain ⟨y, ys, hy⟩ : ∃ y ys, a ++ [v] = y :: ys := by cases a <;> exact ⟨_, _, rfl⟩
    rw [hy] at hax
    have hset := HP_set h w body a (y :: ys)
    have hgy : (accH (h ++ [cP h w body a]) 76 (vsC (y :: ys)))[h.length]? = some (.cells 25 [.int .i64 w, accP h a, .vs 5 (smsC body)]) := by simp [accH, vsC, cP]
    obtain ⟨nm, lv, cl⟩ := v
    (repeat' (first | apply W_seq | refine W_true rfl rfl ?_ | refine W_false rfl rfl ?_ | (refine W_ops (id := 3) ?_ <;> refine T_ch 4 rfl ?_ <;> (refine T_go rfl ?_; first | refine G_true rfl rfl ?_ | refine G_false rfl rfl ?_ | refine G_true rfl (by with_reducible assumption) ?_ | refine G_false rfl (by with_reducible assumption) ?_ | refine G_true rfl (by assumption) ?_ | refine G_false rfl (by assumption) ?_ | refine G_split rfl (fun _ => ?_) (fun _ => ?_)) <;> apply T_nil) | refine W_region (id := 4) rfl ?_ | (refine W_dops (id := 5) (bs := [0, 1, 0, 4, 0, 28, 60, 124, 255, 511, 1023]) (by decide +kernel) ?_ <;> (refine U_go rfl ?_; refine H_free (by decide +kernel) rfl rfl rfl rfl rfl ?_) <;> (refine U_go rfl ?_; first | refine H_free (by decide +kernel) rfl (O_loadS rfl rfl rfl rfl (by assumption) rfl rfl) rfl rfl rfl ?_ | refine H_free (by decide +kernel) rfl rfl rfl rfl rfl ?_ | refine H_free (by decide +kernel) rfl (O_loadH rfl rfl rfl (by assumption) rfl rfl) rfl rfl rfl ?_) <;> (refine U_go rfl ?_; refine H_free (by decide +kernel) rfl rfl rfl rfl rfl ?_) <;> (refine U_go rfl ?_; refine H_free (by decide +kernel) rfl rfl rfl rfl rfl ?_) <;> (refine U_go rfl ?_; refine H_free (by decide +kernel) rfl rfl rfl rfl rfl ?_) <;> (refine U_go rfl ?_; first | refine H_free (by decide +kernel) rfl (O_index rfl rfl rfl rfl rfl (by assumption)) rfl rfl rfl ?_ | refine H_free (by decide +kernel) rfl (O_indexI rfl rfl rfl rfl rfl (by assumption)) rfl rfl rfl ?_ | refine H_free (by decide +kernel) rfl (O_indexH rfl rfl rfl rfl rfl (by assumption) (by assumption) (by assumption)) rfl rfl rfl ?_ | refine H_free (by decide +kernel) rfl rfl rfl rfl rfl ?_) <;> (refine U_go rfl ?_; first | refine H_free (by decide +kernel) rfl rfl rfl rfl rfl ?_ | refine H_free (by decide +kernel) rfl (O_loadS rfl rfl rfl rfl (by assumption) rfl rfl) rfl rfl rfl ?_ | refine H_free (by decide +kernel) rfl (O_loadH rfl rfl rfl (by assumption) rfl rfl) rfl rfl rfl ?_) <;> (refine U_go rfl ?_; first | refine H_free (by decide +kernel) rfl rfl rfl rfl rfl ?_ | refine H_make (by decide +kernel) rfl rfl rfl rfl rfl ?_) <;> (refine U_go rfl ?_; first | refine H_op (by decide +kernel) (O_append rfl rfl rfl rfl rfl (by assumption)) ?_ | refine H_op (by decide +kernel) rfl ?_) <;> (refine U_go rfl ?_; refine H_op (by decide +kernel) rfl ?_) <;> (refine U_go rfl ?_; first | refine H_op (by decide +kernel) (O_storeS rfl rfl rfl rfl rfl (by assumption) (by assumption) ⟨rfl, rfl, Nat.le_of_ble_eq_true rfl⟩ rfl) ?_ | refine H_op (by decide +kernel) rfl ?_ | refine H_op (by decide +kernel) (O_storeH rfl rfl rfl rfl (by assumption) ⟨by assumption, rfl, rfl, Nat.le_of_ble_eq_true rfl⟩) ?_ | refine H_op (by decide +kernel) (O_storeH rfl rfl rfl rfl (by assumption) (by assumption)) ?_) <;> apply U_nil) | apply W_skip | apply W_block | apply W_ret | apply W_exit | refine W_true rfl (by assumption) ?_ | refine W_false rfl (by assumption) ?_ | refine W_cond rfl (fun _ => ?_) (fun _ => ?_)))
    exact ⟨_, rfl, y :: ys, by rw [← ha1, ← hy]; simp, by rw [← hy]; simp [ha2], hset⟩
  · intro H hJ
    obtain ⟨a, ha1, ha2, rfl⟩ := hJ
    have : a = vs := by simpa using ha1
    subst this
    have hlt := ge_vsC (l := a)
    have hgx : (HP h w body a)[h.length]? = some (.cells 25 [.int .i64 w, accP h a, .vs 5 (smsC body)]) := HP_get h w body a
    (repeat' (first | apply W_seq | refine W_true rfl rfl ?_ | refine W_false rfl rfl ?_ | (refine W_ops (id := 3) ?_ <;> refine T_ch 4 rfl ?_ <;> (refine T_go rfl ?_; first | refine G_true rfl rfl ?_ | refine G_false rfl rfl ?_ | refine G_true rfl (by with_reducible assumption) ?_ | refine G_false rfl (by with_reducible assumption) ?_ | refine G_true rfl (by assumption) ?_ | refine G_false rfl (by assumption) ?_ | refine G_split rfl (fun _ => ?_) (fun _ => ?_)) <;> apply T_nil) | (refine W_ops (id := 6) ?_ <;> (refine T_go rfl ?_; first | refine G_op (O_loadS rfl rfl rfl rfl (by assumption) rfl rfl) ?_ | refine G_op rfl ?_ | refine G_op (O_loadH rfl rfl rfl (by assumption) rfl rfl) ?_) <;> refine T_ch 1 rfl ?_ <;> apply T_nil) | apply W_skip | apply W_block | apply W_ret | apply W_exit | refine W_true rfl (by assumption) ?_ | refine W_false rfl (by assumption) ?_ | refine W_cond rfl (fun _ => ?_) (fun _ => ?_)))
    exact ⟨.inl rfl, rfl⟩
def HQ (h : Heap) (w : Int) (b : List Sm') (vs a : List Vr') : Heap := (h ++ [cP h w b vs]) ++ [HObj.cells 76 (vsC a).flatten]
theorem HP_eq (h : Heap) (w : Int) (b : List Sm') {vs : List Vr'} (hne : vs ≠ []) : accP h vs = .sl (h.length + 1) 3 0 vs.length ∧ HP h w b vs = HQ h w b vs vs := by
  cases vs with
  | nil => exact absurd rfl hne
  | cons v vs => simp [accP, vsC, accA, HP, HQ, accH]
theorem HQ_frz (h : Heap) (w : Int) (b : List Sm') (vs a : List Vr') : frz1 (HQ h w b vs a) h.length (.sl (h.length + 1) 3 0 a.length) = some (.vs 3 (vsC a)) := by
  unfold frz1
  dsimp only
  have hg : (HQ h w b vs a)[h.length + 1]? = some (.cells 76 (vsC a).flatten) := by simp [HQ]
  rw [hg]
  dsimp only
  have hst : (vsC a).flatten.all static = true := by
    rw [List.all_eq_true]
    intro x hx
    obtain ⟨q, h1, h2⟩ := List.mem_flatten.1 hx
    exact (vsC_row a q h1).2 x h2
  rw [if_pos ⟨by omega, by rw [vsC_flat]; omega, hst⟩, List.drop_zero]
  have := chunks_flat (sz := 3) (vsC a) (fun r hr => (vsC_row a r hr).1)
  rw [vsC_len] at this
  rw [this]
theorem rrelabel_fin (h : Heap) (w : Int) (b : List Sm') (vs a : List Vr') : hand true h (.agg [.int .i64 w, .sl (h.length + 1) 3 0 a.length, .vs 5 (smsC b)]) (HQ h w b vs a) = some (.agg (prC ⟨w, a, b⟩), h) := by
  have h1 := HQ_frz h w b vs a
  have hi : ∀ (z : Int), frz1 (HQ h w b vs a) h.length (.int .i64 z) = some (.int .i64 z) := fun _ => rfl
  have hv : frz1 (HQ h w b vs a) h.length (.vs 5 (smsC b)) = some (.vs 5 (smsC b)) := rfl
  unfold hand
  rw [if_pos rfl]
  simp only [frz, frzM, frz2, frzL, hi, h1, hv]
  rfl
def rrS (h : Heap) (w : Int) (b : List Sm') (l : List Int) (n : Nat) (i : Int) (H : Heap) : St :=
  { env := [(1, .v (.vs 1 (intsC l))), (4, .p 4 0), (5, .p 5 0), (6, .v (.int .i64 i))], loc := [(4, [.int .i64 0, .nils, .nils]), (5, [.int .i64 w, .sl (h.length + 1) 3 0 n, .vs 5 (smsC b)])], heap := H, inRound := false, lo := h.length }
set_option maxHeartbeats 2000000 in
theorem rrelabel_run (p : Pr') (l : List Int) (k : Nat) (hk : smsK p.body + p.vars.length + 20 ≤ k) (hK : smsK p.body ≤ 90000) (hne : p.vars ≠ []) (hv : p.vars.length < 1000) (hll : l.length = p.vars.length) (h : Heap) (lo : Nat) :
    call Try.prog cfg (k + 1) lo (.func 30) [.agg (prC p), .vs 1 (intsC l)] h = some (.agg (prC (relP p l)), h) := by
  have hC := pcopy_run p (k - 1) (by omega) hK hv h h.length (Nat.le_refl _)
  rw [show k - 1 + 1 = k by omega, (HP_eq h p.width p.body hne).1, (HP_eq h p.width p.body hne).2] at hC
  have hfin := rrelabel_fin h p.width p.body p.vars (relV p.vars l)
  rw [relV_len hll] at hfin
  obtain ⟨w, vs, body⟩ := p
  dsimp only at *
  apply W_call Try.func30 rfl (Nat.le_of_ble_eq_true rfl) rfl
  (repeat' (first | apply W_seq | refine W_true rfl rfl ?_ | refine W_false rfl rfl ?_ | refine W_region (id := 0) rfl ?_ | (refine W_ops (id := 1) ?_ <;> refine T_ch 1 rfl ?_ <;> (refine T_go rfl ?_; refine G_op (O_call rfl rfl rfl rfl (by assumption)) ?_) <;> refine T_ch 2 rfl ?_ <;> apply T_nil) | refine W_region (id := 2) rfl ?_ | apply W_skip | apply W_block | apply W_ret | apply W_exit | refine W_true rfl (by assumption) ?_ | refine W_false rfl (by assumption) ?_ | refine W_cond rfl (fun _ => ?_) (fun _ => ?_)))
  apply W_iterI (S := rrS h w body l vs.length) (l := vs) (a0 := HQ h w body vs vs) (fun i rest H => ∃ a, a = (relV vs l).take i ++ vs.drop i ∧ H = HQ h w body vs a) (by omega) (by omega) rfl ⟨vs, by simp, rfl⟩
  · intro i v rest H hi hd hil hJ
    obtain ⟨a, ha', rfl⟩ := hJ
    obtain ⟨n, hn⟩ : ∃ n, l[i]? = some n := ⟨l[i]'(by omega), List.getElem?_eq_getElem _⟩
    obtain ⟨hai, hset⟩ := rel_step hi hn ha'
    have hal : a.length = vs.length := by rw [ha', List.length_append, List.length_take, List.length_drop, relV_len hll]; omega
    have hrow := intsC_get hn
    have hlt : decide ((i : Int) < (vs.length : Int)) = true := decide_eq_true (by omega)
    have hgv : (HQ h w body vs a)[h.length + 1]? = some (.cells 76 (vsC a).flatten) := by simp [HQ]
    have hvl' : 0 + vs.length * 3 = (vsC a).flatten.length := by rw [vsC_flat, hal]; omega
    have hst : h.length ≤ h.length + 1 ∧ (vsC a).flatten.length = (vsC a).flatten.length ∧ [AV.int .i64 n].length = 1 ∧ 0 + i * 3 + 1 + 1 ≤ (vsC a).flatten.length := ⟨by omega, rfl, rfl, by rw [← hvl']; omega⟩
    have hheap : (HQ h w body vs a).set (h.length + 1) (.cells 76 (setCells (vsC a).flatten (0 + i * 3 + 1) [.int .i64 n])) = HQ h w body vs (a.set i { v with level := n }) := by rw [vs_set n hai]; simp [HQ]
    (repeat' (first | apply W_seq | refine W_true rfl rfl ?_ | refine W_false rfl rfl ?_ | (refine W_ops (id := 3) ?_ <;> refine T_ch 4 rfl ?_ <;> (refine T_go rfl ?_; first | refine G_true rfl rfl ?_ | refine G_false rfl rfl ?_ | refine G_true rfl (by with_reducible assumption) ?_ | refine G_false rfl (by with_reducible assumption) ?_ | refine G_true rfl (by assumption) ?_ | refine G_false rfl (by assumption) ?_ | refine G_split rfl (fun _ => ?_) (fun _ => ?_)) <;> apply T_nil) | refine W_region (id := 4) rfl ?_ | (refine W_dops (id := 5) (bs := [0, 1, 0, 0, 0, 24, 56, 127, 255, 511]) (by decide +kernel) ?_ <;> (refine U_go rfl ?_; refine H_free (by decide +kernel) rfl rfl rfl rfl rfl ?_) <;> (refine U_go rfl ?_; refine H_free (by decide +kernel) rfl rfl rfl rfl rfl ?_) <;> (refine U_go rfl ?_; refine H_free (by decide +kernel) rfl rfl rfl rfl rfl ?_) <;> (refine U_go rfl ?_; refine H_free (by decide +kernel) rfl rfl rfl rfl rfl ?_) <;> (refine U_go rfl ?_; refine H_free (by decide +kernel) rfl rfl rfl rfl rfl ?_) <;> (refine U_go rfl ?_; first | refine H_free (by decide +kernel) rfl (O_index rfl rfl rfl rfl rfl (by assumption)) rfl rfl rfl ?_ | refine H_free (by decide +kernel) rfl (O_indexI rfl rfl rfl rfl rfl (by assumption)) rfl rfl rfl ?_ | refine H_free (by decide +kernel) rfl (O_indexH rfl rfl rfl rfl rfl (by assumption) (by assumption) (by assumption)) rfl rfl rfl ?_ | refine H_free (by decide +kernel) rfl rfl rfl rfl rfl ?_) <;> (refine U_go rfl ?_; first | refine H_free (by decide +kernel) rfl rfl rfl rfl rfl ?_ | refine H_free (by decide +kernel) rfl (O_loadS rfl rfl rfl rfl (by assumption) rfl rfl) rfl rfl rfl ?_ | refine H_free (by decide +kernel) rfl (O_loadH rfl rfl rfl (by assumption) rfl rfl) rfl rfl rfl ?_) <;> (refine U_go rfl ?_; first | refine H_op (by decide +kernel) (O_index rfl rfl rfl rfl rfl (by assumption)) ?_ | refine H_op (by decide +kernel) (O_indexI rfl rfl rfl rfl rfl (by assumption)) ?_ | refine H_op (by decide +kernel) (O_indexH rfl rfl rfl rfl rfl (by assumption) (by assumption) (by assumption)) ?_ | refine H_op (by decide +kernel) rfl ?_) <;> (refine U_go rfl ?_; refine H_op (by decide +kernel) rfl ?_) <;> (refine U_go rfl ?_; first | refine H_op (by decide +kernel) (O_storeS rfl rfl rfl rfl rfl (by assumption) (by assumption) ⟨rfl, rfl, Nat.le_of_ble_eq_true rfl⟩ rfl) ?_ | refine H_op (by decide +kernel) rfl ?_ | refine H_op (by decide +kernel) (O_storeH rfl rfl rfl rfl (by assumption) ⟨by assumption, rfl, rfl, Nat.le_of_ble_eq_true rfl⟩) ?_ | refine H_op (by decide +kernel) (O_storeH rfl rfl rfl rfl (by assumption) (by assumption)) ?_) <;> apply U_nil) | apply W_skip | apply W_block | apply W_ret | apply W_exit | refine W_true rfl (by assumption) ?_ | refine W_false rfl (by assumption) ?_ | refine W_cond rfl (fun _ => ?_) (fun _ => ?_)))
    exact ⟨_, rfl, _, hset, hheap⟩
  · intro H hJ
    obtain ⟨a, ha', rfl⟩ := hJ
    have : a = relV vs l := by rw [ha', List.drop_length, List.append_nil, List.take_of_length_le (by rw [relV_len hll]; omega)]
    subst this
    have hlt : decide ((vs.length : Int) < (vs.length : Int)) = false := decide_eq_false (by omega)
    (repeat' (first | apply W_seq | refine W_true rfl rfl ?_ | refine W_false rfl rfl ?_ | (refine W_ops (id := 3) ?_ <;> refine T_ch 4 rfl ?_ <;> (refine T_go rfl ?_; first | refine G_true rfl rfl ?_ | refine G_false rfl rfl ?_ | refine G_true rfl (by with_reducible assumption) ?_ | refine G_false rfl (by with_reducible assumption) ?_ | refine G_true rfl (by assumption) ?_ | refine G_false rfl (by assumption) ?_ | refine G_split rfl (fun _ => ?_) (fun _ => ?_)) <;> apply T_nil) | refine W_region (id := 6) rfl ?_ | apply W_skip | apply W_block | apply W_ret | apply W_exit | refine W_true rfl (by assumption) ?_ | refine W_false rfl (by assumption) ?_ | refine W_cond rfl (fun _ => ?_) (fun _ => ?_)))
    exact ⟨.inl rfl, hfin⟩
end Go.Proofs.Ytelobnllkhnpaaa.L
/- The law LevelRelabels. -/
open Go Go.Proofs Go.Ev Go.Proofs.Ytelobnllkhnpaaa.E
namespace Go.Proofs.Ytelobnllkhnpaaa.L
set_option linter.unusedVariables false
set_option linter.unusedSimpArgs false
set_option maxRecDepth 100000

-- How deep a program may be that has so many nodes.
theorem wrap_pred {m : Int} (h1 : 0 < m) (h2 : m ≤ 10000) : IntKind.i64.wrap (m - 1) = m - 1 := Go.Ev.wrap_small (by omega) (by omega)
mutual
theorem leftE_low : ∀ (e : Ex') (m : Int), m ≤ 10000 → leftE e m ≤ m ∨ leftE e m ≤ 0
  | .mk op n c l, m, hm => by
    rw [leftE]
    split
    · exact .inr (by omega)
    · rw [wrap_pred (by omega) hm]
      rcases leftEs_low l (m - 1) (by omega) with h | h
      · exact .inl (by omega)
      · exact .inr h
theorem leftEs_low : ∀ (l : List Ex') (m : Int), m ≤ 10000 → leftEs l m ≤ m ∨ leftEs l m ≤ 0
  | [], m, _ => by rw [leftEs]; exact .inl (Int.le_refl _)
  | e :: l, m, hm => by
    rw [leftEs]
    rcases leftE_low e m hm with h | h
    · rcases leftEs_low l (leftE e m) (by omega) with h' | h'
      · exact .inl (by omega)
      · exact .inr h'
    · rcases leftEs_low l (leftE e m) (by omega) with h' | h'
      · exact .inr (by omega)
      · exact .inr h'
end
mutual
theorem leftE_K : ∀ (e : Ex') (m : Int), m ≤ 10000 → 0 < leftE e m → (exK e : Int) + 2 * leftE e m ≤ 2 * m
  | .mk op n c l, m, hm, h => by
    rw [leftE] at h ⊢
    split at h
    · omega
    · rename_i hc
      rw [if_neg hc]
      rw [wrap_pred (by omega) hm] at h ⊢
      have := leftEs_K l (m - 1) (by omega) h
      rw [exK]; omega
theorem leftEs_K : ∀ (l : List Ex') (m : Int), m ≤ 10000 → 0 < leftEs l m → (exsK l : Int) + 2 * leftEs l m ≤ 2 * m + 1
  | [], m, _, _ => by rw [leftEs, exsK]; omega
  | e :: l, m, hm, h => by
    rw [leftEs] at h ⊢
    have h0 : 0 < leftE e m := by
      rcases Int.lt_or_le 0 (leftE e m) with h' | h'
      · exact h'
      · rcases leftEs_low l (leftE e m) (by omega) with h'' | h'' <;> omega
    have h1 := leftE_K e m hm h0
    have h2 := leftEs_K l (leftE e m) (by have := exK_pos e; omega) h
    rw [exsK]; omega
end
mutual
theorem leftS1_low : ∀ (s : Sm') (m : Int), 0 < m → m ≤ 10000 → leftS1 s m ≤ m ∨ leftS1 s m ≤ 0
  | .mk op n a t e, m, h0, hm => by
    rw [leftS1, wrap_pred h0 hm]
    have h1 := leftEs_low a (m - 1) (by omega)
    have h2 := leftSs_low t (leftEs a (m - 1)) (by omega)
    have h3 := leftSs_low e (leftSs t (leftEs a (m - 1))) (by omega)
    omega
theorem leftSs_low : ∀ (l : List Sm') (m : Int), m ≤ 10000 → leftSs l m ≤ m ∨ leftSs l m ≤ 0
  | [], m, _ => by rw [leftSs]; exact .inl (Int.le_refl _)
  | s :: l, m, hm => by
    rw [leftSs]
    split
    · rename_i h0
      have h1 := leftS1_low s m h0 hm
      have h2 := leftSs_low l (leftS1 s m) (by omega)
      omega
    · exact .inl (Int.le_refl _)
end
mutual
theorem leftS1_K : ∀ (s : Sm') (m : Int), 0 < m → m ≤ 10000 → 0 < leftS1 s m → (smK s : Int) + 10 * leftS1 s m ≤ 10 * m
  | .mk op n a t e, m, h0, hm, h => by
    rw [leftS1, wrap_pred h0 hm] at h ⊢
    have l1 := leftEs_low a (m - 1) (by omega)
    have l2 := leftSs_low t (leftEs a (m - 1)) (by omega)
    have l3 := leftSs_low e (leftSs t (leftEs a (m - 1))) (by omega)
    have k3 := leftSs_K e _ (by omega) h
    have k2 := leftSs_K t (leftEs a (m - 1)) (by omega) (by omega)
    have k1 := leftEs_K a (m - 1) (by omega) (by omega)
    rw [smK]; omega
theorem leftSs_K : ∀ (l : List Sm') (m : Int), m ≤ 10000 → 0 < leftSs l m → (smsK l : Int) + 10 * leftSs l m ≤ 10 * m + 2
  | [], m, _, _ => by rw [leftSs, smsK]; omega
  | s :: l, m, hm, h => by
    rw [leftSs] at h ⊢
    split at h
    · rename_i h0
      rw [if_pos h0]
      have l1 := leftS1_low s m h0 hm
      have l2 := leftSs_low l (leftS1 s m) (by omega)
      have k1 := leftS1_K s m h0 hm (by omega)
      have k2 := leftSs_K l (leftS1 s m) (by omega) h
      rw [smsK]; omega
    · rename_i h0; omega
end
theorem fits_K {l : List Sm'} (h : fitsS l 600 = true) : smsK l ≤ 6100 := by
  have h1 : 0 < leftSs l 601 := of_decide_eq_true h
  have := leftSs_K l 601 (by omega) h1
  omega
theorem relP_B {p : Pr'} {l : List Int} (hb : prB p) (hll : l.length = p.vars.length) : prB (relP p l) := by
  obtain ⟨⟨h1, h2⟩, h3, h4⟩ := hb
  refine ⟨⟨?_, fun v hv => ?_⟩, h3, h4⟩
  · show (relV p.vars l).length < _
    rw [relV_len hll]; exact h1
  · obtain ⟨i, hi⟩ := List.mem_iff_getElem?.1 (show v ∈ relV p.vars l from hv)
    unfold relV at hi
    rw [List.getElem?_zipWith] at hi
    split at hi
    · rename_i a b ha hb
      injection hi with hi; subst hi
      exact h2 a (List.mem_of_getElem? ha)
    · cases hi
set_option maxHeartbeats 2000000 in
theorem levelRelabels_run (p : Pr') (l : List Int) (k : Nat) (hk : smsK p.body + p.vars.length + l.length + 1200 ≤ k) (hb : prB p) (hl : l.length < 9223372036854775808) (h : Heap) (lo : Nat) :
    call Try.prog cfg (k + 1) lo (.func 6) [.agg (prC p), .vs 1 (intsC l)] h = some (.bool true, h) := by
  have hA := awake_run k h.length h (by omega)
  have h1 := fitsS_run (k - 1) h h.length p.body (by omega) hb.2.1 hb.2.2 600
  rw [show k - 1 + 1 = k by omega] at h1
  cases hf : fitsS p.body 600 with
  | false =>
    rw [hf] at h1
    obtain ⟨w, vs, body⟩ := p
    apply W_call Try.func6 rfl (Nat.le_of_ble_eq_true rfl) rfl
    (repeat' (first | apply W_seq | refine W_true rfl rfl ?_ | refine W_false rfl rfl ?_ | refine W_region (id := 0) rfl ?_ | (refine W_ops (id := 1) ?_ <;> refine T_ch 2 rfl ?_ <;> (refine T_go rfl ?_; first | refine G_true (O_call rfl rfl rfl rfl (by assumption)) rfl ?_ | refine G_false (O_call rfl rfl rfl rfl (by assumption)) rfl ?_ | refine G_true (O_call rfl rfl rfl rfl (by assumption)) (by with_reducible assumption) ?_ | refine G_false (O_call rfl rfl rfl rfl (by assumption)) (by with_reducible assumption) ?_ | refine G_true (O_call rfl rfl rfl rfl (by assumption)) (by assumption) ?_ | refine G_false (O_call rfl rfl rfl rfl (by assumption)) (by assumption) ?_ | refine G_split (O_call rfl rfl rfl rfl (by assumption)) (fun _ => ?_) (fun _ => ?_)) <;> refine T_ch 1 rfl ?_ <;> apply T_nil) | (refine W_ops (id := 2) ?_ <;> (refine T_go rfl ?_; first | refine G_true (O_call rfl rfl rfl rfl (by assumption)) rfl ?_ | refine G_false (O_call rfl rfl rfl rfl (by assumption)) rfl ?_ | refine G_true (O_call rfl rfl rfl rfl (by assumption)) (by with_reducible assumption) ?_ | refine G_false (O_call rfl rfl rfl rfl (by assumption)) (by with_reducible assumption) ?_ | refine G_true (O_call rfl rfl rfl rfl (by assumption)) (by assumption) ?_ | refine G_false (O_call rfl rfl rfl rfl (by assumption)) (by assumption) ?_ | refine G_split (O_call rfl rfl rfl rfl (by assumption)) (fun _ => ?_) (fun _ => ?_)) <;> refine T_ch 1 rfl ?_ <;> apply T_nil) | apply W_skip | apply W_block | apply W_ret | apply W_exit | refine W_true rfl (by assumption) ?_ | refine W_false rfl (by assumption) ?_ | refine W_cond rfl (fun _ => ?_) (fun _ => ?_)))
    all_goals exact ⟨.inl rfl, rfl⟩
  | true =>
  rw [hf] at h1
  have hK := fits_K hf
  have hN : smsN p.body ≤ 600 := by
    rw [fitsS_eq _ _ (by omega) (by omega)] at hf
    have := of_decide_eq_true hf
    omega
  have hcq := chk_eq p hN
  have hR := relabel_run p l (k - 1) (by omega) (by omega) (fun hc => by
    rw [hcq] at hc
    rcases faultI_cases p with ⟨_, hP, _⟩ | h' | h'
    · obtain ⟨_, q1, q2⟩ := isP_head hP
      exact ⟨fun e => by rw [e] at q1; simp at q1, by omega⟩
    · omega
    · omega) hl hb h h.length
  have hF := fault_run p (k - 1) (by omega) hb h h.length
  have hNo := none_run (k - 1) h h.length
  rw [show k - 1 + 1 = k by omega] at hR hF hNo
  unfold relabF at hR
  rw [hcq] at hR
  rcases faultI_cases p with ⟨hf, hP, hS⟩ | hf | hf
  · rw [hf] at hR hF
    rw [if_pos rfl] at hR
    obtain ⟨_, q1, q2⟩ := isP_head hP
    have hRg := range_run (k - 1) h h.length p 15 l (by omega) hl
    rw [show k - 1 + 1 = k by omega] at hRg
    cases hrb : rangeB p l 15
    · rw [hrb] at hR hRg
      rw [if_neg (by simp)] at hR
      obtain ⟨w, vs, body⟩ := p
      apply W_call Try.func6 rfl (Nat.le_of_ble_eq_true rfl) rfl
      (repeat' (first | apply W_seq | refine W_true rfl rfl ?_ | refine W_false rfl rfl ?_ | refine W_region (id := 0) rfl ?_ | (refine W_ops (id := 1) ?_ <;> refine T_ch 2 rfl ?_ <;> (refine T_go rfl ?_; first | refine G_true (O_call rfl rfl rfl rfl (by assumption)) rfl ?_ | refine G_false (O_call rfl rfl rfl rfl (by assumption)) rfl ?_ | refine G_true (O_call rfl rfl rfl rfl (by assumption)) (by with_reducible assumption) ?_ | refine G_false (O_call rfl rfl rfl rfl (by assumption)) (by with_reducible assumption) ?_ | refine G_true (O_call rfl rfl rfl rfl (by assumption)) (by assumption) ?_ | refine G_false (O_call rfl rfl rfl rfl (by assumption)) (by assumption) ?_ | refine G_split (O_call rfl rfl rfl rfl (by assumption)) (fun _ => ?_) (fun _ => ?_)) <;> refine T_ch 1 rfl ?_ <;> apply T_nil) | (refine W_ops (id := 3) ?_ <;> refine T_ch 2 rfl ?_ <;> (refine T_go rfl ?_; refine G_op (O_call rfl rfl rfl rfl (by assumption)) ?_) <;> refine T_ch 6 rfl ?_ <;> apply T_nil) | (refine W_ops (id := 4) ?_ <;> refine T_ch 1 rfl ?_ <;> (refine T_go rfl ?_; refine G_op (O_call rfl rfl rfl rfl (by assumption)) ?_) <;> refine T_ch 1 rfl ?_ <;> apply T_nil) | (refine W_ops (id := 5) ?_ <;> refine T_ch 1 rfl ?_ <;> (refine T_go rfl ?_; first | refine G_true rfl rfl ?_ | refine G_false rfl rfl ?_ | refine G_true rfl (by with_reducible assumption) ?_ | refine G_false rfl (by with_reducible assumption) ?_ | refine G_true rfl (by assumption) ?_ | refine G_false rfl (by assumption) ?_ | refine G_split rfl (fun _ => ?_) (fun _ => ?_)) <;> refine T_ch 3 rfl ?_ <;> (first | refine T_skip rfl ?_ | (refine T_go rfl ?_; first | refine G_true (O_call rfl rfl rfl rfl (by assumption)) rfl ?_ | refine G_false (O_call rfl rfl rfl rfl (by assumption)) rfl ?_ | refine G_true (O_call rfl rfl rfl rfl (by assumption)) (by with_reducible assumption) ?_ | refine G_false (O_call rfl rfl rfl rfl (by assumption)) (by with_reducible assumption) ?_ | refine G_true (O_call rfl rfl rfl rfl (by assumption)) (by assumption) ?_ | refine G_false (O_call rfl rfl rfl rfl (by assumption)) (by assumption) ?_ | refine G_split (O_call rfl rfl rfl rfl (by assumption)) (fun _ => ?_) (fun _ => ?_))) <;> refine T_ch 2 rfl ?_ <;> apply T_nil) | refine W_region (id := 6) rfl ?_ | (refine W_ops (id := 7) ?_ <;> refine T_ch 1 rfl ?_ <;> (refine T_go rfl ?_; first | refine G_true rfl rfl ?_ | refine G_false rfl rfl ?_ | refine G_true rfl (by with_reducible assumption) ?_ | refine G_false rfl (by with_reducible assumption) ?_ | refine G_true rfl (by assumption) ?_ | refine G_false rfl (by assumption) ?_ | refine G_split rfl (fun _ => ?_) (fun _ => ?_)) <;> apply T_nil) | (refine W_ops (id := 8) ?_ <;> refine T_ch 2 rfl ?_ <;> (refine T_go rfl ?_; first | refine G_true rfl rfl ?_ | refine G_false rfl rfl ?_ | refine G_true rfl (by with_reducible assumption) ?_ | refine G_false rfl (by with_reducible assumption) ?_ | refine G_true rfl (by assumption) ?_ | refine G_false rfl (by assumption) ?_ | refine G_split rfl (fun _ => ?_) (fun _ => ?_)) <;> refine T_ch 2 rfl ?_ <;> (first | refine T_skip rfl ?_ | (refine T_go rfl ?_; first | refine G_true (O_call rfl rfl rfl rfl (by assumption)) rfl ?_ | refine G_false (O_call rfl rfl rfl rfl (by assumption)) rfl ?_ | refine G_true (O_call rfl rfl rfl rfl (by assumption)) (by with_reducible assumption) ?_ | refine G_false (O_call rfl rfl rfl rfl (by assumption)) (by with_reducible assumption) ?_ | refine G_true (O_call rfl rfl rfl rfl (by assumption)) (by assumption) ?_ | refine G_false (O_call rfl rfl rfl rfl (by assumption)) (by assumption) ?_ | refine G_split (O_call rfl rfl rfl rfl (by assumption)) (fun _ => ?_) (fun _ => ?_))) <;> refine T_ch 2 rfl ?_ <;> (first | refine T_skip rfl ?_ | (refine T_go rfl ?_; first | refine G_true (O_call rfl rfl rfl rfl (by assumption)) rfl ?_ | refine G_false (O_call rfl rfl rfl rfl (by assumption)) rfl ?_ | refine G_true (O_call rfl rfl rfl rfl (by assumption)) (by with_reducible assumption) ?_ | refine G_false (O_call rfl rfl rfl rfl (by assumption)) (by with_reducible assumption) ?_ | refine G_true (O_call rfl rfl rfl rfl (by assumption)) (by assumption) ?_ | refine G_false (O_call rfl rfl rfl rfl (by assumption)) (by assumption) ?_ | refine G_split (O_call rfl rfl rfl rfl (by assumption)) (fun _ => ?_) (fun _ => ?_))) <;> refine T_ch 2 rfl ?_ <;> apply T_nil) | apply W_skip | apply W_block | apply W_ret | apply W_exit | refine W_true rfl (by assumption) ?_ | refine W_false rfl (by assumption) ?_ | refine W_cond rfl (fun _ => ?_) (fun _ => ?_)))
      all_goals exact ⟨.inl rfl, rfl⟩
    · rw [hrb] at hR hRg
      rw [if_pos rfl] at hR
      have hll : l.length = p.vars.length := by
        unfold rangeB at hrb
        simp only [Bool.and_eq_true, decide_eq_true_eq] at hrb
        exact hrb.2
      have hRR := fun H => rrelabel_run p l (k - 1) (by omega) (by omega) (fun e => by rw [e] at q1; simp at q1) (by omega) hll h H
      have hPP := sameP_run (relP p l) (k - 1) (by show smsK p.body + (relV p.vars l).length + 10 ≤ k - 1; rw [relV_len hll]; omega) (relP_B hb hll) h h.length
      rw [show k - 1 + 1 = k by omega] at hRR hPP
      have hRR' := hRR h.length
      generalize hq : relP p l = q at hR hRR hRR' hPP
      have hqb : q.body = p.body := by rw [← hq]; rfl
      rw [← hqb] at h1
      have h1' : call Try.prog cfg k h.length (.func 11) [.vs 5 (smsC p.body), .int .i64 600] h = some (.bool true, h) := by rw [← hqb]; exact h1
      obtain ⟨w, vs, body⟩ := p
      obtain ⟨w', vs', body'⟩ := q
      apply W_call Try.func6 rfl (Nat.le_of_ble_eq_true rfl) rfl
      (repeat' (first | apply W_seq | refine W_true rfl rfl ?_ | refine W_false rfl rfl ?_ | refine W_region (id := 0) rfl ?_ | (refine W_ops (id := 1) ?_ <;> refine T_ch 2 rfl ?_ <;> (refine T_go rfl ?_; first | refine G_true (O_call rfl rfl rfl rfl (by assumption)) rfl ?_ | refine G_false (O_call rfl rfl rfl rfl (by assumption)) rfl ?_ | refine G_true (O_call rfl rfl rfl rfl (by assumption)) (by with_reducible assumption) ?_ | refine G_false (O_call rfl rfl rfl rfl (by assumption)) (by with_reducible assumption) ?_ | refine G_true (O_call rfl rfl rfl rfl (by assumption)) (by assumption) ?_ | refine G_false (O_call rfl rfl rfl rfl (by assumption)) (by assumption) ?_ | refine G_split (O_call rfl rfl rfl rfl (by assumption)) (fun _ => ?_) (fun _ => ?_)) <;> refine T_ch 1 rfl ?_ <;> apply T_nil) | (refine W_ops (id := 3) ?_ <;> refine T_ch 2 rfl ?_ <;> (refine T_go rfl ?_; refine G_op (O_call rfl rfl rfl rfl (by assumption)) ?_) <;> refine T_ch 6 rfl ?_ <;> apply T_nil) | (refine W_ops (id := 4) ?_ <;> refine T_ch 1 rfl ?_ <;> (refine T_go rfl ?_; refine G_op (O_call rfl rfl rfl rfl (by assumption)) ?_) <;> refine T_ch 1 rfl ?_ <;> apply T_nil) | (refine W_ops (id := 5) ?_ <;> refine T_ch 1 rfl ?_ <;> (refine T_go rfl ?_; first | refine G_true rfl rfl ?_ | refine G_false rfl rfl ?_ | refine G_true rfl (by with_reducible assumption) ?_ | refine G_false rfl (by with_reducible assumption) ?_ | refine G_true rfl (by assumption) ?_ | refine G_false rfl (by assumption) ?_ | refine G_split rfl (fun _ => ?_) (fun _ => ?_)) <;> refine T_ch 3 rfl ?_ <;> (first | refine T_skip rfl ?_ | (refine T_go rfl ?_; first | refine G_true (O_call rfl rfl rfl rfl (by assumption)) rfl ?_ | refine G_false (O_call rfl rfl rfl rfl (by assumption)) rfl ?_ | refine G_true (O_call rfl rfl rfl rfl (by assumption)) (by with_reducible assumption) ?_ | refine G_false (O_call rfl rfl rfl rfl (by assumption)) (by with_reducible assumption) ?_ | refine G_true (O_call rfl rfl rfl rfl (by assumption)) (by assumption) ?_ | refine G_false (O_call rfl rfl rfl rfl (by assumption)) (by assumption) ?_ | refine G_split (O_call rfl rfl rfl rfl (by assumption)) (fun _ => ?_) (fun _ => ?_))) <;> refine T_ch 2 rfl ?_ <;> apply T_nil) | (refine W_ops (id := 7) ?_ <;> refine T_ch 1 rfl ?_ <;> (refine T_go rfl ?_; first | refine G_true rfl rfl ?_ | refine G_false rfl rfl ?_ | refine G_true rfl (by with_reducible assumption) ?_ | refine G_false rfl (by with_reducible assumption) ?_ | refine G_true rfl (by assumption) ?_ | refine G_false rfl (by assumption) ?_ | refine G_split rfl (fun _ => ?_) (fun _ => ?_)) <;> apply T_nil) | (refine W_dops (id := 9) (bs := [0, 1, 3, 7, 15, 31, 63, 127, 255, 255, 255, 1791, 4095, 8191, 16383, 32767, 65535, 131071]) (by decide +kernel) ?_ <;> (refine U_go rfl ?_; refine H_op (by decide +kernel) rfl ?_) <;> (refine U_go rfl ?_; first | refine H_true (by decide +kernel) rfl rfl ?_ | refine H_false (by decide +kernel) rfl rfl ?_ | refine H_true (by decide +kernel) rfl (by with_reducible assumption) ?_ | refine H_false (by decide +kernel) rfl (by with_reducible assumption) ?_ | refine H_true (by decide +kernel) rfl (by assumption) ?_ | refine H_false (by decide +kernel) rfl (by assumption) ?_ | refine H_split (by decide +kernel) rfl (fun _ => ?_) (fun _ => ?_)) <;> (refine U_go rfl ?_; refine H_op (by decide +kernel) rfl ?_) <;> (first | refine U_skip rfl ?_ | (refine U_go rfl ?_; refine H_op (by decide +kernel) rfl ?_)) <;> (first | refine U_skip rfl ?_ | (refine U_go rfl ?_; refine H_op (by decide +kernel) rfl ?_)) <;> (first | refine U_skip rfl ?_ | (refine U_go rfl ?_; first | refine H_true (by decide +kernel) (O_call rfl rfl rfl rfl (by assumption)) rfl ?_ | refine H_false (by decide +kernel) (O_call rfl rfl rfl rfl (by assumption)) rfl ?_ | refine H_true (by decide +kernel) (O_call rfl rfl rfl rfl (by assumption)) (by with_reducible assumption) ?_ | refine H_false (by decide +kernel) (O_call rfl rfl rfl rfl (by assumption)) (by with_reducible assumption) ?_ | refine H_true (by decide +kernel) (O_call rfl rfl rfl rfl (by assumption)) (by assumption) ?_ | refine H_false (by decide +kernel) (O_call rfl rfl rfl rfl (by assumption)) (by assumption) ?_ | refine H_split (by decide +kernel) (O_call rfl rfl rfl rfl (by assumption)) (fun _ => ?_) (fun _ => ?_))) <;> (refine U_go rfl ?_; refine H_op (by decide +kernel) rfl ?_) <;> (refine U_go rfl ?_; refine H_op (by decide +kernel) rfl ?_) <;> (first | refine U_skip rfl ?_ | (refine U_go rfl ?_; refine H_free (by decide +kernel) rfl rfl rfl rfl rfl ?_)) <;> (first | refine U_skip rfl ?_ | (refine U_go rfl ?_; refine H_free (by decide +kernel) rfl rfl rfl rfl rfl ?_)) <;> (first | refine U_skip rfl ?_ | (refine U_go rfl ?_; refine H_free (by decide +kernel) rfl rfl rfl rfl rfl ?_)) <;> (first | refine U_skip rfl ?_ | (refine U_go rfl ?_; first | refine H_free (by decide +kernel) rfl (O_call rfl rfl rfl rfl (by assumption)) rfl rfl rfl ?_ | refine H_make (by decide +kernel) rfl (O_call rfl rfl rfl rfl (by assumption)) rfl rfl rfl ?_)) <;> (first | refine U_skip rfl ?_ | (refine U_go rfl ?_; first | refine H_true (by decide +kernel) (O_call rfl rfl rfl rfl (by assumption)) rfl ?_ | refine H_false (by decide +kernel) (O_call rfl rfl rfl rfl (by assumption)) rfl ?_ | refine H_true (by decide +kernel) (O_call rfl rfl rfl rfl (by assumption)) (by with_reducible assumption) ?_ | refine H_false (by decide +kernel) (O_call rfl rfl rfl rfl (by assumption)) (by with_reducible assumption) ?_ | refine H_true (by decide +kernel) (O_call rfl rfl rfl rfl (by assumption)) (by assumption) ?_ | refine H_false (by decide +kernel) (O_call rfl rfl rfl rfl (by assumption)) (by assumption) ?_ | refine H_split (by decide +kernel) (O_call rfl rfl rfl rfl (by assumption)) (fun _ => ?_) (fun _ => ?_))) <;> (refine U_go rfl ?_; refine H_op (by decide +kernel) rfl ?_) <;> (refine U_go rfl ?_; refine H_op (by decide +kernel) rfl ?_) <;> (first | refine U_skip rfl ?_ | (refine U_go rfl ?_; first | refine H_true (by decide +kernel) (O_call rfl rfl rfl rfl (by assumption)) rfl ?_ | refine H_false (by decide +kernel) (O_call rfl rfl rfl rfl (by assumption)) rfl ?_ | refine H_true (by decide +kernel) (O_call rfl rfl rfl rfl (by assumption)) (by with_reducible assumption) ?_ | refine H_false (by decide +kernel) (O_call rfl rfl rfl rfl (by assumption)) (by with_reducible assumption) ?_ | refine H_true (by decide +kernel) (O_call rfl rfl rfl rfl (by assumption)) (by assumption) ?_ | refine H_false (by decide +kernel) (O_call rfl rfl rfl rfl (by assumption)) (by assumption) ?_ | refine H_split (by decide +kernel) (O_call rfl rfl rfl rfl (by assumption)) (fun _ => ?_) (fun _ => ?_))) <;> (refine U_go rfl ?_; refine H_op (by decide +kernel) rfl ?_) <;> (refine U_go rfl ?_; refine H_op (by decide +kernel) rfl ?_) <;> apply U_nil) | apply W_skip | apply W_block | apply W_ret | apply W_exit | refine W_true rfl (by assumption) ?_ | refine W_false rfl (by assumption) ?_ | refine W_cond rfl (fun _ => ?_) (fun _ => ?_)))
      all_goals exact ⟨.inl rfl, rfl⟩
  · rw [hf] at hR hF
    rw [if_neg (by simp)] at hR
    obtain ⟨w, vs, body⟩ := p
    apply W_call Try.func6 rfl (Nat.le_of_ble_eq_true rfl) rfl
    (repeat' (first | apply W_seq | refine W_true rfl rfl ?_ | refine W_false rfl rfl ?_ | refine W_region (id := 0) rfl ?_ | (refine W_ops (id := 1) ?_ <;> refine T_ch 2 rfl ?_ <;> (refine T_go rfl ?_; first | refine G_true (O_call rfl rfl rfl rfl (by assumption)) rfl ?_ | refine G_false (O_call rfl rfl rfl rfl (by assumption)) rfl ?_ | refine G_true (O_call rfl rfl rfl rfl (by assumption)) (by with_reducible assumption) ?_ | refine G_false (O_call rfl rfl rfl rfl (by assumption)) (by with_reducible assumption) ?_ | refine G_true (O_call rfl rfl rfl rfl (by assumption)) (by assumption) ?_ | refine G_false (O_call rfl rfl rfl rfl (by assumption)) (by assumption) ?_ | refine G_split (O_call rfl rfl rfl rfl (by assumption)) (fun _ => ?_) (fun _ => ?_)) <;> refine T_ch 1 rfl ?_ <;> apply T_nil) | (refine W_ops (id := 3) ?_ <;> refine T_ch 2 rfl ?_ <;> (refine T_go rfl ?_; refine G_op (O_call rfl rfl rfl rfl (by assumption)) ?_) <;> refine T_ch 6 rfl ?_ <;> apply T_nil) | (refine W_ops (id := 4) ?_ <;> refine T_ch 1 rfl ?_ <;> (refine T_go rfl ?_; refine G_op (O_call rfl rfl rfl rfl (by assumption)) ?_) <;> refine T_ch 1 rfl ?_ <;> apply T_nil) | (refine W_ops (id := 5) ?_ <;> refine T_ch 1 rfl ?_ <;> (refine T_go rfl ?_; first | refine G_true rfl rfl ?_ | refine G_false rfl rfl ?_ | refine G_true rfl (by with_reducible assumption) ?_ | refine G_false rfl (by with_reducible assumption) ?_ | refine G_true rfl (by assumption) ?_ | refine G_false rfl (by assumption) ?_ | refine G_split rfl (fun _ => ?_) (fun _ => ?_)) <;> refine T_ch 3 rfl ?_ <;> (first | refine T_skip rfl ?_ | (refine T_go rfl ?_; first | refine G_true (O_call rfl rfl rfl rfl (by assumption)) rfl ?_ | refine G_false (O_call rfl rfl rfl rfl (by assumption)) rfl ?_ | refine G_true (O_call rfl rfl rfl rfl (by assumption)) (by with_reducible assumption) ?_ | refine G_false (O_call rfl rfl rfl rfl (by assumption)) (by with_reducible assumption) ?_ | refine G_true (O_call rfl rfl rfl rfl (by assumption)) (by assumption) ?_ | refine G_false (O_call rfl rfl rfl rfl (by assumption)) (by assumption) ?_ | refine G_split (O_call rfl rfl rfl rfl (by assumption)) (fun _ => ?_) (fun _ => ?_))) <;> refine T_ch 2 rfl ?_ <;> apply T_nil) | (refine W_ops (id := 7) ?_ <;> refine T_ch 1 rfl ?_ <;> (refine T_go rfl ?_; first | refine G_true rfl rfl ?_ | refine G_false rfl rfl ?_ | refine G_true rfl (by with_reducible assumption) ?_ | refine G_false rfl (by with_reducible assumption) ?_ | refine G_true rfl (by assumption) ?_ | refine G_false rfl (by assumption) ?_ | refine G_split rfl (fun _ => ?_) (fun _ => ?_)) <;> apply T_nil) | (refine W_ops (id := 8) ?_ <;> refine T_ch 2 rfl ?_ <;> (refine T_go rfl ?_; first | refine G_true rfl rfl ?_ | refine G_false rfl rfl ?_ | refine G_true rfl (by with_reducible assumption) ?_ | refine G_false rfl (by with_reducible assumption) ?_ | refine G_true rfl (by assumption) ?_ | refine G_false rfl (by assumption) ?_ | refine G_split rfl (fun _ => ?_) (fun _ => ?_)) <;> refine T_ch 2 rfl ?_ <;> (first | refine T_skip rfl ?_ | (refine T_go rfl ?_; first | refine G_true (O_call rfl rfl rfl rfl (by assumption)) rfl ?_ | refine G_false (O_call rfl rfl rfl rfl (by assumption)) rfl ?_ | refine G_true (O_call rfl rfl rfl rfl (by assumption)) (by with_reducible assumption) ?_ | refine G_false (O_call rfl rfl rfl rfl (by assumption)) (by with_reducible assumption) ?_ | refine G_true (O_call rfl rfl rfl rfl (by assumption)) (by assumption) ?_ | refine G_false (O_call rfl rfl rfl rfl (by assumption)) (by assumption) ?_ | refine G_split (O_call rfl rfl rfl rfl (by assumption)) (fun _ => ?_) (fun _ => ?_))) <;> refine T_ch 2 rfl ?_ <;> (first | refine T_skip rfl ?_ | (refine T_go rfl ?_; first | refine G_true (O_call rfl rfl rfl rfl (by assumption)) rfl ?_ | refine G_false (O_call rfl rfl rfl rfl (by assumption)) rfl ?_ | refine G_true (O_call rfl rfl rfl rfl (by assumption)) (by with_reducible assumption) ?_ | refine G_false (O_call rfl rfl rfl rfl (by assumption)) (by with_reducible assumption) ?_ | refine G_true (O_call rfl rfl rfl rfl (by assumption)) (by assumption) ?_ | refine G_false (O_call rfl rfl rfl rfl (by assumption)) (by assumption) ?_ | refine G_split (O_call rfl rfl rfl rfl (by assumption)) (fun _ => ?_) (fun _ => ?_))) <;> refine T_ch 2 rfl ?_ <;> apply T_nil) | apply W_skip | apply W_block | apply W_ret | apply W_exit | refine W_true rfl (by assumption) ?_ | refine W_false rfl (by assumption) ?_ | refine W_cond rfl (fun _ => ?_) (fun _ => ?_)))
    all_goals exact ⟨.inl rfl, rfl⟩
  · rw [hf] at hR hF
    rw [if_neg (by simp)] at hR
    obtain ⟨w, vs, body⟩ := p
    apply W_call Try.func6 rfl (Nat.le_of_ble_eq_true rfl) rfl
    (repeat' (first | apply W_seq | refine W_true rfl rfl ?_ | refine W_false rfl rfl ?_ | refine W_region (id := 0) rfl ?_ | (refine W_ops (id := 1) ?_ <;> refine T_ch 2 rfl ?_ <;> (refine T_go rfl ?_; first | refine G_true (O_call rfl rfl rfl rfl (by assumption)) rfl ?_ | refine G_false (O_call rfl rfl rfl rfl (by assumption)) rfl ?_ | refine G_true (O_call rfl rfl rfl rfl (by assumption)) (by with_reducible assumption) ?_ | refine G_false (O_call rfl rfl rfl rfl (by assumption)) (by with_reducible assumption) ?_ | refine G_true (O_call rfl rfl rfl rfl (by assumption)) (by assumption) ?_ | refine G_false (O_call rfl rfl rfl rfl (by assumption)) (by assumption) ?_ | refine G_split (O_call rfl rfl rfl rfl (by assumption)) (fun _ => ?_) (fun _ => ?_)) <;> refine T_ch 1 rfl ?_ <;> apply T_nil) | (refine W_ops (id := 3) ?_ <;> refine T_ch 2 rfl ?_ <;> (refine T_go rfl ?_; refine G_op (O_call rfl rfl rfl rfl (by assumption)) ?_) <;> refine T_ch 6 rfl ?_ <;> apply T_nil) | (refine W_ops (id := 4) ?_ <;> refine T_ch 1 rfl ?_ <;> (refine T_go rfl ?_; refine G_op (O_call rfl rfl rfl rfl (by assumption)) ?_) <;> refine T_ch 1 rfl ?_ <;> apply T_nil) | (refine W_ops (id := 5) ?_ <;> refine T_ch 1 rfl ?_ <;> (refine T_go rfl ?_; first | refine G_true rfl rfl ?_ | refine G_false rfl rfl ?_ | refine G_true rfl (by with_reducible assumption) ?_ | refine G_false rfl (by with_reducible assumption) ?_ | refine G_true rfl (by assumption) ?_ | refine G_false rfl (by assumption) ?_ | refine G_split rfl (fun _ => ?_) (fun _ => ?_)) <;> refine T_ch 3 rfl ?_ <;> (first | refine T_skip rfl ?_ | (refine T_go rfl ?_; first | refine G_true (O_call rfl rfl rfl rfl (by assumption)) rfl ?_ | refine G_false (O_call rfl rfl rfl rfl (by assumption)) rfl ?_ | refine G_true (O_call rfl rfl rfl rfl (by assumption)) (by with_reducible assumption) ?_ | refine G_false (O_call rfl rfl rfl rfl (by assumption)) (by with_reducible assumption) ?_ | refine G_true (O_call rfl rfl rfl rfl (by assumption)) (by assumption) ?_ | refine G_false (O_call rfl rfl rfl rfl (by assumption)) (by assumption) ?_ | refine G_split (O_call rfl rfl rfl rfl (by assumption)) (fun _ => ?_) (fun _ => ?_))) <;> refine T_ch 2 rfl ?_ <;> apply T_nil) | (refine W_ops (id := 7) ?_ <;> refine T_ch 1 rfl ?_ <;> (refine T_go rfl ?_; first | refine G_true rfl rfl ?_ | refine G_false rfl rfl ?_ | refine G_true rfl (by with_reducible assumption) ?_ | refine G_false rfl (by with_reducible assumption) ?_ | refine G_true rfl (by assumption) ?_ | refine G_false rfl (by assumption) ?_ | refine G_split rfl (fun _ => ?_) (fun _ => ?_)) <;> apply T_nil) | (refine W_ops (id := 8) ?_ <;> refine T_ch 2 rfl ?_ <;> (refine T_go rfl ?_; first | refine G_true rfl rfl ?_ | refine G_false rfl rfl ?_ | refine G_true rfl (by with_reducible assumption) ?_ | refine G_false rfl (by with_reducible assumption) ?_ | refine G_true rfl (by assumption) ?_ | refine G_false rfl (by assumption) ?_ | refine G_split rfl (fun _ => ?_) (fun _ => ?_)) <;> refine T_ch 2 rfl ?_ <;> (first | refine T_skip rfl ?_ | (refine T_go rfl ?_; first | refine G_true (O_call rfl rfl rfl rfl (by assumption)) rfl ?_ | refine G_false (O_call rfl rfl rfl rfl (by assumption)) rfl ?_ | refine G_true (O_call rfl rfl rfl rfl (by assumption)) (by with_reducible assumption) ?_ | refine G_false (O_call rfl rfl rfl rfl (by assumption)) (by with_reducible assumption) ?_ | refine G_true (O_call rfl rfl rfl rfl (by assumption)) (by assumption) ?_ | refine G_false (O_call rfl rfl rfl rfl (by assumption)) (by assumption) ?_ | refine G_split (O_call rfl rfl rfl rfl (by assumption)) (fun _ => ?_) (fun _ => ?_))) <;> refine T_ch 2 rfl ?_ <;> (first | refine T_skip rfl ?_ | (refine T_go rfl ?_; first | refine G_true (O_call rfl rfl rfl rfl (by assumption)) rfl ?_ | refine G_false (O_call rfl rfl rfl rfl (by assumption)) rfl ?_ | refine G_true (O_call rfl rfl rfl rfl (by assumption)) (by with_reducible assumption) ?_ | refine G_false (O_call rfl rfl rfl rfl (by assumption)) (by with_reducible assumption) ?_ | refine G_true (O_call rfl rfl rfl rfl (by assumption)) (by assumption) ?_ | refine G_false (O_call rfl rfl rfl rfl (by assumption)) (by assumption) ?_ | refine G_split (O_call rfl rfl rfl rfl (by assumption)) (fun _ => ?_) (fun _ => ?_))) <;> refine T_ch 2 rfl ?_ <;> apply T_nil) | apply W_skip | apply W_block | apply W_ret | apply W_exit | refine W_true rfl (by assumption) ?_ | refine W_false rfl (by assumption) ?_ | refine W_cond rfl (fun _ => ?_) (fun _ => ?_)))
    all_goals exact ⟨.inl rfl, rfl⟩
end Go.Proofs.Ytelobnllkhnpaaa.L
/- An argument of ints. -/
open Go Go.Proofs Go.Ev Go.Proofs.Ytelobnllkhnpaaa.E
namespace Go.Proofs.Ytelobnllkhnpaaa.L
set_option linter.unusedVariables false
set_option linter.unusedSimpArgs false
set_option maxRecDepth 100000

section
variable {H : Type} {enc : TypeId × Value → H} {w : World} {spare : Nat → Bool} {held : Bool} {S : Nat → Prop}
theorem cells_int : Try.prog.cellsOf 3 = 1 := by kernel_rfl
theorem trod_ints (hS : ∀ b, b < w.heap.size → S b) (fuel : Nat) {v : Value} {x : DataW H × List MemPlace} (h : DataW.trod enc Try.prog w 0 spare held fuel 38 [v] = some x) : ∃ l : List Int, RelV (Ctx.start w S) (.vs 1 (intsC l)) v ∧ l.length < 9223372036854775808 := by
  cases fuel with
  | zero => cases h
  | succ fuel =>
    obtain ⟨l, h1, h2, _⟩ := rel_vs hS cells_int Try.underlying38 h (fun n : Int => [AV.int .i64 n]) (fun _ => True) (fun row y hy => by
      obtain ⟨n, e⟩ := trod_int Try.underlying3 hy
      subst e
      exact ⟨n, .cons (.int _ _) .nil, fun a ha => by simp at ha; subst ha; rfl, trivial⟩) (by decide)
    exact ⟨l, h1, Nat.lt_of_le_of_lt h2 maxLen_small⟩
end
end Go.Proofs.Ytelobnllkhnpaaa.L
