/- Types that move, in the program: Clone, together, put, Equal; readers that are shown levels as they are. -/
import Derived.Test.YtelobnllkhnpaaaGreatK6
set_option linter.unusedVariables false
set_option linter.unusedSimpArgs false
set_option maxHeartbeats 2000000
set_option maxRecDepth 100000
open Go Go.Proofs Go.Ev Go.Proofs.YtelobnllkhnpaaaGreat.E
namespace Go.Proofs.YtelobnllkhnpaaaGreat.L
/-- Levels, as they are handed on. -/
def LvArg (H : Heap) (v : AV) (l : List Int) : Prop := v = .vs 1 (intsC l) ∨ ∃ id, v = .sl id 1 0 l.length ∧ H[id]? = some (.cells 3 (ic l))
theorem LvArg.sl {H : Heap} {id : Nat} {l : List Int} (h : H[id]? = some (.cells 3 (ic l))) : LvArg H (.sl id 1 0 l.length) l := .inr ⟨id, rfl, h⟩
theorem clone_append {H : Heap} {lo : Nat} (hlo : lo ≤ H.length) {v : AV} {l : List Int} (hv : LvArg H v l) (hl : l.length < 100000) :
    append cfg.tab lo (H ++ [.cells 3 []]) 26 (.sl H.length 1 0 0) v = some (.sl H.length 1 0 l.length, H ++ [.cells 3 (ic l)]) := by
  have hg : (H ++ [HObj.cells 3 []])[H.length]? = some (.cells 3 []) := by simp
  have hrow : rowOf (H ++ [HObj.cells 3 []]) 1 v = some (ic l) ∧ lenOf v = some l.length := by
    rcases hv with rfl | ⟨id, rfl, hid⟩
    · simp [rowOf, lenOf, ic_flat, intsC_len]
    · refine ⟨?_, rfl⟩
      have : (H ++ [HObj.cells 3 []])[id]? = some (.cells 3 (ic l)) := by rw [List.getElem?_append_left (cells_lt hid)]; exact hid
      unfold rowOf
      dsimp only
      rw [this]
      dsimp only
      rw [if_pos ⟨rfl, by rw [ic_len]; omega⟩, List.drop_zero]
  unfold append
  rw [show Go.Ev.look cfg.tab 26 = some ⟨.slice 3, 1, 24, [.nils]⟩ from rfl]
  dsimp only
  rw [show Go.Ev.look cfg.tab 3 = some ⟨.int .i64, 1, 8, [.int .i64 0]⟩ from rfl]
  dsimp only
  rw [hrow.1, hrow.2]
  dsimp only
  rw [hg]
  dsimp only
  rw [if_pos ⟨hlo, by trivial, by trivial, by trivial, by trivial, by decide, by simp only [room]; omega, by simp only [room]; omega⟩]
  simp
theorem cloneI_run {H : Heap} {lo : Nat} (hlo : lo ≤ H.length) {v : AV} {l : List Int} (hv : LvArg H v l) (hne : l ≠ []) (hl : l.length < 100000) (k : Nat) :
    call Tryz.prog cfg (k + 1) lo (.func 117) [v] H = some (.sl H.length 1 0 l.length, H ++ [.cells 3 (ic l)]) := by
  have hap := clone_append hlo hv hl
  rcases hv with rfl | ⟨id, rfl, hid⟩
  · cases l with
    | nil => exact absurd rfl hne
    | cons x l =>
      apply W_call Tryz.func117 rfl (Nat.le_of_ble_eq_true rfl) rfl rfl
      (repeat' (first | apply W_seq | refine W_false rfl rfl ?_ | refine W_region (id := 0) rfl rfl ?_ | (refine W_ops (id := 1) rfl ?_ <;> refine T_ch 1 rfl ?_ <;> (refine T_go rfl ?_; refine G_false rfl rfl ?_) <;> apply T_nil) | (refine W_ops (id := 3) rfl ?_ <;> refine T_ch 2 rfl ?_ <;> (refine T_go rfl ?_; refine G_op (O_append rfl rfl rfl rfl rfl ‹_›) ?_) <;> refine T_ch 1 rfl ?_ <;> apply T_nil) | apply W_skip | apply W_ret))
      exact ⟨.inl rfl, rfl⟩
  · apply W_call Tryz.func117 rfl (Nat.le_of_ble_eq_true rfl) rfl rfl
    (repeat' (first | apply W_seq | refine W_false rfl rfl ?_ | refine W_region (id := 0) rfl rfl ?_ | (refine W_ops (id := 1) rfl ?_ <;> refine T_ch 1 rfl ?_ <;> (refine T_go rfl ?_; refine G_false rfl rfl ?_) <;> apply T_nil) | (refine W_ops (id := 3) rfl ?_ <;> refine T_ch 2 rfl ?_ <;> (refine T_go rfl ?_; refine G_op (O_append rfl rfl rfl rfl rfl ‹_›) ?_) <;> refine T_ch 1 rfl ?_ <;> apply T_nil) | apply W_skip | apply W_ret))
    exact ⟨.inl rfl, rfl⟩
def tgS (lo idb q m : Nat) (i : Int) (H : Heap) : St :=
  { env := [(1, .v (.sl idb 1 0 m)), (5, .v (.sl q 1 0 m)), (10, .v (.int .i64 m)), (11, .v (.int .i64 i))], loc := [], heap := H, inRound := false, lo := lo }
theorem tg_step {x y cur : List Int} {i : Nat} {v w : Int} (hv : x[i]? = some v) (hw : y[i]? = some w) (hc : cur = joinL (x.take i) (y.take i) ++ x.drop i) :
    cur[i]? = some v ∧ cur.set i (orI v w) = joinL (x.take (i + 1)) (y.take (i + 1)) ++ x.drop (i + 1) := by
  have hix : i < x.length := by
    rcases Nat.lt_or_ge i x.length with h | h
    · exact h
    · rw [List.getElem?_eq_none h] at hv; cases hv
  have hiy : i < y.length := by
    rcases Nat.lt_or_ge i y.length with h | h
    · exact h
    · rw [List.getElem?_eq_none h] at hw; cases hw
  have hl : (joinL (x.take i) (y.take i)).length = i := by simp [joinL]; omega
  have hd : x.drop i = v :: x.drop (i + 1) := by
    rw [List.drop_eq_getElem_cons hix]
    rw [List.getElem?_eq_getElem hix] at hv
    injection hv with hv; rw [hv]
  subst hc
  constructor
  · rw [List.getElem?_append_right (by omega), hl, Nat.sub_self, hd]; rfl
  · rw [List.set_append_right _ _ (by omega), hl, Nat.sub_self, hd, List.set_cons_zero, take_succ_of hv, take_succ_of hw]
    unfold joinL
    rw [List.zipWith_append (by simp; omega), List.append_assoc]
    rfl
theorem together_run {H : Heap} {lo : Nat} (hlo : lo ≤ H.length) {ida idb : Nat} {x y : List Int} (hx : H[ida]? = some (.cells 3 (ic x))) (hy : H[idb]? = some (.cells 3 (ic y))) {m : Nat} (hxm : x.length = m) (hym : y.length = m) (hm : 1 ≤ m) (hm2 : m < 1000) (k : Nat) (hk : m + 2 < k) :
    call Tryz.prog cfg (k + 1) lo (.func 118) [.sl ida 1 0 m, .sl idb 1 0 m] H = some (.sl H.length 1 0 m, H ++ [.cells 3 (ic (joinL x y))]) := by
  have hne : x ≠ [] := fun e => by subst e; simp at hxm; omega
  have hC := cloneI_run hlo (LvArg.sl hx) hne (by omega) (k - 1)
  rw [show k - 1 + 1 = k by omega, hxm] at hC
  apply W_call Tryz.func118 rfl (Nat.le_of_ble_eq_true rfl) rfl rfl
  (repeat' (first | apply W_seq | refine W_region (id := 0) rfl rfl ?_ | (refine W_ops (id := 1) rfl ?_ <;> refine T_ch 1 rfl ?_ <;> (refine T_go rfl ?_; refine G_op (O_call rfl rfl rfl rfl ‹_›) ?_) <;> refine T_ch 1 rfl ?_ <;> apply T_nil) | refine W_region (id := 2) rfl rfl ?_ | apply W_block))
  apply W_iterI (S := tgS lo idb H.length m) (l := x) (a0 := H ++ [.cells 3 (ic x)]) (fun i rest H' => ∃ cur, cur = joinL (x.take i) (y.take i) ++ x.drop i ∧ H' = H ++ [.cells 3 (ic cur)]) (by omega) (by omega) rfl ⟨x, by simp [joinL], rfl⟩
  · intro i v rest H' hi hd hil hJ
    obtain ⟨cur, hcur, rfl⟩ := hJ
    have hiy : i < y.length := by omega
    have hw : y[i]? = some y[i] := List.getElem?_eq_getElem hiy
    obtain ⟨c1, c2⟩ := tg_step hi hw hcur
    have hcl : cur.length = m := by rw [hcur]; simp [joinL]; omega
    generalize y[i] = w at hw c2
    have g1 : (H ++ [HObj.cells 3 (ic cur)])[H.length]? = some (.cells 3 (ic cur)) := by simp
    have g2 : (H ++ [HObj.cells 3 (ic cur)])[idb]? = some (.cells 3 (ic y)) := by rw [List.getElem?_append_left (cells_lt hy)]; exact hy
    have hlt : decide ((i : Int) < (m : Int)) = true := decide_eq_true (by omega)
    have him : i < m := by omega
    have l1 : 0 + m * 1 = (ic cur).length := by rw [ic_len]; omega
    have l2 : 0 + m * 1 = (ic y).length := by rw [ic_len]; omega
    have p1 : (ic cur)[0 + i * 1]? = some (.int .i64 v) := by rw [show 0 + i * 1 = i by omega]; exact ic_get c1
    have p2 : (ic y)[0 + i * 1]? = some (.int .i64 w) := by rw [show 0 + i * 1 = i by omega]; exact ic_get hw
    have hs : lo ≤ H.length ∧ (ic cur).length = (ic cur).length ∧ 1 = 1 ∧ (0 + i * 1) + 1 ≤ (ic cur).length := ⟨hlo, rfl, rfl, by rw [ic_len]; omega⟩
    (repeat' (first | apply W_seq | refine W_true rfl rfl ?_ | (refine W_ops (id := 3) rfl ?_ <;> (refine T_go rfl ?_; refine G_true rfl (by with_reducible assumption) ?_) <;> apply T_nil) | refine W_region (id := 4) rfl rfl ?_ | (refine W_dops (id := 5) (bs := [0, 0, 3, 7, 0, 0, 48, 112, 255, 511, 1023]) rfl (by decide +kernel) (by decide +kernel) ?_ <;> (refine U_go rfl ?_; refine H_free (by decide +kernel) rfl rfl rfl rfl rfl ?_) <;> (refine U_go rfl ?_; refine H_free (by decide +kernel) rfl rfl rfl rfl rfl ?_) <;> (refine U_go rfl ?_; refine H_free (by decide +kernel) rfl (O_indexH rfl rfl rfl rfl rfl ‹_› ‹_› ‹_›) rfl rfl rfl ?_) <;> (refine U_go rfl ?_; refine H_free (by decide +kernel) rfl (O_loadH rfl rfl rfl ‹_› rfl ‹_›) rfl rfl rfl ?_) <;> (refine U_go rfl ?_; refine H_free (by decide +kernel) rfl rfl rfl rfl rfl ?_) <;> (refine U_go rfl ?_; refine H_free (by decide +kernel) rfl rfl rfl rfl rfl ?_) <;> (refine U_go rfl ?_; refine H_free (by decide +kernel) rfl (O_indexH rfl rfl rfl rfl rfl ‹_› ‹_› ‹_›) rfl rfl rfl ?_) <;> (refine U_go rfl ?_; refine H_free (by decide +kernel) rfl (O_loadH rfl rfl rfl ‹_› rfl ‹_›) rfl rfl rfl ?_) <;> (refine U_go rfl ?_; refine H_op (by decide +kernel) rfl ?_) <;> (refine U_go rfl ?_; refine H_op (by decide +kernel) (O_indexH rfl rfl rfl rfl rfl ‹_› ‹_› ‹_›) ?_) <;> (refine U_go rfl ?_; refine H_op (by decide +kernel) (O_storeH rfl rfl rfl rfl ‹_› ‹_›) ?_) <;> apply U_nil) | refine W_region (id := 6) rfl rfl ?_ | apply W_skip | apply W_block))
    refine ⟨_, rfl, cur.set i (orI v w), c2, ?_⟩
    have : setCells (ic cur) (0 + i * 1) [.int .i64 (orI v w)] = ic (cur.set i (orI v w)) := by rw [show 0 + i * 1 = i by omega]; exact ic_set _ (by omega)
    show (H ++ [HObj.cells 3 (ic cur)]).set H.length (.cells 3 (setCells (ic cur) (0 + i * 1) [.int .i64 (orI v w)])) = _
    rw [this]
    simp
  · intro H' hJ
    obtain ⟨cur, hcur, rfl⟩ := hJ
    have hlt : decide ((x.length : Int) < (m : Int)) = false := decide_eq_false (by omega)
    have : cur = joinL x y := by rw [hcur, List.take_of_length_le (Nat.le_refl _), List.take_of_length_le (by omega), List.drop_eq_nil_of_le (Nat.le_refl _), List.append_nil]
    subst this
    (repeat' (first | apply W_seq | refine W_false rfl rfl ?_ | (refine W_ops (id := 3) rfl ?_ <;> (refine T_go rfl ?_; refine G_false rfl (by with_reducible assumption) ?_) <;> apply T_nil) | refine W_region (id := 7) rfl rfl ?_ | apply W_ret | apply W_exit))
    exact ⟨.inl rfl, rfl⟩
/-! ### Shown as they are -/
theorem frzM_one {H : Heap} {id : Nat} {l : List Int} (hg : H[id]? = some (.cells 3 (ic l))) {b : AV} (hb : frz2 H 0 b = some b) : frzM H 0 [.sl id 1 0 l.length, b] = some [.vs 1 (intsC l), b] := by
  have h1 : frz2 H 0 (.sl id 1 0 l.length) = some (.vs 1 (intsC l)) := frz_ic hg (Nat.zero_le _)
  simp only [frzM, h1, hb]
theorem ofAllV_run {H : Heap} {id : Nat} {l : List Int} (hg : H[id]? = some (.cells 3 (ic l))) (es : List Ex') (k : Nat) (hk : exsK es ≤ k) (hl : es.length < 9223372036854775808) (hb : exsB es) (hr : rdEs l.length es) (lo : Nat) :
    call Tryz.prog cfg (k + 2) lo (.func 61) [.sl id 1 0 l.length, .vs 4 (exsC es)] H = some (.int .i64 (ofEs l 0 es), H) :=
  view_call rfl rfl rfl (frzM_one hg rfl) rfl (ofAll_run es l k hk hl hb hr [] 0)
theorem exC_frz2 (H : Heap) (e : Ex') : frz2 H 0 (.agg (exC e)) = some (.agg (exC e)) := by
  obtain ⟨op, n, c, l⟩ := e
  rfl
theorem ofV_run {H : Heap} {id : Nat} {l : List Int} (hg : H[id]? = some (.cells 3 (ic l))) (e : Ex') (k : Nat) (hk : exK e ≤ k) (hb : exB e) (hr : rdE l.length e) (lo : Nat) :
    call Tryz.prog cfg (k + 1) lo (.func 36) [.sl id 1 0 l.length, .agg (exC e)] H = some (.int .i64 (ofE l e), H) :=
  view_call rfl rfl rfl (frzM_one hg (exC_frz2 H e)) rfl (of_run k e l hk hb hr 0 [])
def eqlS (h : Heap) (x y : AV) (n : Nat) (i : Int) (_ : Unit) : St :=
  { env := [(0, .v x), (1, .v y), (12, .v (.int .i64 n)), (13, .v (.int .i64 i))], loc := [], heap := h, inRound := false, lo := h.length }
theorem equal_run (x y : List Int) (hl : x.length < 100000) (k : Nat) (hk : x.length + 2 < k) (h : Heap) (lo : Nat) :
    call Tryz.prog cfg (k + 1) lo (.func 120) [.vs 1 (intsC x), .vs 1 (intsC y)] h = some (.bool (decide (x = y)), h) := by
  cases hc : (((intsC x).length : Int) != ((intsC y).length : Int)) with
  | true =>
    have : x ≠ y := fun e => by subst e; simp at hc
    rw [decide_eq_false this]
    apply W_call Tryz.func120 rfl (Nat.le_of_ble_eq_true rfl) rfl rfl
    (repeat' (first | apply W_seq | refine W_true rfl rfl ?_ | refine W_region (id := 0) rfl rfl ?_ | (refine W_ops (id := 1) rfl ?_ <;> refine T_ch 4 rfl ?_ <;> (refine T_go rfl ?_; refine G_true rfl (by with_reducible assumption) ?_) <;> apply T_nil) | refine W_region (id := 2) rfl rfl ?_ | apply W_ret))
    exact ⟨.inl rfl, rfl⟩
  | false =>
    have hxy : x.length = y.length := by
      simp only [intsC_len, bne_eq_false_iff_eq] at hc
      omega
    apply W_call Tryz.func120 rfl (Nat.le_of_ble_eq_true rfl) rfl rfl
    (repeat' (first | apply W_seq | refine W_false rfl rfl ?_ | refine W_region (id := 0) rfl rfl ?_ | (refine W_ops (id := 1) rfl ?_ <;> refine T_ch 4 rfl ?_ <;> (refine T_go rfl ?_; refine G_false rfl (by with_reducible assumption) ?_) <;> apply T_nil) | refine W_region (id := 3) rfl rfl ?_ | apply W_skip | apply W_block))
    apply W_iterI (S := eqlS h (.vs 1 (intsC x)) (.vs 1 (intsC y)) (intsC x).length) (l := x) (a0 := ()) (fun i rest _ => (rest = y.drop i) = (x = y)) (by omega) (by omega) rfl (by simp)
    · intro i v rest a hi hd hil hJ
      have hrow := intsC_get' hi
      have hiy : i < y.length := by omega
      have hy : y[i]? = some y[i] := List.getElem?_eq_getElem hiy
      have hrow2 := intsC_get' hy
      have hlt := lt_intsL hil
      rw [List.drop_eq_getElem_cons hiy, List.cons.injEq] at hJ
      (repeat' (first | apply W_seq | refine W_true rfl rfl ?_ | refine W_false rfl rfl ?_ | (refine W_ops (id := 4) rfl ?_ <;> (refine T_go rfl ?_; refine G_true rfl (by with_reducible assumption) ?_) <;> apply T_nil) | refine W_region (id := 5) rfl rfl ?_ | (refine W_dops (id := 6) (bs := [0, 0, 3, 7, 0, 0, 48, 112, 255]) rfl (by decide +kernel) (by decide +kernel) ?_ <;> (refine U_go rfl ?_; refine H_free (by decide +kernel) rfl rfl rfl rfl rfl ?_) <;> (refine U_go rfl ?_; refine H_free (by decide +kernel) rfl rfl rfl rfl rfl ?_) <;> (refine U_go rfl ?_; refine H_free (by decide +kernel) rfl (O_index rfl rfl rfl rfl rfl ‹_›) rfl rfl rfl ?_) <;> (refine U_go rfl ?_; refine H_free (by decide +kernel) rfl rfl rfl rfl rfl ?_) <;> (refine U_go rfl ?_; refine H_free (by decide +kernel) rfl rfl rfl rfl rfl ?_) <;> (refine U_go rfl ?_; refine H_free (by decide +kernel) rfl rfl rfl rfl rfl ?_) <;> (refine U_go rfl ?_; refine H_free (by decide +kernel) rfl (O_index rfl rfl rfl rfl rfl ‹_›) rfl rfl rfl ?_) <;> (refine U_go rfl ?_; refine H_free (by decide +kernel) rfl rfl rfl rfl rfl ?_) <;> (refine U_go rfl ?_; refine H_split (by decide +kernel) rfl (fun _ => ?_) (fun _ => ?_)) <;> apply U_nil) | refine W_region (id := 7) rfl rfl ?_ | refine W_region (id := 8) rfl rfl ?_ | apply W_skip | apply W_block | apply W_ret))
      · rename_i hne
        simp only [bne_iff_ne, ne_eq] at hne
        refine ⟨.inl rfl, Eq.trans (b := some (AV.bool false, _)) rfl ?_⟩
        rw [decide_eq_false (by rw [← hJ]; exact fun e => hne e.1)]
      · rename_i hne
        simp only [bne_eq_false_iff_eq] at hne
        exact ⟨(), rfl, by rw [← hJ]; simp [hne]⟩
    · intro a hJ
      have hlt := ge_intsL (l := x)
      (repeat' (first | apply W_seq | refine W_false rfl rfl ?_ | (refine W_ops (id := 4) rfl ?_ <;> (refine T_go rfl ?_; refine G_false rfl (by with_reducible assumption) ?_) <;> apply T_nil) | refine W_region (id := 9) rfl rfl ?_ | apply W_ret | apply W_exit))
      refine ⟨.inl rfl, Eq.trans (b := some (AV.bool true, _)) rfl ?_⟩
      rw [decide_eq_true (by rw [← hJ, hxy]; simp)]
theorem equalV_run {H : Heap} {ida idb : Nat} {x y : List Int} (hx : H[ida]? = some (.cells 3 (ic x))) (hy : H[idb]? = some (.cells 3 (ic y))) (hl : x.length < 100000) (k : Nat) (hk : x.length + 2 < k) (lo : Nat) :
    call Tryz.prog cfg (k + 2) lo (.func 120) [.sl ida 1 0 x.length, .sl idb 1 0 y.length] H = some (.bool (decide (x = y)), H) := by
  refine view_call (xs := [.vs 1 (intsC x), .vs 1 (intsC y)]) rfl rfl rfl ?_ rfl (equal_run x y hl k hk [] 0)
  have h1 : frz2 H 0 (.sl ida 1 0 x.length) = some (.vs 1 (intsC x)) := frz_ic hx (Nat.zero_le _)
  have h2 : frz2 H 0 (.sl idb 1 0 y.length) = some (.vs 1 (intsC y)) := frz_ic hy (Nat.zero_le _)
  simp only [frzM, h1, h2]
theorem see0_run (k lo : Nat) (a b c d : AV) (h : Heap) (op nn : Int) (ar : List Ex') (t e : List Sm') : call Tryz.prog cfg (k + 1) lo (.func 119) [a, .agg (smC (.mk op nn ar t e)), c, d] h = some (.tup [], h) := by
  apply W_call Tryz.func119 rfl (Nat.le_of_ble_eq_true rfl) rfl rfl
  (repeat' refine W_region (id := 0) rfl rfl ?_)
  exact ⟨.inr rfl, rfl⟩
set_option maxHeartbeats 1000000 in
theorem put_run {H : Heap} {id lo : Nat} {lv : List Int} (hg : H[id]? = some (.cells 3 (ic lv))) (hlo : lo ≤ id) {m : Nat} (hm : lv.length = m) (s : Sm') (hv : vm1 m s) (ar : Int) (k : Nat) (hk : smK s + 2 ≤ k) (hb : smB s) :
    call Tryz.prog cfg (k + 1) lo (.func 121) [.agg (smC s), .sl id 1 0 m, .int .i64 ar] H = some (.tup [], H.set id (.cells 3 (ic (putP lv ar s)))) := by
  obtain ⟨op, nn, a, t, e⟩ := s
  rw [smK] at hk
  rw [smB] at hb
  rw [vm1] at hv
  obtain ⟨⟨ha1, ha2⟩, _⟩ := hb
  have hA := ofAllV_run hg a (k - 2) (by omega) ha1 ha2 (by rw [hm]; exact hv.1) lo
  rw [show k - 2 + 2 = k by omega, hm] at hA
  have hself : H.set id (.cells 3 (ic lv)) = H := by
    have := cells_lt hg
    rw [List.getElem?_eq_getElem this] at hg
    injection hg with hg
    rw [← hg, List.set_getElem_self]
  have hal := exsC_len a
  have hl : 0 + m * 1 = (ic lv).length := by rw [ic_len]; omega
  have hidx : (op = 0 ∨ op = 4) → (0 ≤ nn ∧ nn.toNat < m) := fun ho => by have := hv.2.1 ho; omega
  have hset : ∀ z : Int, nn.toNat < m → H.set id (.cells 3 (setCells (ic lv) (0 + nn.toNat * 1) [.int .i64 z])) = H.set id (.cells 3 (ic (lv.set nn.toNat z))) := fun z hz => by
    rw [show 0 + nn.toNat * 1 = nn.toNat by omega, ic_set _ (by omega)]
  have hpv : nn.toNat < m → (ic lv)[0 + nn.toNat * 1]? = some (.int .i64 (lv.getD nn.toNat 0)) := fun hz => by
    rw [show 0 + nn.toNat * 1 = nn.toNat by omega]
    refine ic_get ?_
    rw [List.getD_eq_getElem?_getD, List.getElem?_eq_getElem (by omega)]; rfl
  have hst : nn.toNat < m → (lo ≤ id ∧ (ic lv).length = (ic lv).length ∧ 1 = 1 ∧ (0 + nn.toNat * 1) + 1 ≤ (ic lv).length) := fun hz => ⟨hlo, rfl, rfl, by rw [ic_len]; omega⟩
  by_cases o0 : op = 0
  · have hj := hidx (.inl o0)
    have p1 := hpv hj.2
    have hs := hst hj.2
    have hset := fun z => hset z hj.2
    clear hidx hpv hst hself
    have c0 : (op == 0) = true := by simp [o0]
    have c0n : (op != 0) = false := by simp [o0]
    have c4 : (op == 4) = false := by simp [o0]
    by_cases l2 : a.length = 2
    · have d2 : (((exsC a).length : Int) == 2) = true := by rw [hal, l2]; rfl
      have hp : putP lv ar (.mk op nn a t e) = lv.set nn.toNat (orI (lv.getD nn.toNat 0) (orI ar (ofEs lv 0 a))) := by
        unfold putP fromP
        dsimp only
        rw [if_pos (.inl o0), if_pos (.inl l2), if_neg (by omega)]
      rw [hp, ← hset]
      apply W_call Tryz.func121 rfl (Nat.le_of_ble_eq_true rfl) rfl rfl
      (repeat' (first | apply W_seq | refine W_true rfl rfl ?_ | refine W_false rfl rfl ?_ | refine W_region (id := 0) rfl rfl ?_ | (refine W_ops (id := 1) rfl ?_ <;> refine T_ch 4 rfl ?_ <;> (refine T_go rfl ?_; refine G_op (O_call rfl rfl rfl rfl ‹_›) ?_) <;> refine T_ch 2 rfl ?_ <;> apply T_nil) | (refine W_ops (id := 2) rfl ?_ <;> refine T_ch 3 rfl ?_ <;> (refine T_go rfl ?_; refine G_true rfl (by with_reducible assumption) ?_) <;> refine T_ch 3 rfl ?_ <;> refine T_skip rfl ?_ <;> refine T_ch 4 rfl ?_ <;> refine T_skip rfl ?_ <;> refine T_ch 3 rfl ?_ <;> apply T_nil) | (refine W_ops (id := 3) rfl ?_ <;> refine T_ch 2 rfl ?_ <;> (refine T_go rfl ?_; refine G_false rfl (by with_reducible assumption) ?_) <;> apply T_nil) | (refine W_ops (id := 6) rfl ?_ <;> refine T_ch 2 rfl ?_ <;> (refine T_go rfl ?_; refine G_false rfl (by with_reducible assumption) ?_) <;> refine T_ch 3 rfl ?_ <;> refine T_skip rfl ?_ <;> refine T_ch 2 rfl ?_ <;> apply T_nil) | refine W_region (id := 7) rfl rfl ?_ | (refine W_ops (id := 8) rfl ?_ <;> refine T_ch 3 rfl ?_ <;> (refine T_go rfl ?_; refine G_op (O_indexHI rfl rfl rfl rfl rfl ‹_› ‹_› ‹_›) ?_) <;> (refine T_go rfl ?_; refine G_op (O_loadH rfl rfl rfl ‹_› rfl ‹_›) ?_) <;> refine T_ch 2 rfl ?_ <;> (refine T_go rfl ?_; refine G_op (O_indexHI rfl rfl rfl rfl rfl ‹_› ‹_› ‹_›) ?_) <;> (refine T_go rfl ?_; refine G_op (O_storeH rfl rfl rfl rfl ‹_› ‹_›) ?_) <;> apply T_nil) | apply W_skip | apply W_block))
      exact ⟨.inr rfl, rfl⟩
    · have d2 : (((exsC a).length : Int) == 2) = false := by rw [hal]; simp; omega
      have hp : putP lv ar (.mk op nn a t e) = lv.set nn.toNat (orI ar (ofEs lv 0 a)) := by
        unfold putP fromP
        dsimp only
        rw [if_pos (.inl o0), if_neg (by omega), if_neg (by omega)]
      rw [hp, ← hset]
      apply W_call Tryz.func121 rfl (Nat.le_of_ble_eq_true rfl) rfl rfl
      (repeat' (first | apply W_seq | refine W_false rfl rfl ?_ | refine W_region (id := 0) rfl rfl ?_ | (refine W_ops (id := 1) rfl ?_ <;> refine T_ch 4 rfl ?_ <;> (refine T_go rfl ?_; refine G_op (O_call rfl rfl rfl rfl ‹_›) ?_) <;> refine T_ch 2 rfl ?_ <;> apply T_nil) | (refine W_ops (id := 2) rfl ?_ <;> refine T_ch 3 rfl ?_ <;> (refine T_go rfl ?_; refine G_false rfl (by with_reducible assumption) ?_) <;> refine T_ch 3 rfl ?_ <;> (refine T_go rfl ?_; refine G_false rfl (by with_reducible assumption) ?_) <;> refine T_ch 4 rfl ?_ <;> refine T_skip rfl ?_ <;> refine T_ch 3 rfl ?_ <;> apply T_nil) | (refine W_ops (id := 3) rfl ?_ <;> refine T_ch 2 rfl ?_ <;> (refine T_go rfl ?_; refine G_false rfl (by with_reducible assumption) ?_) <;> apply T_nil) | (refine W_ops (id := 5) rfl ?_ <;> refine T_ch 4 rfl ?_ <;> (refine T_go rfl ?_; refine G_op (O_indexHI rfl rfl rfl rfl rfl ‹_› ‹_› ‹_›) ?_) <;> (refine T_go rfl ?_; refine G_op (O_storeH rfl rfl rfl rfl ‹_› ‹_›) ?_) <;> apply T_nil) | (refine W_ops (id := 6) rfl ?_ <;> refine T_ch 2 rfl ?_ <;> (refine T_go rfl ?_; refine G_false rfl (by with_reducible assumption) ?_) <;> refine T_ch 3 rfl ?_ <;> refine T_skip rfl ?_ <;> refine T_ch 2 rfl ?_ <;> apply T_nil) | refine W_region (id := 7) rfl rfl ?_ | apply W_skip | apply W_block))
      exact ⟨.inr rfl, rfl⟩
  by_cases o4 : op = 4
  · have hj := hidx (.inr o4)
    have p1 := hpv hj.2
    have hs := hst hj.2
    have hset := fun z => hset z hj.2
    clear hidx hpv hst hself
    have c0 : (op == 0) = false := by simp [o0]
    have c0n : (op != 0) = true := by simp [o0]
    have c4 : (op == 4) = true := by simp [o4]
    have c4n : (op != 4) = false := by simp [o4]
    by_cases l2 : a.length = 2
    · have d2 : (((exsC a).length : Int) == 2) = true := by rw [hal, l2]; rfl
      have hp : putP lv ar (.mk op nn a t e) = lv.set nn.toNat (orI (lv.getD nn.toNat 0) (orI (orI ar (ofEs lv 0 a)) 16)) := by
        unfold putP fromP
        dsimp only
        rw [if_pos (.inr o4), if_pos (.inl l2), if_pos o4]
      rw [hp, ← hset]
      apply W_call Tryz.func121 rfl (Nat.le_of_ble_eq_true rfl) rfl rfl
      (repeat' (first | apply W_seq | refine W_true rfl rfl ?_ | refine W_false rfl rfl ?_ | refine W_region (id := 0) rfl rfl ?_ | (refine W_ops (id := 1) rfl ?_ <;> refine T_ch 4 rfl ?_ <;> (refine T_go rfl ?_; refine G_op (O_call rfl rfl rfl rfl ‹_›) ?_) <;> refine T_ch 2 rfl ?_ <;> apply T_nil) | (refine W_ops (id := 2) rfl ?_ <;> refine T_ch 3 rfl ?_ <;> (refine T_go rfl ?_; refine G_true rfl (by with_reducible assumption) ?_) <;> refine T_ch 3 rfl ?_ <;> refine T_skip rfl ?_ <;> refine T_ch 4 rfl ?_ <;> refine T_skip rfl ?_ <;> refine T_ch 3 rfl ?_ <;> apply T_nil) | (refine W_ops (id := 3) rfl ?_ <;> refine T_ch 2 rfl ?_ <;> (refine T_go rfl ?_; refine G_true rfl (by with_reducible assumption) ?_) <;> apply T_nil) | refine W_region (id := 4) rfl rfl ?_ | (refine W_ops (id := 6) rfl ?_ <;> refine T_ch 2 rfl ?_ <;> (refine T_go rfl ?_; refine G_true rfl (by with_reducible assumption) ?_) <;> refine T_ch 3 rfl ?_ <;> (refine T_go rfl ?_; refine G_false rfl (by with_reducible assumption) ?_) <;> refine T_ch 2 rfl ?_ <;> apply T_nil) | refine W_region (id := 7) rfl rfl ?_ | (refine W_ops (id := 8) rfl ?_ <;> refine T_ch 3 rfl ?_ <;> (refine T_go rfl ?_; refine G_op (O_indexHI rfl rfl rfl rfl rfl ‹_› ‹_› ‹_›) ?_) <;> (refine T_go rfl ?_; refine G_op (O_loadH rfl rfl rfl ‹_› rfl ‹_›) ?_) <;> refine T_ch 2 rfl ?_ <;> (refine T_go rfl ?_; refine G_op (O_indexHI rfl rfl rfl rfl rfl ‹_› ‹_› ‹_›) ?_) <;> (refine T_go rfl ?_; refine G_op (O_storeH rfl rfl rfl rfl ‹_› ‹_›) ?_) <;> apply T_nil) | apply W_block))
      exact ⟨.inr rfl, rfl⟩
    · have d2 : (((exsC a).length : Int) == 2) = false := by rw [hal]; simp; omega
      by_cases l1 : a.length = 1
      · have d1 : (((exsC a).length : Int) == 1) = true := by rw [hal, l1]; rfl
        have hp : putP lv ar (.mk op nn a t e) = lv.set nn.toNat (orI (lv.getD nn.toNat 0) (orI (orI ar (ofEs lv 0 a)) 16)) := by
          unfold putP fromP
          dsimp only
          rw [if_pos (.inr o4), if_pos (.inr ⟨o4, l1⟩), if_pos o4]
        rw [hp, ← hset]
        apply W_call Tryz.func121 rfl (Nat.le_of_ble_eq_true rfl) rfl rfl
        (repeat' (first | apply W_seq | refine W_true rfl rfl ?_ | refine W_false rfl rfl ?_ | refine W_region (id := 0) rfl rfl ?_ | (refine W_ops (id := 1) rfl ?_ <;> refine T_ch 4 rfl ?_ <;> (refine T_go rfl ?_; refine G_op (O_call rfl rfl rfl rfl ‹_›) ?_) <;> refine T_ch 2 rfl ?_ <;> apply T_nil) | (refine W_ops (id := 2) rfl ?_ <;> refine T_ch 3 rfl ?_ <;> (refine T_go rfl ?_; refine G_false rfl (by with_reducible assumption) ?_) <;> refine T_ch 3 rfl ?_ <;> (refine T_go rfl ?_; refine G_true rfl (by with_reducible assumption) ?_) <;> refine T_ch 4 rfl ?_ <;> (refine T_go rfl ?_; refine G_true rfl (by with_reducible assumption) ?_) <;> refine T_ch 3 rfl ?_ <;> apply T_nil) | (refine W_ops (id := 3) rfl ?_ <;> refine T_ch 2 rfl ?_ <;> (refine T_go rfl ?_; refine G_true rfl (by with_reducible assumption) ?_) <;> apply T_nil) | refine W_region (id := 4) rfl rfl ?_ | (refine W_ops (id := 6) rfl ?_ <;> refine T_ch 2 rfl ?_ <;> (refine T_go rfl ?_; refine G_true rfl (by with_reducible assumption) ?_) <;> refine T_ch 3 rfl ?_ <;> (refine T_go rfl ?_; refine G_false rfl (by with_reducible assumption) ?_) <;> refine T_ch 2 rfl ?_ <;> apply T_nil) | refine W_region (id := 7) rfl rfl ?_ | (refine W_ops (id := 8) rfl ?_ <;> refine T_ch 3 rfl ?_ <;> (refine T_go rfl ?_; refine G_op (O_indexHI rfl rfl rfl rfl rfl ‹_› ‹_› ‹_›) ?_) <;> (refine T_go rfl ?_; refine G_op (O_loadH rfl rfl rfl ‹_› rfl ‹_›) ?_) <;> refine T_ch 2 rfl ?_ <;> (refine T_go rfl ?_; refine G_op (O_indexHI rfl rfl rfl rfl rfl ‹_› ‹_› ‹_›) ?_) <;> (refine T_go rfl ?_; refine G_op (O_storeH rfl rfl rfl rfl ‹_› ‹_›) ?_) <;> apply T_nil) | apply W_block))
        exact ⟨.inr rfl, rfl⟩
      · have d1 : (((exsC a).length : Int) == 1) = false := by rw [hal]; simp; omega
        have hp : putP lv ar (.mk op nn a t e) = lv.set nn.toNat (orI (orI ar (ofEs lv 0 a)) 16) := by
          unfold putP fromP
          dsimp only
          rw [if_pos (.inr o4), if_neg (by omega), if_pos o4]
        rw [hp, ← hset]
        apply W_call Tryz.func121 rfl (Nat.le_of_ble_eq_true rfl) rfl rfl
        (repeat' (first | apply W_seq | refine W_true rfl rfl ?_ | refine W_false rfl rfl ?_ | refine W_region (id := 0) rfl rfl ?_ | (refine W_ops (id := 1) rfl ?_ <;> refine T_ch 4 rfl ?_ <;> (refine T_go rfl ?_; refine G_op (O_call rfl rfl rfl rfl ‹_›) ?_) <;> refine T_ch 2 rfl ?_ <;> apply T_nil) | (refine W_ops (id := 2) rfl ?_ <;> refine T_ch 3 rfl ?_ <;> (refine T_go rfl ?_; refine G_false rfl (by with_reducible assumption) ?_) <;> refine T_ch 3 rfl ?_ <;> (refine T_go rfl ?_; refine G_true rfl (by with_reducible assumption) ?_) <;> refine T_ch 4 rfl ?_ <;> (refine T_go rfl ?_; refine G_false rfl (by with_reducible assumption) ?_) <;> refine T_ch 3 rfl ?_ <;> apply T_nil) | (refine W_ops (id := 3) rfl ?_ <;> refine T_ch 2 rfl ?_ <;> (refine T_go rfl ?_; refine G_true rfl (by with_reducible assumption) ?_) <;> apply T_nil) | refine W_region (id := 4) rfl rfl ?_ | (refine W_ops (id := 5) rfl ?_ <;> refine T_ch 4 rfl ?_ <;> (refine T_go rfl ?_; refine G_op (O_indexHI rfl rfl rfl rfl rfl ‹_› ‹_› ‹_›) ?_) <;> (refine T_go rfl ?_; refine G_op (O_storeH rfl rfl rfl rfl ‹_› ‹_›) ?_) <;> apply T_nil) | (refine W_ops (id := 6) rfl ?_ <;> refine T_ch 2 rfl ?_ <;> (refine T_go rfl ?_; refine G_true rfl (by with_reducible assumption) ?_) <;> refine T_ch 3 rfl ?_ <;> (refine T_go rfl ?_; refine G_false rfl (by with_reducible assumption) ?_) <;> refine T_ch 2 rfl ?_ <;> apply T_nil) | refine W_region (id := 7) rfl rfl ?_ | apply W_block))
        exact ⟨.inr rfl, rfl⟩
  · have c0 : (op == 0) = false := by simp [o0]
    have c0n : (op != 0) = true := by simp [o0]
    have c4 : (op == 4) = false := by simp [o4]
    have c4n : (op != 4) = true := by simp [o4]
    have hp : putP lv ar (.mk op nn a t e) = lv := by
      unfold putP
      dsimp only
      rw [if_neg (by omega)]
    rw [hp, hself]
    cases d2 : (((exsC a).length : Int) == 2) <;>
    · apply W_call Tryz.func121 rfl (Nat.le_of_ble_eq_true rfl) rfl rfl
      (repeat' (first | apply W_seq | refine W_true rfl rfl ?_ | refine W_false rfl rfl ?_ | refine W_region (id := 0) rfl rfl ?_ | (refine W_ops (id := 1) rfl ?_ <;> refine T_ch 4 rfl ?_ <;> (refine T_go rfl ?_; refine G_op (O_call rfl rfl rfl rfl ‹_›) ?_) <;> refine T_ch 2 rfl ?_ <;> apply T_nil) | (refine W_ops (id := 2) rfl ?_ <;> refine T_ch 3 rfl ?_ <;> (refine T_go rfl ?_; first | refine G_true rfl (by with_reducible assumption) ?_ | refine G_false rfl (by with_reducible assumption) ?_) <;> refine T_ch 3 rfl ?_ <;> (first | refine T_skip rfl ?_ | (refine T_go rfl ?_; refine G_false rfl (by with_reducible assumption) ?_)) <;> refine T_ch 4 rfl ?_ <;> refine T_skip rfl ?_ <;> refine T_ch 3 rfl ?_ <;> apply T_nil) | (refine W_ops (id := 3) rfl ?_ <;> refine T_ch 2 rfl ?_ <;> (refine T_go rfl ?_; refine G_false rfl (by with_reducible assumption) ?_) <;> apply T_nil) | (refine W_ops (id := 6) rfl ?_ <;> refine T_ch 2 rfl ?_ <;> (refine T_go rfl ?_; refine G_true rfl (by with_reducible assumption) ?_) <;> refine T_ch 3 rfl ?_ <;> (refine T_go rfl ?_; refine G_true rfl (by with_reducible assumption) ?_) <;> refine T_ch 2 rfl ?_ <;> apply T_nil) | apply W_skip | apply W_block))
      exact ⟨.inr rfl, rfl⟩
/- Types that move, in the program: moved, with any callback that is told of the places. -/
/-- Objects that are not somebody's own stay; what is owned later was owned before, or is new. -/
def Fr (h : Heap) (O : Nat → Prop) (h' : Heap) (O' : Nat → Prop) : Prop := h.length ≤ h'.length ∧ (∀ i, i < h.length → ¬ O i → h'[i]? = h[i]?) ∧ ∀ i, O' i → O i ∨ h.length ≤ i
theorem Fr.refl (h : Heap) (O : Nat → Prop) : Fr h O h O := ⟨Nat.le_refl _, fun _ _ _ => rfl, fun _ h => .inl h⟩
theorem Fr.trans {h h1 h2 : Heap} {O O1 O2 : Nat → Prop} (a : Fr h O h1 O1) (b : Fr h1 O1 h2 O2) : Fr h O h2 O2 := by
  obtain ⟨a1, a2, a3⟩ := a
  obtain ⟨b1, b2, b3⟩ := b
  refine ⟨Nat.le_trans a1 b1, fun i hi ho => ?_, fun i hi => ?_⟩
  · rw [b2 i (Nat.lt_of_lt_of_le hi a1) (fun e => by rcases a3 i e with q | q
                                                     · exact ho q
                                                     · omega), a2 i hi ho]
  · rcases b3 i hi with q | q
    · exact a3 i q
    · exact .inr (Nat.le_trans a1 q)
theorem Fr.get {h h' : Heap} {O O' : Nat → Prop} (a : Fr h O h' O') {i : Nat} {o : HObj} (hg : h[i]? = some o) (hn : ¬ O i) : h'[i]? = some o := by
  rw [a.2.1 i (cells_lt hg) hn, hg]
theorem Fr.not {h h' : Heap} {O O' : Nat → Prop} (a : Fr h O h' O') {i : Nat} (hi : i < h.length) (hn : ¬ O i) : ¬ O' i := fun e => by
  rcases a.2.2 i e with q | q
  · exact hn q
  · omega
theorem Fr.set {h h1 : Heap} {O O1 : Nat → Prop} (a : Fr h O h1 O1) {id : Nat} (hid : h.length ≤ id) (o : HObj) : Fr h O (h1.set id o) O1 := by
  obtain ⟨a1, a2, a3⟩ := a
  refine ⟨by simpa using a1, fun i hi ho => ?_, a3⟩
  rw [List.getElem?_set_ne (by omega), a2 i hi ho]
theorem Fr.app {h h1 : Heap} {O O1 : Nat → Prop} (a : Fr h O h1 O1) (more : Heap) : Fr h O (h1 ++ more) O1 := by
  obtain ⟨a1, a2, a3⟩ := a
  refine ⟨by simp; omega, fun i hi ho => ?_, a3⟩
  rw [List.getElem?_append_left (by omega), a2 i hi ho]
/-- A callback: its state, what it does to it, how that lies in the heap. -/
structure See where
  σ : Type
  upd : σ → Int → Sm' → List Int → Int → σ
  B : Nat → σ → Heap → (Nat → Prop) → Prop
  f : Nat
  caps : List AV
structure SeeOk (S : See) (m lo kY : Nat) : Prop where
  frame : ∀ {b x h O h'}, S.B b x h O → h.length ≤ h'.length → (∀ i, O i → h'[i]? = h[i]?) → S.B b x h' O
  mono : ∀ {b b' x h O}, S.B b x h O → b' ≤ b → S.B b' x h O
  rng : ∀ {b x h O i}, S.B b x h O → O i → i < h.length
  run : ∀ (k b : Nat) (x : S.σ) (h : Heap) (O : Nat → Prop) (id : Nat) (lv : List Int) (ar n : Int) (s : Sm'), S.B (b + 1) x h O → h[id]? = some (.cells 3 (ic lv)) → ¬ O id → lv.length = m → lvsB lv → lvB ar → smK s + kY ≤ k ∧ smK s ≤ 6200 → smB s → vm1 m s → lo ≤ h.length →
    ∃ (h' : Heap) (O' : Nat → Prop), call Tryz.prog cfg k lo (.func S.f) ([.int .i64 n, .agg (smC s), .sl id 1 0 m, .int .i64 ar] ++ S.caps) h = some (.tup [], h') ∧ S.B b (S.upd x n s lv ar) h' O' ∧ Fr h O h' O'
/-- The callback that does nothing. -/
def see0 : See := { σ := Unit, upd := fun _ _ _ _ _ => (), B := fun _ _ _ O => ∀ i, ¬ O i, f := 119, caps := [] }
theorem see0_ok (m lo : Nat) : SeeOk see0 m lo 0 where
  frame h _ _ := h
  mono h _ := h
  rng h ho := absurd ho (h _)
  run k b x h O id lv ar n s hB _ _ _ _ _ hk _ _ _ := by
    obtain ⟨op, nn, a, t, e⟩ := s
    rw [smK] at hk
    have := see0_run (k - 1) lo (.int .i64 n) .nils (.sl id 1 0 m) (.int .i64 ar) h op nn a t e
    rw [show k - 1 + 1 = k by omega] at this
    exact ⟨h, O, this, hB, Fr.refl h O⟩
structure MA (σ : Type) where
  lv : List Int
  x : σ
  n : Int
  H : Heap
  O : Nat → Prop
  id : Nat
structure MW where
  lv : List Int
  H : Heap
  id : Nat
def mvS {σ : Type} (lo m : Nat) (ar : Int) (l : List Sm') (f : Nat) (caps : List AV) (i : Int) (a : MA σ) : St :=
  { env := [(1, .v (.sl a.id 1 0 m)), (2, .v (.int .i64 ar)), (3, .v (.int .i64 a.n)), (4, .v (.fn (.func f) caps)), (24, .v (.vs 5 (smsC l))), (25, .v (.int .i64 (smsC l).length)), (26, .v (.int .i64 i))], loc := [], heap := a.H, inRound := false, lo := lo }
def mwS (lo m : Nat) (ar : Int) (l : List Sm') (f : Nat) (caps : List AV) (i n n1 : Int) (st : Sm') (a : MW) : St :=
  { env := [(1, .v (.sl a.id 1 0 m)), (2, .v (.int .i64 ar)), (3, .v (.int .i64 n1)), (4, .v (.fn (.func f) caps)), (13, .p 13 0), (14, .v (.int .i64 n)), (24, .v (.vs 5 (smsC l))), (25, .v (.int .i64 (smsC l).length)), (26, .v (.int .i64 i))], loc := [(13, smC st)], heap := a.H, inRound := false, lo := lo }
def fP (t : List Sm') (a : List Ex') (ar : Int) (x : List Int) : List Int := joinL x (mvL putP ofH t x (orI ar (ofH x a)))
set_option maxHeartbeats 4000000 in
theorem moved_run (m : Nat) (hm1 : 1 ≤ m) (hm2 : m ≤ 18) : ∀ (k : Nat) (S : See) (lo kY : Nat), SeeOk S m lo kY → ∀ (l : List Sm') (lv : List Int) (ar n : Int) (x : S.σ) (h : Heap) (O : Nat → Prop) (v : AV) (b : Nat),
    smsK l + kY + 1300 ≤ k ∧ smsK l ≤ 6200 → l.length < 9223372036854775808 → smsB l → vmL m l → lv.length = m → lvsB lv → lvB ar → LvArg h v lv → lo ≤ h.length → S.B (scs l + b) x h O →
    ∃ (id : Nat) (h' : Heap) (O' : Nat → Prop), call Tryz.prog cfg k lo (.func 77) [.vs 5 (smsC l), v, .int .i64 ar, .int .i64 n, .fn (.func S.f) S.caps] h = some (.tup [.sl id 1 0 m, .int .i64 (spL putP ofH S.upd l lv ar x n).2], h') ∧
      h'[id]? = some (.cells 3 (ic (mvL putP ofH l lv ar))) ∧ S.B b (spL putP ofH S.upd l lv ar x n).1 h' O' ∧ Fr h O h' O' ∧ ¬ O' id ∧ h.length ≤ id
  | 0, S, lo, kY, hS, l, lv, ar, n, x, h, O, v, b, hk, _, _, _, _, _, _, _, _, _ => by omega
  | k + 1, S, lo, kY, hS, l, lv, ar, n, x, h, O, v, b, hk, hlen, hb, hvm, hlv, hB, har, hv, hlo, hSB => by
    have hMv := mvP_ok m
    have hll := smsK_len l
    have hne : lv ≠ [] := fun e => by subst e; simp at hlv; omega
    have hC := cloneI_run hlo hv hne (by omega) (k - 1)
    rw [show k - 1 + 1 = k by omega, hlv] at hC
    have key : ∃ out : AV × Heap, call Tryz.prog cfg (k + 1) lo (.func 77) [.vs 5 (smsC l), v, .int .i64 ar, .int .i64 n, .fn (.func S.f) S.caps] h = some out ∧ ∃ e : MA S.σ, out = (.tup [.sl e.id 1 0 m, .int .i64 e.n], e.H) ∧
        e.lv.length = m ∧ lvsB e.lv ∧ e.H[e.id]? = some (.cells 3 (ic e.lv)) ∧ ¬ e.O e.id ∧ h.length ≤ e.id ∧ S.B (scs [] + b) e.x e.H e.O ∧ Fr h O e.H e.O ∧ mvL putP ofH [] e.lv ar = mvL putP ofH l lv ar ∧ spL putP ofH S.upd [] e.lv ar e.x e.n = spL putP ofH S.upd l lv ar x n := by
      have hvv : ∃ q, v = q ∧ LvArg h q lv := ⟨v, rfl, hv⟩
      apply W_callP Tryz.func77 rfl (Nat.le_of_ble_eq_true rfl) rfl rfl
      (repeat' (first | apply W_seq | refine W_region (id := 0) rfl rfl ?_ | (refine W_ops (id := 1) rfl ?_ <;> refine T_ch 1 rfl ?_ <;> (refine T_go rfl ?_; refine G_op (O_call rfl rfl rfl rfl ‹_›) ?_) <;> refine T_ch 1 rfl ?_ <;> apply T_nil) | refine W_region (id := 2) rfl rfl ?_ | apply W_block))
      apply W_iter (S := mvS lo m ar l S.f S.caps) (l := l) (a0 := ⟨lv, x, n, h ++ [.cells 3 (ic lv)], O, h.length⟩)
        (fun rest a => a.lv.length = m ∧ lvsB a.lv ∧ a.H[a.id]? = some (.cells 3 (ic a.lv)) ∧ ¬ a.O a.id ∧ h.length ≤ a.id ∧ S.B (scs rest + b) a.x a.H a.O ∧ Fr h O a.H a.O ∧ mvL putP ofH rest a.lv ar = mvL putP ofH l lv ar ∧ spL putP ofH S.upd rest a.lv ar a.x a.n = spL putP ofH S.upd l lv ar x n) hlen (by omega) rfl
        ⟨hlv, hB, by simp, fun e => absurd (hS.rng hSB e) (Nat.lt_irrefl _), Nat.le_refl _, hS.frame hSB (by simp) (fun i hi => List.getElem?_append_left (hS.rng hSB hi)), (Fr.refl h O).app _, rfl, rfl⟩
      · intro i st rest a hi hd hil hJ
        obtain ⟨alv, ax, an, aH, aO, aid⟩ := a
        obtain ⟨j1, j2, j3, j4, j5, j6, j7, j8, j9⟩ := hJ
        dsimp only at j1 j2 j3 j4 j5 j6 j7 j8 j9
        have hlt := lt_sms hil
        have hrow := smsC_get _ _ _ hi
        have hmem := smsK_mem2 l i _ hi
        have hbm := smsB_mem l i _ hb hi
        have hvm1 := vmL_mem hvm hi
        obtain ⟨q1, q2⟩ := mv1_ok hMv st alv ar j1 j2 har hvm1
        have hloH : lo ≤ aH.length := Nat.le_trans hlo j7.1
        have hloid : lo ≤ aid := Nat.le_trans hlo j5
        rw [mvL] at j8
        rw [spL] at j9
        rw [scs] at j6
        obtain ⟨op, nn, a, t, e⟩ := st
        have hbm' := hbm
        have hvm1' := hvm1
        rw [smK] at hmem
        rw [smB] at hbm
        rw [vm1] at hvm1
        obtain ⟨⟨ha1, ha2⟩, ⟨ht1, ht2⟩, he1, he2⟩ := hbm
        obtain ⟨r1, r2, r3, r4, r5⟩ := hvm1
        have hla := exsK_len a
        have hsc : sc1 (.mk op nn a t e) = 1 + scs t + scs e := by rw [sc1]
        have hmk : smK (.mk op nn a t e) = exsK a + smsK t + smsK e + 1 := by rw [smK]
        by_cases o1 : op = 1
        · have c1 : (op == 1) = true := by simp [o1]
          obtain ⟨x0, rfl⟩ := r3 (.inl o1)
          have hx0 : (exsC [x0])[0]? = some (exC x0) := rfl
          have hxk : exK x0 ≤ exsK [x0] := exsK_mem [x0] 0 x0 rfl
          obtain ⟨H1, O1, s1, s2, s3⟩ := hS.run k (scs t + (scs e + (scs rest + b))) ax aH aO aid alv ar an _ (hS.mono j6 (by omega)) j3 j4 j1 j2 har (by omega) hbm' hvm1' hloH
          have n1 := s3.not (cells_lt j3) j4
          have g1 := s3.get j3 j4
          have hO := ofV_run g1 x0 (k - 1) (by omega) ha2.1 (by rw [j1]; exact r1.1) lo
          rw [show k - 1 + 1 = k by omega, j1] at hO
          have hfB : lvB (orI ar (ofE alv x0)) := orI_B har (ofE_B j2 x0)
          obtain ⟨id2, H2, O2, m1, m2, m3, m4, m5, m6⟩ := moved_run m hm1 hm2 k S lo kY hS t alv (orI ar (ofE alv x0)) (IntKind.i64.wrap (an + 1)) _ H1 O1 (.sl aid 1 0 m) (scs e + (scs rest + b)) (by omega) ht1 ht2 r4 j1 j2 hfB (.inr ⟨aid, by rw [j1], g1⟩) (Nat.le_trans hloH s3.1) s2
          have n2 := m4.not (cells_lt g1) n1
          have g2 := m4.get g1 n1
          obtain ⟨id3, H3, O3, e1, e2, e3, e4, e5, e6⟩ := moved_run m hm1 hm2 k S lo kY hS e alv (orI ar (ofE alv x0)) (spL putP ofH S.upd t alv (orI ar (ofE alv x0)) (S.upd ax an (.mk op nn [x0] t e) alv ar) (IntKind.i64.wrap (an + 1))).2 _ H2 O2 (.sl aid 1 0 m) (scs rest + b) (by omega) he1 he2 r5 j1 j2 hfB (.inr ⟨aid, by rw [j1], g2⟩) (Nat.le_trans (Nat.le_trans hloH s3.1) m4.1) m3
          have g3 := e4.get m2 m5
          obtain ⟨t1, t2⟩ := mvL_ok hMv t alv (orI ar (ofE alv x0)) j1 j2 hfB r4
          obtain ⟨u1, u2⟩ := mvL_ok hMv e alv (orI ar (ofE alv x0)) j1 j2 hfB r5
          have hT := together_run (Nat.le_trans (Nat.le_trans (Nat.le_trans hloH s3.1) m4.1) e4.1) g3 e2 t1 u1 hm1 (by omega) (k - 1) (by omega)
          rw [show k - 1 + 1 = k by omega] at hT
          have hm : mv1 putP ofH (.mk op nn [x0] t e) alv ar = joinL (mvL putP ofH t alv (orI ar (ofE alv x0))) (mvL putP ofH e alv (orI ar (ofE alv x0))) := by rw [mv1, if_pos o1]; rfl
          have hsp : sp1 putP ofH S.upd (.mk op nn [x0] t e) alv ar ax an = spL putP ofH S.upd e alv (orI ar (ofE alv x0)) (spL putP ofH S.upd t alv (orI ar (ofE alv x0)) (S.upd ax an (.mk op nn [x0] t e) alv ar) (IntKind.i64.wrap (an + 1))).1 (spL putP ofH S.upd t alv (orI ar (ofE alv x0)) (S.upd ax an (.mk op nn [x0] t e) alv ar) (IntKind.i64.wrap (an + 1))).2 := by rw [sp1, if_pos o1]; rfl
          rw [hm] at j8 j9 q1 q2
          rw [hsp] at j9
          have hFr : Fr h O H3 O3 := j7.trans (s3.trans (m4.trans e4))
          have hrg := fun i hi => hS.rng (i := i) e3 hi
          have hBf := hS.frame (h' := H3 ++ [.cells 3 (ic (joinL (mvL putP ofH t alv (orI ar (ofE alv x0))) (mvL putP ofH e alv (orI ar (ofE alv x0)))))]) e3 (by simp) (fun i hi => List.getElem?_append_left (hrg i hi))
          generalize spL putP ofH S.upd t alv (orI ar (ofE alv x0)) (S.upd ax an (.mk op nn [x0] t e) alv ar) (IntKind.i64.wrap (an + 1)) = X1 at *
          generalize spL putP ofH S.upd e alv (orI ar (ofE alv x0)) X1.1 X1.2 = X2 at *
          generalize joinL (mvL putP ofH t alv (orI ar (ofE alv x0))) (mvL putP ofH e alv (orI ar (ofE alv x0))) = J at *
          obtain ⟨xo, xn, xc, xs⟩ := x0
          (repeat' (first | apply W_seq | refine W_true rfl rfl ?_ | (refine W_ops (id := 3) rfl ?_ <;> (refine T_go rfl ?_; refine G_true rfl (by with_reducible assumption) ?_) <;> apply T_nil) | (refine W_ops (id := 4) rfl ?_ <;> (refine T_go rfl ?_; refine G_op (O_index rfl rfl rfl rfl rfl ‹_›) ?_) <;> (refine T_go rfl ?_; refine G_op rfl ?_) <;> refine T_ch 2 rfl ?_ <;> apply T_nil) | refine W_region (id := 5) rfl rfl ?_ | refine W_region (id := 6) rfl rfl ?_ | refine W_region (id := 7) rfl rfl ?_ | (refine W_ops (id := 10) rfl ?_ <;> (refine T_go rfl ?_; refine G_true rfl (by with_reducible assumption) ?_) <;> refine T_ch 1 rfl ?_ <;> apply T_nil) | (refine W_ops (id := 11) rfl ?_ <;> refine T_ch 5 rfl ?_ <;> (refine T_go rfl ?_; refine G_op (O_call rfl rfl rfl rfl ‹_›) ?_) <;> apply T_nil) | (refine W_ops (id := 12) rfl ?_ <;> refine T_ch 4 rfl ?_ <;> (refine T_go rfl ?_; refine G_op (O_index rfl rfl rfl rfl rfl ‹_›) ?_) <;> (refine T_go rfl ?_; refine G_op rfl ?_) <;> (refine T_go rfl ?_; refine G_op (O_call rfl rfl rfl rfl ‹_›) ?_) <;> refine T_ch 2 rfl ?_ <;> apply T_nil) | (refine W_ops (id := 13) rfl ?_ <;> refine T_ch 6 rfl ?_ <;> (refine T_go rfl ?_; refine G_op (O_call rfl rfl rfl rfl ‹_›) ?_) <;> refine T_ch 5 rfl ?_ <;> apply T_nil) | (refine W_ops (id := 14) rfl ?_ <;> refine T_ch 6 rfl ?_ <;> (refine T_go rfl ?_; refine G_op (O_call rfl rfl rfl rfl ‹_›) ?_) <;> refine T_ch 5 rfl ?_ <;> apply T_nil) | (refine W_ops (id := 15) rfl ?_ <;> refine T_ch 2 rfl ?_ <;> (refine T_go rfl ?_; refine G_op (O_call rfl rfl rfl rfl ‹_›) ?_) <;> refine T_ch 3 rfl ?_ <;> apply T_nil) | refine W_region (id := 23) rfl rfl ?_ | apply W_skip | apply W_block))
          exact ⟨⟨J, X2.1, X2.2, H3 ++ [.cells 3 (ic J)], O3, H3.length⟩, rfl, q1, q2, by simp, fun q => absurd (hrg _ q) (Nat.lt_irrefl _), hFr.1, hBf, hFr.app _, j8, j9⟩
        have c1 : (op == 1) = false := by simp [o1]
        by_cases o2 : op = 2
        · have c2 : (op == 2) = true := by simp [o2]
          obtain ⟨x0, rfl⟩ := r3 (.inr (.inl o2))
          have hx0 : (exsC [x0])[0]? = some (exC x0) := rfl
          have hxk : exK x0 ≤ exsK [x0] := exsK_mem [x0] 0 x0 rfl
          have hm : mv1 putP ofH (.mk op nn [x0] t e) alv ar = fixN (fP t [x0] ar) 600 alv := by rw [mv1, if_neg o1, if_pos o2]; rfl
          have hsp : sp1 putP ofH S.upd (.mk op nn [x0] t e) alv ar ax an = spL putP ofH S.upd t (fixN (fP t [x0] ar) 600 alv) (orI ar (ofE (fixN (fP t [x0] ar) 600 alv) x0)) (S.upd ax an (.mk op nn [x0] t e) (fixN (fP t [x0] ar) 600 alv) ar) (IntKind.i64.wrap (an + 1)) := by rw [sp1, if_neg o1, if_pos o2, hm]; rfl
          rw [hm] at j8 j9 q1 q2
          rw [hsp] at j9
          have hrm := roomL_le j2
          have hrg := fun i hi => hS.rng (i := i) j6 hi
          generalize hF : fixN (fP t [x0] ar) 600 alv = F at *
          (repeat' (first | apply W_seq | refine W_true rfl rfl ?_ | refine W_false rfl rfl ?_ | (refine W_ops (id := 3) rfl ?_ <;> (refine T_go rfl ?_; refine G_true rfl (by with_reducible assumption) ?_) <;> apply T_nil) | (refine W_ops (id := 4) rfl ?_ <;> (refine T_go rfl ?_; refine G_op (O_index rfl rfl rfl rfl rfl ‹_›) ?_) <;> (refine T_go rfl ?_; refine G_op rfl ?_) <;> refine T_ch 2 rfl ?_ <;> apply T_nil) | refine W_region (id := 5) rfl rfl ?_ | refine W_region (id := 6) rfl rfl ?_ | refine W_region (id := 7) rfl rfl ?_ | (refine W_ops (id := 10) rfl ?_ <;> (refine T_go rfl ?_; refine G_false rfl (by with_reducible assumption) ?_) <;> refine T_ch 1 rfl ?_ <;> apply T_nil) | (refine W_ops (id := 16) rfl ?_ <;> (refine T_go rfl ?_; refine G_true rfl (by with_reducible assumption) ?_) <;> refine T_ch 1 rfl ?_ <;> apply T_nil) | apply W_skip | apply W_block))
          apply W_while (S := mwS lo m ar l S.f S.caps i an (IntKind.i64.wrap (an + 1)) (.mk op nn [x0] t e)) (a0 := ⟨alv, aH, aid⟩)
            (fun q => q.lv.length = m ∧ lvsB q.lv ∧ q.H[q.id]? = some (.cells 3 (ic q.lv)) ∧ ¬ aO q.id ∧ h.length ≤ q.id ∧ Fr aH (fun _ => False) q.H (fun _ => False) ∧ ∃ c, roomL q.lv < c ∧ fixN (fP t [x0] ar) c q.lv = F) (fun q => roomL q.lv) (by show roomL alv < k; omega) rfl ⟨j1, j2, j3, j4, j5, Fr.refl _ _, 600, by show roomL alv < 600; omega, hF⟩
          intro q hq
          obtain ⟨qlv, qH, qid⟩ := q
          obtain ⟨w1, w2, w3, w4, w5, w6, c, w7, w8⟩ := hq
          dsimp only at w1 w2 w3 w4 w5 w6 w7 w8
          have hloq : lo ≤ qH.length := Nat.le_trans hloH w6.1
          have hO := ofV_run w3 x0 (k - 1) (by omega) ha2.1 (by rw [w1]; exact r1.1) qH.length
          rw [show k - 1 + 1 = k by omega, w1] at hO
          have hfB : lvB (orI ar (ofE qlv x0)) := orI_B har (ofE_B w2 x0)
          obtain ⟨id2, H2, O2, m1, m2, m3, m4, m5, m6⟩ := moved_run m hm1 hm2 k see0 lo 0 (see0_ok m lo) t qlv (orI ar (ofE qlv x0)) (IntKind.i64.wrap (an + 1)) () qH (fun _ => False) (.sl qid 1 0 m) 0 (by omega) ht1 ht2 r4 w1 w2 hfB (.inr ⟨qid, by rw [w1], w3⟩) hloq (fun _ h => h)
          have m1' : call Tryz.prog cfg k lo (.func 77) [.vs 5 (smsC t), .sl qid 1 0 m, .int .i64 (orI ar (ofE qlv x0)), .int .i64 (IntKind.i64.wrap (an + 1)), .fn (.func 119) []] qH = some (.tup [.sl id2 1 0 m, .int .i64 (spL putP ofH see0.upd t qlv (orI ar (ofE qlv x0)) () (IntKind.i64.wrap (an + 1))).2], H2) := m1
          clear m1
          generalize (spL putP ofH see0.upd t qlv (orI ar (ofE qlv x0)) () (IntKind.i64.wrap (an + 1))).2 = nx at m1'
          have g2 := m4.get w3 (fun h => h)
          obtain ⟨t1, t2⟩ := mvL_ok hMv t qlv (orI ar (ofE qlv x0)) w1 w2 hfB r4
          have hT := together_run (Nat.le_trans hloq m4.1) g2 m2 w1 t1 hm1 (by omega) (k - 1) (by omega)
          rw [show k - 1 + 1 = k by omega] at hT
          obtain ⟨f1, f2, f3⟩ := round_ok hMv r4 har [x0] w1 w2
          have hfx : joinL qlv (mvL putP ofH t qlv (orI ar (ofE qlv x0))) = fP t [x0] ar qlv := rfl
          have hfx' : joinL qlv (mvL putP ofH t qlv (orI ar (ofH qlv [x0]))) = fP t [x0] ar qlv := rfl
          rw [hfx'] at f1 f2 f3
          rw [hfx] at hT
          obtain ⟨c, rfl⟩ : ∃ c', c = c' + 1 := ⟨c - 1, by omega⟩
          rw [fixN] at w8
          generalize fP t [x0] ar qlv = fx at *
          have g3 : (H2 ++ [HObj.cells 3 (ic fx)])[H2.length]? = some (.cells 3 (ic fx)) := by simp
          have g4 : (H2 ++ [HObj.cells 3 (ic fx)])[qid]? = some (.cells 3 (ic qlv)) := by rw [List.getElem?_append_left (cells_lt g2)]; exact g2
          have hEq := equalV_run g3 g4 (by omega) (k - 2) (by omega) lo
          rw [show k - 2 + 2 = k by omega, f1, w1] at hEq
          have hFr2 : Fr aH (fun _ => False) (H2 ++ [HObj.cells 3 (ic fx)]) (fun _ => False) := by
            have := (w6.trans m4).app [HObj.cells 3 (ic fx)]
            exact ⟨this.1, this.2.1, fun _ h => h.elim⟩
          by_cases hs : fx = qlv
          · rw [if_pos hs] at w8
            rw [decide_eq_true hs] at hEq
            rw [← w8] at j8 j9
            have hB3 := hS.frame (h' := H2 ++ [HObj.cells 3 (ic fx)]) j6 hFr2.1 (fun i hi => hFr2.2.1 i (hrg i hi) (fun h => h))
            obtain ⟨H4, O4, s1, s2, s3⟩ := hS.run k (scs t + (scs rest + b)) ax _ aO qid qlv ar an _ (hS.mono hB3 (by omega)) g4 w4 w1 w2 har (by omega) hbm' hvm1' (Nat.le_trans hloH hFr2.1)
            have n5 := s3.not (cells_lt g4) w4
            have g5 := s3.get g4 w4
            have hO5 := ofV_run g5 x0 (k - 1) (by omega) ha2.1 (by rw [w1]; exact r1.1) H4.length
            rw [show k - 1 + 1 = k by omega, w1] at hO5
            obtain ⟨id6, H6, O6, p1, p2, p3, p4, p5, p6⟩ := moved_run m hm1 hm2 k S lo kY hS t qlv (orI ar (ofE qlv x0)) (IntKind.i64.wrap (an + 1)) _ H4 O4 (.sl qid 1 0 m) (scs rest + b) (by omega) ht1 ht2 r4 w1 w2 hfB (.inr ⟨qid, by rw [w1], g5⟩) (Nat.le_trans (Nat.le_trans hloH hFr2.1) s3.1) s2
            have n6 := p4.not (cells_lt g5) n5
            have g6 := p4.get g5 n5
            have hFrA : Fr aH aO (H2 ++ [HObj.cells 3 (ic fx)]) aO := ⟨hFr2.1, fun i hi _ => hFr2.2.1 i hi (fun h => h), fun _ h => .inl h⟩
            have hFr6 : Fr h O H6 O6 := j7.trans (hFrA.trans (s3.trans p4))
            generalize spL putP ofH S.upd t qlv (orI ar (ofE qlv x0)) (S.upd ax an (.mk op nn [x0] t e) qlv ar) (IntKind.i64.wrap (an + 1)) = X1 at *
            obtain ⟨xo, xn, xc, xs⟩ := x0
            (repeat' (first | apply W_seq | refine W_true rfl rfl ?_ | (refine W_dops (id := 17) (bs := [0, 1, 0, 0, 0, 0, 32, 96, 224, 496, 1016, 0, 4095, 8191, 16383, 16383, 32767, 131071]) rfl (by decide +kernel) (by decide +kernel) ?_ <;> (refine U_go rfl ?_; refine H_free (by decide +kernel) rfl rfl rfl rfl rfl ?_) <;> (refine U_go rfl ?_; refine H_free (by decide +kernel) rfl rfl rfl rfl rfl ?_) <;> (refine U_go rfl ?_; refine H_free (by decide +kernel) rfl rfl rfl rfl rfl ?_) <;> (refine U_go rfl ?_; refine H_free (by decide +kernel) rfl rfl rfl rfl rfl ?_) <;> (refine U_go rfl ?_; refine H_free (by decide +kernel) rfl rfl rfl rfl rfl ?_) <;> (refine U_go rfl ?_; refine H_free (by decide +kernel) rfl rfl rfl rfl rfl ?_) <;> (refine U_go rfl ?_; refine H_free (by decide +kernel) rfl rfl rfl rfl rfl ?_) <;> (refine U_go rfl ?_; refine H_free (by decide +kernel) rfl (O_index rfl rfl rfl rfl rfl ‹_›) rfl rfl rfl ?_) <;> (refine U_go rfl ?_; refine H_free (by decide +kernel) rfl rfl rfl rfl rfl ?_) <;> (refine U_go rfl ?_; refine H_free (by decide +kernel) rfl (O_call rfl rfl rfl rfl ‹_›) rfl rfl rfl ?_) <;> (refine U_go rfl ?_; refine H_free (by decide +kernel) rfl rfl rfl rfl rfl ?_) <;> (refine U_go rfl ?_; refine H_free (by decide +kernel) rfl rfl rfl rfl rfl ?_) <;> (refine U_go rfl ?_; refine H_op (by decide +kernel) (O_call rfl rfl rfl rfl ‹_›) ?_) <;> (refine U_go rfl ?_; refine H_op (by decide +kernel) rfl ?_) <;> (refine U_go rfl ?_; refine H_free (by decide +kernel) rfl rfl rfl rfl rfl ?_) <;> (refine U_go rfl ?_; refine H_free (by decide +kernel) rfl rfl rfl rfl rfl ?_) <;> (refine U_go rfl ?_; refine H_free (by decide +kernel) rfl rfl rfl rfl rfl ?_) <;> (refine U_go rfl ?_; refine H_op (by decide +kernel) rfl ?_) <;> apply U_nil) | (refine W_ops (id := 18) rfl ?_ <;> refine T_ch 2 rfl ?_ <;> (refine T_go rfl ?_; refine G_op (O_call rfl rfl rfl rfl ‹_›) ?_) <;> refine T_ch 1 rfl ?_ <;> apply T_nil) | (refine W_ops (id := 19) rfl ?_ <;> refine T_ch 2 rfl ?_ <;> (refine T_go rfl ?_; refine G_true (O_call rfl rfl rfl rfl ‹_›) rfl ?_) <;> apply T_nil) | (refine W_ops (id := 21) rfl ?_ <;> refine T_ch 5 rfl ?_ <;> (refine T_go rfl ?_; refine G_op (O_call rfl rfl rfl rfl ‹_›) ?_) <;> apply T_nil) | (refine W_dops (id := 22) (bs := [0, 1, 0, 0, 0, 0, 32, 96, 224, 496, 1016, 0, 0, 8191, 16383, 32767, 32767, 131071]) rfl (by decide +kernel) (by decide +kernel) ?_ <;> (refine U_go rfl ?_; refine H_free (by decide +kernel) rfl rfl rfl rfl rfl ?_) <;> (refine U_go rfl ?_; refine H_free (by decide +kernel) rfl rfl rfl rfl rfl ?_) <;> (refine U_go rfl ?_; refine H_free (by decide +kernel) rfl rfl rfl rfl rfl ?_) <;> (refine U_go rfl ?_; refine H_free (by decide +kernel) rfl rfl rfl rfl rfl ?_) <;> (refine U_go rfl ?_; refine H_free (by decide +kernel) rfl rfl rfl rfl rfl ?_) <;> (refine U_go rfl ?_; refine H_free (by decide +kernel) rfl rfl rfl rfl rfl ?_) <;> (refine U_go rfl ?_; refine H_free (by decide +kernel) rfl rfl rfl rfl rfl ?_) <;> (refine U_go rfl ?_; refine H_free (by decide +kernel) rfl (O_index rfl rfl rfl rfl rfl ‹_›) rfl rfl rfl ?_) <;> (refine U_go rfl ?_; refine H_free (by decide +kernel) rfl rfl rfl rfl rfl ?_) <;> (refine U_go rfl ?_; refine H_free (by decide +kernel) rfl (O_call rfl rfl rfl rfl ‹_›) rfl rfl rfl ?_) <;> (refine U_go rfl ?_; refine H_free (by decide +kernel) rfl rfl rfl rfl rfl ?_) <;> (refine U_go rfl ?_; refine H_free (by decide +kernel) rfl rfl rfl rfl rfl ?_) <;> (refine U_go rfl ?_; refine H_free (by decide +kernel) rfl rfl rfl rfl rfl ?_) <;> (refine U_go rfl ?_; refine H_op (by decide +kernel) (O_call rfl rfl rfl rfl ‹_›) ?_) <;> (refine U_go rfl ?_; refine H_op (by decide +kernel) rfl ?_) <;> (refine U_go rfl ?_; refine H_free (by decide +kernel) rfl rfl rfl rfl rfl ?_) <;> (refine U_go rfl ?_; refine H_free (by decide +kernel) rfl rfl rfl rfl rfl ?_) <;> (refine U_go rfl ?_; refine H_op (by decide +kernel) rfl ?_) <;> apply U_nil) | refine W_region (id := 23) rfl rfl ?_ | apply W_block | apply W_exit))
            exact ⟨⟨qlv, X1.1, X1.2, H6, O6, qid⟩, rfl, w1, w2, g6, n6, w5, p3, hFr6, j8, j9⟩
          · rw [if_neg hs] at w8
            rw [decide_eq_false hs] at hEq
            have hlt3 : roomL fx < roomL qlv := by
              rcases f3 with f3 | f3
              · exact absurd f3 hs
              · exact f3
            obtain ⟨xo, xn, xc, xs⟩ := x0
            (repeat' (first | apply W_seq | refine W_false rfl rfl ?_ | (refine W_dops (id := 17) (bs := [0, 1, 0, 0, 0, 0, 32, 96, 224, 496, 1016, 0, 4095, 8191, 16383, 16383, 32767, 131071]) rfl (by decide +kernel) (by decide +kernel) ?_ <;> (refine U_go rfl ?_; refine H_free (by decide +kernel) rfl rfl rfl rfl rfl ?_) <;> (refine U_go rfl ?_; refine H_free (by decide +kernel) rfl rfl rfl rfl rfl ?_) <;> (refine U_go rfl ?_; refine H_free (by decide +kernel) rfl rfl rfl rfl rfl ?_) <;> (refine U_go rfl ?_; refine H_free (by decide +kernel) rfl rfl rfl rfl rfl ?_) <;> (refine U_go rfl ?_; refine H_free (by decide +kernel) rfl rfl rfl rfl rfl ?_) <;> (refine U_go rfl ?_; refine H_free (by decide +kernel) rfl rfl rfl rfl rfl ?_) <;> (refine U_go rfl ?_; refine H_free (by decide +kernel) rfl rfl rfl rfl rfl ?_) <;> (refine U_go rfl ?_; refine H_free (by decide +kernel) rfl (O_index rfl rfl rfl rfl rfl ‹_›) rfl rfl rfl ?_) <;> (refine U_go rfl ?_; refine H_free (by decide +kernel) rfl rfl rfl rfl rfl ?_) <;> (refine U_go rfl ?_; refine H_free (by decide +kernel) rfl (O_call rfl rfl rfl rfl ‹_›) rfl rfl rfl ?_) <;> (refine U_go rfl ?_; refine H_free (by decide +kernel) rfl rfl rfl rfl rfl ?_) <;> (refine U_go rfl ?_; refine H_free (by decide +kernel) rfl rfl rfl rfl rfl ?_) <;> (refine U_go rfl ?_; refine H_op (by decide +kernel) (O_call rfl rfl rfl rfl ‹_›) ?_) <;> (refine U_go rfl ?_; refine H_op (by decide +kernel) rfl ?_) <;> (refine U_go rfl ?_; refine H_free (by decide +kernel) rfl rfl rfl rfl rfl ?_) <;> (refine U_go rfl ?_; refine H_free (by decide +kernel) rfl rfl rfl rfl rfl ?_) <;> (refine U_go rfl ?_; refine H_free (by decide +kernel) rfl rfl rfl rfl rfl ?_) <;> (refine U_go rfl ?_; refine H_op (by decide +kernel) rfl ?_) <;> apply U_nil) | (refine W_ops (id := 18) rfl ?_ <;> refine T_ch 2 rfl ?_ <;> (refine T_go rfl ?_; refine G_op (O_call rfl rfl rfl rfl ‹_›) ?_) <;> refine T_ch 1 rfl ?_ <;> apply T_nil) | (refine W_ops (id := 19) rfl ?_ <;> refine T_ch 2 rfl ?_ <;> (refine T_go rfl ?_; refine G_false (O_call rfl rfl rfl rfl ‹_›) rfl ?_) <;> apply T_nil) | refine W_region (id := 20) rfl rfl ?_ | apply W_skip | apply W_block))
            exact ⟨⟨fx, H2 ++ [.cells 3 (ic fx)], H2.length⟩, rfl, ⟨f1, f2, g3, fun q => by have h1 : H2.length < aH.length := hrg _ q; have := w6.1; have := m4.1; omega, by have := j7.1; have := w6.1; have := m4.1; show h.length ≤ H2.length; omega, hFr2, c, by show roomL fx < c; omega, w8⟩, hlt3⟩
        · have c2 : (op == 2) = false := by simp [o2]
          obtain ⟨H1, O1, s1, s2, s3⟩ := hS.run k (scs rest + b) ax aH aO aid alv ar an _ (hS.mono j6 (by omega)) j3 j4 j1 j2 har (by omega) hbm' hvm1' hloH
          have n1 := s3.not (cells_lt j3) j4
          have g1 := s3.get j3 j4
          have hP := put_run g1 hloid j1 _ hvm1' ar (k - 1) (by omega) hbm'
          rw [show k - 1 + 1 = k by omega] at hP
          have hm : mv1 putP ofH (.mk op nn a t e) alv ar = putP alv ar (.mk op nn a t e) := by rw [mv1, if_neg o1, if_neg o2]
          have hsp : sp1 putP ofH S.upd (.mk op nn a t e) alv ar ax an = (S.upd ax an (.mk op nn a t e) alv ar, IntKind.i64.wrap (an + 1)) := by rw [sp1, if_neg o1, if_neg o2]
          rw [hm] at j8 j9 q1 q2
          rw [hsp] at j9
          generalize putP alv ar (.mk op nn a t e) = pl at *
          have hBf := hS.frame (h' := H1.set aid (.cells 3 (ic pl))) s2 (by simp) (fun i hi => List.getElem?_set_ne (fun q => n1 (by rw [q]; exact hi)))
          have hget : (H1.set aid (HObj.cells 3 (ic pl)))[aid]? = some (.cells 3 (ic pl)) := List.getElem?_set_self (cells_lt g1)
          (repeat' (first | apply W_seq | refine W_true rfl rfl ?_ | refine W_false rfl rfl ?_ | (refine W_ops (id := 3) rfl ?_ <;> (refine T_go rfl ?_; refine G_true rfl (by with_reducible assumption) ?_) <;> apply T_nil) | (refine W_ops (id := 4) rfl ?_ <;> (refine T_go rfl ?_; refine G_op (O_index rfl rfl rfl rfl rfl ‹_›) ?_) <;> (refine T_go rfl ?_; refine G_op rfl ?_) <;> refine T_ch 2 rfl ?_ <;> apply T_nil) | refine W_region (id := 5) rfl rfl ?_ | refine W_region (id := 6) rfl rfl ?_ | refine W_region (id := 7) rfl rfl ?_ | (refine W_ops (id := 8) rfl ?_ <;> refine T_ch 5 rfl ?_ <;> (refine T_go rfl ?_; refine G_op (O_call rfl rfl rfl rfl ‹_›) ?_) <;> apply T_nil) | (refine W_ops (id := 9) rfl ?_ <;> refine T_ch 3 rfl ?_ <;> (refine T_go rfl ?_; refine G_op (O_call rfl rfl rfl rfl ‹_›) ?_) <;> apply T_nil) | (refine W_ops (id := 10) rfl ?_ <;> (refine T_go rfl ?_; refine G_false rfl (by with_reducible assumption) ?_) <;> refine T_ch 1 rfl ?_ <;> apply T_nil) | (refine W_ops (id := 16) rfl ?_ <;> (refine T_go rfl ?_; refine G_false rfl (by with_reducible assumption) ?_) <;> refine T_ch 1 rfl ?_ <;> apply T_nil) | refine W_region (id := 23) rfl rfl ?_ | apply W_skip | apply W_block))
          exact ⟨⟨pl, S.upd ax an (.mk op nn a t e) alv ar, IntKind.i64.wrap (an + 1), H1.set aid (.cells 3 (ic pl)), O1, aid⟩, rfl, q1, q2, hget, n1, j5, hBf, (j7.trans s3).set j5 _, j8, j9⟩
      · intro a hJ
        have hlt := ge_sms (l := l)
        (repeat' (first | apply W_seq | refine W_false rfl rfl ?_ | (refine W_ops (id := 3) rfl ?_ <;> (refine T_go rfl ?_; refine G_false rfl (by with_reducible assumption) ?_) <;> apply T_nil) | refine W_region (id := 24) rfl rfl ?_ | apply W_ret | apply W_exit))
        exact ⟨.inl rfl, _, rfl, a, rfl, hJ⟩
    obtain ⟨_, h1, e, rfl, _, _, h4, h5, h6, h7, h8, h9, h10⟩ := key
    rw [mvL] at h9
    rw [spL] at h10
    rw [← h9, ← h10]
    refine ⟨e.id, e.H, e.O, h1, h4, ?_, h8, h5, h6⟩
    rw [scs, Nat.zero_add] at h7
    exact h7
/- Types that move, in the program: All, Moved; the law LevelMoves. -/
theorem all_run (p : Pr') (S : See) (lo kY : Nat) (hS : SeeOk S p.vars.length lo kY) (k : Nat) (hk : smsK p.body + p.vars.length + kY + 1310 ≤ k ∧ smsK p.body ≤ 6200) (hb : prB p) (hv1 : 1 ≤ p.vars.length) (hv2 : p.vars.length ≤ 18) (hvm : vmL p.vars.length p.body) (hB : lvsB (levs p))
    (x : S.σ) (h : Heap) (hlo : lo ≤ h.length) (O : Nat → Prop) (b : Nat) (hSB : S.B (scs p.body + b) x h O) :
    ∃ out : AV × Heap, call Tryz.prog cfg (k + 1) lo (.func 32) [.agg (prC p), .fn (.func S.f) S.caps] h = some out ∧
    ∃ (id : Nat) (O' : Nat → Prop), out.1 = .sl id 1 0 p.vars.length ∧ out.2[id]? = some (.cells 3 (ic (mvL putP ofH p.body (levs p) 0))) ∧ S.B b (spL putP ofH S.upd p.body (levs p) 0 x 0).1 out.2 O' ∧ Fr h O out.2 O' ∧ ¬ O' id ∧ h.length ≤ id := by
  have hL := levels_run p (k - 1) (by omega) (by omega) h h.length
  rw [show k - 1 + 1 = k by omega, accV_ne (levs_ne hv1)] at hL
  obtain ⟨id, H', O', m1, m2, m3, m4, m5, m6⟩ := moved_run p.vars.length hv1 hv2 k S lo kY hS p.body (levs p) 0 0 x h O (.vs 1 (intsC (levs p))) b (by omega) hb.2.1 hb.2.2 hvm (levs_len p) hB lvB0 (.inl rfl) hlo hSB
  generalize hX : (spL putP ofH S.upd p.body (levs p) 0 x 0).2 = n at m1
  have hend : ∃ (id' : Nat) (O'' : Nat → Prop), ((AV.sl id 1 0 p.vars.length, H') : AV × Heap).1 = .sl id' 1 0 p.vars.length ∧ ((AV.sl id 1 0 p.vars.length, H') : AV × Heap).2[id']? = some (.cells 3 (ic (mvL putP ofH p.body (levs p) 0))) ∧ S.B b (spL putP ofH S.upd p.body (levs p) 0 x 0).1 ((AV.sl id 1 0 p.vars.length, H') : AV × Heap).2 O'' ∧ Fr h O ((AV.sl id 1 0 p.vars.length, H') : AV × Heap).2 O'' ∧ ¬ O'' id' ∧ h.length ≤ id' := ⟨id, O', rfl, m2, m3, m4, m5, m6⟩
  generalize mvL putP ofH p.body (levs p) 0 = M at hend
  generalize (spL putP ofH S.upd p.body (levs p) 0 x 0).1 = X at hend
  generalize levs p = lv at hL m1
  obtain ⟨w, vs, body⟩ := p
  dsimp only at m1 hend
  apply W_callP Tryz.func32 rfl (Nat.le_of_ble_eq_true rfl) rfl rfl
  (repeat' (first | apply W_seq | refine W_region (id := 0) rfl rfl ?_ | (refine W_dops (id := 1) (bs := [0, 1, 0, 4, 0, 31, 63, 127, 127, 255, 1023]) rfl (by decide +kernel) (by decide +kernel) ?_ <;> (refine U_go rfl ?_; refine H_free (by decide +kernel) rfl rfl rfl rfl rfl ?_) <;> (refine U_go rfl ?_; refine H_free (by decide +kernel) rfl rfl rfl rfl rfl ?_) <;> (refine U_go rfl ?_; refine H_free (by decide +kernel) rfl rfl rfl rfl rfl ?_) <;> (refine U_go rfl ?_; refine H_free (by decide +kernel) rfl (O_call rfl rfl rfl rfl ‹_›) rfl rfl rfl ?_) <;> (refine U_go rfl ?_; refine H_free (by decide +kernel) rfl rfl rfl rfl rfl ?_) <;> (refine U_go rfl ?_; refine H_op (by decide +kernel) (O_call rfl rfl rfl rfl ‹_›) ?_) <;> (refine U_go rfl ?_; refine H_op (by decide +kernel) rfl ?_) <;> (refine U_go rfl ?_; refine H_free (by decide +kernel) rfl rfl rfl rfl rfl ?_) <;> (refine U_go rfl ?_; refine H_free (by decide +kernel) rfl rfl rfl rfl rfl ?_) <;> (refine U_go rfl ?_; refine H_free (by decide +kernel) rfl rfl rfl rfl rfl ?_) <;> (refine U_go rfl ?_; refine H_op (by decide +kernel) rfl ?_) <;> apply U_nil) | refine W_region (id := 2) rfl rfl ?_ | apply W_ret))
  exact ⟨.inl rfl, _, rfl, hend⟩
/- How deep a call may go, out of Fits. -/
theorem wrap_pred {m : Int} (h1 : 0 < m) (h2 : m ≤ 10000) : IntKind.i64.wrap (m - 1) = m - 1 := Go.Ev.wrap_small (by omega) (by omega)
mutual
theorem leftE_low : ∀ (e : Ex') (m : Int), m ≤ 10000 → leftE e m ≤ m ∨ leftE e m ≤ 0
  | .mk op n c l, m, hm => by
    rw [leftE]
    split
    · exact .inr (by omega)
    · rw [wrap_pred (by omega) hm]
      rcases leftEs_low l (m - 1) (by omega) with h | h
      · exact .inl (by omega)
      · exact .inr h
theorem leftEs_low : ∀ (l : List Ex') (m : Int), m ≤ 10000 → leftEs l m ≤ m ∨ leftEs l m ≤ 0
  | [], m, _ => by rw [leftEs]; exact .inl (Int.le_refl _)
  | e :: l, m, hm => by
    rw [leftEs]
    rcases leftE_low e m hm with h | h
    · rcases leftEs_low l (leftE e m) (by omega) with h' | h'
      · exact .inl (by omega)
      · exact .inr h'
    · rcases leftEs_low l (leftE e m) (by omega) with h' | h'
      · exact .inr (by omega)
      · exact .inr h'
end
mutual
theorem leftE_K : ∀ (e : Ex') (m : Int), m ≤ 10000 → 0 < leftE e m → (exK e : Int) + 2 * leftE e m ≤ 2 * m
  | .mk op n c l, m, hm, h => by
    rw [leftE] at h ⊢
    split at h
    · omega
    · rename_i hc
      rw [if_neg hc]
      rw [wrap_pred (by omega) hm] at h ⊢
      have := leftEs_K l (m - 1) (by omega) h
      rw [exK]; omega
theorem leftEs_K : ∀ (l : List Ex') (m : Int), m ≤ 10000 → 0 < leftEs l m → (exsK l : Int) + 2 * leftEs l m ≤ 2 * m + 1
  | [], m, _, _ => by rw [leftEs, exsK]; omega
  | e :: l, m, hm, h => by
    rw [leftEs] at h ⊢
    have h0 : 0 < leftE e m := by
      rcases Int.lt_or_le 0 (leftE e m) with h' | h'
      · exact h'
      · rcases leftEs_low l (leftE e m) (by omega) with h'' | h'' <;> omega
    have h1 := leftE_K e m hm h0
    have h2 := leftEs_K l (leftE e m) (by have := exK_pos e; omega) h
    rw [exsK]; omega
end
mutual
theorem leftS1_low : ∀ (s : Sm') (m : Int), 0 < m → m ≤ 10000 → leftS1 s m ≤ m ∨ leftS1 s m ≤ 0
  | .mk op n a t e, m, h0, hm => by
    rw [leftS1, wrap_pred h0 hm]
    have h1 := leftEs_low a (m - 1) (by omega)
    have h2 := leftSs_low t (leftEs a (m - 1)) (by omega)
    have h3 := leftSs_low e (leftSs t (leftEs a (m - 1))) (by omega)
    omega
theorem leftSs_low : ∀ (l : List Sm') (m : Int), m ≤ 10000 → leftSs l m ≤ m ∨ leftSs l m ≤ 0
  | [], m, _ => by rw [leftSs]; exact .inl (Int.le_refl _)
  | s :: l, m, hm => by
    rw [leftSs]
    split
    · rename_i h0
      have h1 := leftS1_low s m h0 hm
      have h2 := leftSs_low l (leftS1 s m) (by omega)
      omega
    · exact .inl (Int.le_refl _)
end
mutual
theorem leftS1_K : ∀ (s : Sm') (m : Int), 0 < m → m ≤ 10000 → 0 < leftS1 s m → (smK s : Int) + 10 * leftS1 s m ≤ 10 * m
  | .mk op n a t e, m, h0, hm, h => by
    rw [leftS1, wrap_pred h0 hm] at h ⊢
    have l1 := leftEs_low a (m - 1) (by omega)
    have l2 := leftSs_low t (leftEs a (m - 1)) (by omega)
    have l3 := leftSs_low e (leftSs t (leftEs a (m - 1))) (by omega)
    have k3 := leftSs_K e _ (by omega) h
    have k2 := leftSs_K t (leftEs a (m - 1)) (by omega) (by omega)
    have k1 := leftEs_K a (m - 1) (by omega) (by omega)
    rw [smK]; omega
theorem leftSs_K : ∀ (l : List Sm') (m : Int), m ≤ 10000 → 0 < leftSs l m → (smsK l : Int) + 10 * leftSs l m ≤ 10 * m + 2
  | [], m, _, _ => by rw [leftSs, smsK]; omega
  | s :: l, m, hm, h => by
    rw [leftSs] at h ⊢
    split at h
    · rename_i h0
      rw [if_pos h0]
      have l1 := leftS1_low s m h0 hm
      have l2 := leftSs_low l (leftS1 s m) (by omega)
      have k1 := leftS1_K s m h0 hm (by omega)
      have k2 := leftSs_K l (leftS1 s m) (by omega) h
      rw [smsK]; omega
    · rename_i h0; omega
end
theorem fits_K {l : List Sm'} (h : fitsS l 600 = true) : smsK l ≤ 6100 := by
  have h1 : 0 < leftSs l 601 := of_decide_eq_true h
  have := leftSs_K l 601 (by omega) h1
  omega
/- Types that move: Moved in the program; the law LevelMoves. -/
theorem headRF_mem {all : List Vr'} : ∀ (vs : List Vr') (i sum : Int), headRF all vs i sum = true → ∀ v, v ∈ vs → nameB v.name = true ∧ varB v = true
  | [], _, _, _, v, hv => by cases hv
  | x :: vs, i, sum, h, v, hv => by
    rw [headRF] at h
    simp only [Bool.and_eq_true] at h
    obtain ⟨⟨⟨h1, h2⟩, _⟩, h4⟩ := h
    rcases List.mem_cons.1 hv with rfl | hv
    · exact ⟨h1, h2⟩
    · exact headRF_mem vs _ _ h4 v hv
theorem isP_var {p : Pr'} (h : isP p = true) {v : Vr'} (hv : v ∈ p.vars) : nameB v.name = true ∧ varB v = true := by
  unfold isP at h
  simp only [Bool.and_eq_true] at h
  have h1 := h.1.1.1
  unfold headRB at h1
  simp only [Bool.and_eq_true] at h1
  exact headRF_mem p.vars 0 0 h1.2 v hv
theorem isP_level {p : Pr'} (h : isP p = true) (hs : singleR p = true) {v : Vr'} (hv : v ∈ p.vars) : 0 ≤ v.level ∧ v.level ≤ 15 := by
  have h1 := (isP_var h hv).2
  unfold varB at h1
  simp only [Bool.and_eq_true, Bool.not_eq_true', decide_eq_false_iff_not] at h1
  unfold singleR at hs
  simp only [Bool.and_eq_true] at hs
  have h2 := List.all_eq_true.1 hs.1 v hv
  simp only [Bool.not_eq_true', decide_eq_false_iff_not] at h2
  omega
theorem levs_B {p : Pr'} (h : isP p = true) (hs : singleR p = true) : lvsB (levs p) := fun x hx => by
  obtain ⟨v, hv, rfl⟩ := List.mem_map.1 hx
  have := isP_level h hs hv
  unfold lvB; omega
def lastP (p : Pr') : List Int := mvL putP ofH p.body (levs p) 0
theorem flPls_num : ∀ l : List Pl, ∃ fl : List (Int × Int × Int), l.flatMap flPl = fl.map flC
  | [] => ⟨[], rfl⟩
  | p :: l => by
    obtain ⟨f2, h2⟩ := flPls_num l
    obtain ⟨f1, h1⟩ : ∃ f1 : List (Int × Int × Int), flPl p = f1.map flC := by
      obtain ⟨n, ⟨op, nn, a, t, e⟩, lv, ar⟩ := p
      unfold flPl
      dsimp only
      split
      · exact flowL_num _ _ _
      · exact ⟨[], rfl⟩
    exact ⟨f1 ++ f2, by rw [List.flatMap_cons, h1, h2, List.map_append]⟩
/- Releases: membership, what an expression reads, an expression in a copy. -/
/-! ### Membership -/
def inB (l : List Int) (n : Int) : Bool := l.any (fun x => x == n)
theorem inB_iff {l : List Int} {n : Int} : inB l n = true ↔ n ∈ l := by
  unfold inB
  rw [List.any_eq_true]
  constructor
  · rintro ⟨x, hx, h⟩
    have : x = n := by simpa using h
    exact this ▸ hx
  · intro h; exact ⟨n, h, by simp⟩
def inS (h : Heap) (lo : Nat) (l : List Int) (n : Int) (i : Int) (_ : Unit) : St :=
  { env := [(0, .v (.vs 1 (intsC l))), (1, .v (.int .i64 n)), (5, .v (.int .i64 i))], loc := [], heap := h, inRound := false, lo := lo }
theorem inR_run (l : List Int) (n : Int) (k : Nat) (hk : l.length < k) (hl : l.length < 9223372036854775808) (h : Heap) (lo : Nat) : call Tryz.prog cfg (k + 1) lo (.func 48) [.vs 1 (intsC l), .int .i64 n] h = some (.bool (inB l n), h) := by
  apply W_call Tryz.func48 rfl (Nat.le_of_ble_eq_true rfl) rfl rfl
  (repeat' (first | apply W_seq | refine W_region (id := 0) rfl rfl ?_ | refine W_region (id := 1) rfl rfl ?_ | apply W_block))
  apply W_iter (S := inS h h.length l n) (l := l) (a0 := ()) (fun rest _ => inB rest n = inB l n) (by omega) (by omega) rfl rfl
  · intro i x rest a hi hd hil hJ
    have hrow := intsC_gt hi
    have hlt := lt_ints' hil
    have hst : inB (x :: rest) n = (x == n || inB rest n) := rfl
    rw [hst] at hJ
    cases hx : (x == n) <;> rw [hx] at hJ
    · (repeat' (first | apply W_seq | refine W_true rfl rfl ?_ | refine W_false rfl rfl ?_ | (refine W_ops (id := 2) rfl ?_ <;> refine T_ch 3 rfl ?_ <;> (refine T_go rfl ?_; refine G_true rfl (by with_reducible assumption) ?_) <;> apply T_nil) | refine W_region (id := 3) rfl rfl ?_ | (refine W_ops (id := 4) rfl ?_ <;> refine T_ch 2 rfl ?_ <;> (refine T_go rfl ?_; refine G_op (O_index rfl rfl rfl rfl rfl ‹_›) ?_) <;> (refine T_go rfl ?_; refine G_op rfl ?_) <;> refine T_ch 1 rfl ?_ <;> (refine T_go rfl ?_; refine G_false rfl (by with_reducible assumption) ?_) <;> apply T_nil) | apply W_skip | apply W_block))
      exact ⟨(), rfl, by simpa using hJ⟩
    · (repeat' (first | apply W_seq | refine W_true rfl rfl ?_ | (refine W_ops (id := 2) rfl ?_ <;> refine T_ch 3 rfl ?_ <;> (refine T_go rfl ?_; refine G_true rfl (by with_reducible assumption) ?_) <;> apply T_nil) | (refine W_ops (id := 4) rfl ?_ <;> refine T_ch 2 rfl ?_ <;> (refine T_go rfl ?_; refine G_op (O_index rfl rfl rfl rfl rfl ‹_›) ?_) <;> (refine T_go rfl ?_; refine G_op rfl ?_) <;> refine T_ch 1 rfl ?_ <;> (refine T_go rfl ?_; refine G_true rfl (by with_reducible assumption) ?_) <;> apply T_nil) | refine W_region (id := 5) rfl rfl ?_ | apply W_skip | apply W_block | apply W_ret))
      exact ⟨.inl rfl, by rw [← hJ]; rfl⟩
  · intro a hJ
    have hlt := ge_ints' (l := l)
    (repeat' (first | apply W_seq | refine W_false rfl rfl ?_ | (refine W_ops (id := 2) rfl ?_ <;> refine T_ch 3 rfl ?_ <;> (refine T_go rfl ?_; refine G_false rfl (by with_reducible assumption) ?_) <;> apply T_nil) | refine W_region (id := 6) rfl rfl ?_ | apply W_ret | apply W_exit))
    exact ⟨.inl rfl, by rw [← hJ]; rfl⟩
def ixI (n : Int) : List Int → Nat → Int
  | [], _ => -1
  | x :: l, i => if (n == x) = true then (i : Int) else ixI n l (i + 1)
theorem ixI_ge (n : Int) : ∀ (l : List Int) (i : Nat), decide (ixI n l i ≥ 0) = inB l n
  | [], i => rfl
  | x :: l, i => by
    have hst : inB (x :: l) n = (x == n || inB l n) := rfl
    have hc : (x == n) = (n == x) := by rw [Bool.eq_iff_iff]; simp; exact eq_comm
    rw [ixI, hst, hc]
    cases hb : (n == x)
    · rw [if_neg (by simp), ixI_ge n l (i + 1)]; rfl
    · rw [if_pos rfl]; simp
def ixIS (h : Heap) (lo : Nat) (l : List Int) (n : Int) (i : Int) (_ : Unit) : St :=
  { env := [(0, .v (.vs 1 (intsC l))), (1, .v (.int .i64 n)), (7, .v (.int .i64 (intsC l).length)), (8, .v (.int .i64 i))], loc := [], heap := h, inRound := false, lo := lo }
theorem index_run' (l : List Int) (n : Int) (k : Nat) (hk : l.length < k) (hl : l.length < 9223372036854775808) (h : Heap) (lo : Nat) : call Tryz.prog cfg (k + 1) lo (.func 78) [.vs 1 (intsC l), .int .i64 n] h = some (.int .i64 (ixI n l 0), h) := by
  apply W_call Tryz.func78 rfl (Nat.le_of_ble_eq_true rfl) rfl rfl
  (repeat' (first | apply W_seq | refine W_region (id := 0) rfl rfl ?_ | refine W_region (id := 1) rfl rfl ?_ | apply W_block))
  apply W_iterI (S := ixIS h h.length l n) (l := l) (a0 := ()) (fun i rest _ => ixI n rest i = ixI n l 0) (by omega) (by omega) rfl rfl
  · intro i x rest a hi hd hil hJ
    have hrow := intsC_gt hi
    have hlt := lt_ints' hil
    rw [ixI] at hJ
    cases hc : (n == x)
    · rw [hc, if_neg (by simp)] at hJ
      (repeat' (first | apply W_seq | refine W_true rfl rfl ?_ | refine W_false rfl rfl ?_ | (refine W_ops (id := 2) rfl ?_ <;> (refine T_go rfl ?_; refine G_true rfl (by with_reducible assumption) ?_) <;> apply T_nil) | refine W_region (id := 3) rfl rfl ?_ | (refine W_ops (id := 4) rfl ?_ <;> refine T_ch 3 rfl ?_ <;> (refine T_go rfl ?_; refine G_op (O_index rfl rfl rfl rfl rfl ‹_›) ?_) <;> (refine T_go rfl ?_; refine G_op rfl ?_) <;> (refine T_go rfl ?_; refine G_false rfl (by with_reducible assumption) ?_) <;> apply T_nil) | refine W_region (id := 6) rfl rfl ?_ | apply W_skip | apply W_block))
      exact ⟨(), rfl, hJ⟩
    · rw [hc, if_pos rfl] at hJ
      (repeat' (first | apply W_seq | refine W_true rfl rfl ?_ | (refine W_ops (id := 2) rfl ?_ <;> (refine T_go rfl ?_; refine G_true rfl (by with_reducible assumption) ?_) <;> apply T_nil) | refine W_region (id := 3) rfl rfl ?_ | (refine W_ops (id := 4) rfl ?_ <;> refine T_ch 3 rfl ?_ <;> (refine T_go rfl ?_; refine G_op (O_index rfl rfl rfl rfl rfl ‹_›) ?_) <;> (refine T_go rfl ?_; refine G_op rfl ?_) <;> (refine T_go rfl ?_; refine G_true rfl (by with_reducible assumption) ?_) <;> apply T_nil) | refine W_region (id := 5) rfl rfl ?_ | apply W_skip | apply W_block | apply W_ret))
      exact ⟨.inl rfl, by rw [← hJ]; rfl⟩
  · intro a hJ
    have hlt := ge_ints' (l := l)
    (repeat' (first | apply W_seq | refine W_false rfl rfl ?_ | (refine W_ops (id := 2) rfl ?_ <;> (refine T_go rfl ?_; refine G_false rfl (by with_reducible assumption) ?_) <;> apply T_nil) | refine W_region (id := 7) rfl rfl ?_ | apply W_ret | apply W_exit))
    exact ⟨.inl rfl, by rw [← hJ]; rfl⟩
theorem contI_run (l : List Int) (n : Int) (k : Nat) (hk : l.length + 1 < k) (hl : l.length < 9223372036854775808) (h : Heap) (lo : Nat) : call Tryz.prog cfg (k + 1) lo (.func 34) [.vs 1 (intsC l), .int .i64 n] h = some (.bool (inB l n), h) := by
  have hI := index_run' l n (k - 1) (by omega) hl h h.length
  rw [show k - 1 + 1 = k by omega] at hI
  have hg := ixI_ge n l 0
  cases hc : inB l n <;> rw [hc] at hg <;>
  · apply W_call Tryz.func34 rfl (Nat.le_of_ble_eq_true rfl) rfl rfl
    (repeat' (first | apply W_seq | refine W_region (id := 0) rfl rfl ?_ | (refine W_ops (id := 1) rfl ?_ <;> refine T_ch 2 rfl ?_ <;> (refine T_go rfl ?_; refine G_op (O_call rfl rfl rfl rfl ‹_›) ?_) <;> (refine T_go rfl ?_; first | refine G_true rfl (by with_reducible assumption) ?_ | refine G_false rfl (by with_reducible assumption) ?_) <;> refine T_ch 1 rfl ?_ <;> apply T_nil) | apply W_ret))
    exact ⟨.inl rfl, rfl⟩
/-! ### What an expression reads -/
mutual
def rvE (v : Int) : Ex' → Bool
  | .mk op n _ es => (op == 1 && n == v) || rvEs v es
def rvEs (v : Int) : List Ex' → Bool
  | [] => false
  | e :: es => rvE v e || rvEs v es
end
def rdS (h : Heap) (lo : Nat) (e : Ex') (v : Int) (i : Int) (_ : Unit) : St :=
  { env := [(1, .v (.int .i64 v)), (2, .p 2 0), (5, .v (.int .i64 i))], loc := [(2, exC e)], heap := h, inRound := false, lo := lo }
theorem readsR_run (v : Int) : ∀ (k : Nat) (e : Ex'), exK e ≤ k → exB e → ∀ (h : Heap) (lo : Nat), call Tryz.prog cfg k lo (.func 97) [.agg (exC e), .int .i64 v] h = some (.bool (rvE v e), h)
  | 0, e, hk, _, _, _ => by have := exK_pos e; omega
  | k + 1, .mk op n cp es, hk, hb, h, lo => by
    rw [exK] at hk
    rw [exB] at hb
    have hlen := exsK_len es
    rw [rvE]
    cases hop : (op == 1) with
    | true =>
      cases hnv : (n == v) with
      | true =>
        apply W_call Tryz.func97 rfl (Nat.le_of_ble_eq_true rfl) rfl rfl
        (repeat' (first | apply W_seq | refine W_true rfl rfl ?_ | refine W_region (id := 0) rfl rfl ?_ | (refine W_ops (id := 1) rfl ?_ <;> refine T_ch 2 rfl ?_ <;> (refine T_go rfl ?_; refine G_true rfl (by with_reducible assumption) ?_) <;> refine T_ch 4 rfl ?_ <;> (refine T_go rfl ?_; refine G_true rfl (by with_reducible assumption) ?_) <;> refine T_ch 1 rfl ?_ <;> apply T_nil) | refine W_region (id := 2) rfl rfl ?_ | apply W_ret))
        exact ⟨.inl rfl, rfl⟩
      | false =>
        apply W_call Tryz.func97 rfl (Nat.le_of_ble_eq_true rfl) rfl rfl
        (repeat' (first | apply W_seq | refine W_false rfl rfl ?_ | refine W_region (id := 0) rfl rfl ?_ | (refine W_ops (id := 1) rfl ?_ <;> refine T_ch 2 rfl ?_ <;> (refine T_go rfl ?_; refine G_true rfl (by with_reducible assumption) ?_) <;> refine T_ch 4 rfl ?_ <;> (refine T_go rfl ?_; refine G_false rfl (by with_reducible assumption) ?_) <;> refine T_ch 1 rfl ?_ <;> apply T_nil) | refine W_region (id := 3) rfl rfl ?_ | apply W_skip | apply W_block))
        apply W_iter (S := rdS h h.length (.mk op n cp es) v) (l := es) (a0 := ()) (fun rest _ => rvEs v rest = rvEs v es) hb.1 (by omega) rfl rfl
        · intro i e rest a hi hd hil hJ
          have hrow := exsC_get _ _ _ hi
          have ih := readsR_run v k e (by have := exsK_mem es i _ hi; omega) (exsB_mem es i _ hb.2 hi) h h.length
          have hlt := lt_exs hil
          rw [rvEs] at hJ
          generalize rvE v e = x at ih hJ
          obtain ⟨op', n', cp', es'⟩ := e
          cases x
          · (repeat' (first | apply W_seq | refine W_true rfl rfl ?_ | refine W_false rfl rfl ?_ | (refine W_ops (id := 4) rfl ?_ <;> refine T_ch 4 rfl ?_ <;> (refine T_go rfl ?_; refine G_true rfl (by with_reducible assumption) ?_) <;> apply T_nil) | refine W_region (id := 5) rfl rfl ?_ | (refine W_ops (id := 6) rfl ?_ <;> refine T_ch 3 rfl ?_ <;> (refine T_go rfl ?_; refine G_op (O_index rfl rfl rfl rfl rfl ‹_›) ?_) <;> (refine T_go rfl ?_; refine G_op rfl ?_) <;> refine T_ch 1 rfl ?_ <;> (refine T_go rfl ?_; refine G_false (O_call rfl rfl rfl rfl ‹_›) rfl ?_) <;> apply T_nil) | apply W_skip | apply W_block))
            exact ⟨(), rfl, by simpa using hJ⟩
          · (repeat' (first | apply W_seq | refine W_true rfl rfl ?_ | (refine W_ops (id := 4) rfl ?_ <;> refine T_ch 4 rfl ?_ <;> (refine T_go rfl ?_; refine G_true rfl (by with_reducible assumption) ?_) <;> apply T_nil) | (refine W_ops (id := 6) rfl ?_ <;> refine T_ch 3 rfl ?_ <;> (refine T_go rfl ?_; refine G_op (O_index rfl rfl rfl rfl rfl ‹_›) ?_) <;> (refine T_go rfl ?_; refine G_op rfl ?_) <;> refine T_ch 1 rfl ?_ <;> (refine T_go rfl ?_; refine G_true (O_call rfl rfl rfl rfl ‹_›) rfl ?_) <;> apply T_nil) | refine W_region (id := 7) rfl rfl ?_ | apply W_skip | apply W_block | apply W_ret))
            exact ⟨.inl rfl, by rw [← hJ]; rfl⟩
        · intro a hJ
          have hlt := ge_exs (l := es)
          (repeat' (first | apply W_seq | refine W_false rfl rfl ?_ | (refine W_ops (id := 4) rfl ?_ <;> refine T_ch 4 rfl ?_ <;> (refine T_go rfl ?_; refine G_false rfl (by with_reducible assumption) ?_) <;> apply T_nil) | refine W_region (id := 8) rfl rfl ?_ | apply W_ret | apply W_exit))
          exact ⟨.inl rfl, by rw [← hJ]; rfl⟩
    | false =>
      apply W_call Tryz.func97 rfl (Nat.le_of_ble_eq_true rfl) rfl rfl
      (repeat' (first | apply W_seq | refine W_false rfl rfl ?_ | refine W_region (id := 0) rfl rfl ?_ | (refine W_ops (id := 1) rfl ?_ <;> refine T_ch 2 rfl ?_ <;> (refine T_go rfl ?_; refine G_false rfl (by with_reducible assumption) ?_) <;> refine T_ch 4 rfl ?_ <;> refine T_skip rfl ?_ <;> refine T_ch 1 rfl ?_ <;> apply T_nil) | refine W_region (id := 3) rfl rfl ?_ | apply W_skip | apply W_block))
      apply W_iter (S := rdS h h.length (.mk op n cp es) v) (l := es) (a0 := ()) (fun rest _ => rvEs v rest = rvEs v es) hb.1 (by omega) rfl rfl
      · intro i e rest a hi hd hil hJ
        have hrow := exsC_get _ _ _ hi
        have ih := readsR_run v k e (by have := exsK_mem es i _ hi; omega) (exsB_mem es i _ hb.2 hi) h h.length
        have hlt := lt_exs hil
        rw [rvEs] at hJ
        generalize rvE v e = x at ih hJ
        obtain ⟨op', n', cp', es'⟩ := e
        cases x
        · (repeat' (first | apply W_seq | refine W_true rfl rfl ?_ | refine W_false rfl rfl ?_ | (refine W_ops (id := 4) rfl ?_ <;> refine T_ch 4 rfl ?_ <;> (refine T_go rfl ?_; refine G_true rfl (by with_reducible assumption) ?_) <;> apply T_nil) | refine W_region (id := 5) rfl rfl ?_ | (refine W_ops (id := 6) rfl ?_ <;> refine T_ch 3 rfl ?_ <;> (refine T_go rfl ?_; refine G_op (O_index rfl rfl rfl rfl rfl ‹_›) ?_) <;> (refine T_go rfl ?_; refine G_op rfl ?_) <;> refine T_ch 1 rfl ?_ <;> (refine T_go rfl ?_; refine G_false (O_call rfl rfl rfl rfl ‹_›) rfl ?_) <;> apply T_nil) | apply W_skip | apply W_block))
          exact ⟨(), rfl, by simpa using hJ⟩
        · (repeat' (first | apply W_seq | refine W_true rfl rfl ?_ | (refine W_ops (id := 4) rfl ?_ <;> refine T_ch 4 rfl ?_ <;> (refine T_go rfl ?_; refine G_true rfl (by with_reducible assumption) ?_) <;> apply T_nil) | (refine W_ops (id := 6) rfl ?_ <;> refine T_ch 3 rfl ?_ <;> (refine T_go rfl ?_; refine G_op (O_index rfl rfl rfl rfl rfl ‹_›) ?_) <;> (refine T_go rfl ?_; refine G_op rfl ?_) <;> refine T_ch 1 rfl ?_ <;> (refine T_go rfl ?_; refine G_true (O_call rfl rfl rfl rfl ‹_›) rfl ?_) <;> apply T_nil) | refine W_region (id := 7) rfl rfl ?_ | apply W_skip | apply W_block | apply W_ret))
          exact ⟨.inl rfl, by rw [← hJ]; rfl⟩
      · intro a hJ
        have hlt := ge_exs (l := es)
        (repeat' (first | apply W_seq | refine W_false rfl rfl ?_ | (refine W_ops (id := 4) rfl ?_ <;> refine T_ch 4 rfl ?_ <;> (refine T_go rfl ?_; refine G_false rfl (by with_reducible assumption) ?_) <;> apply T_nil) | refine W_region (id := 8) rfl rfl ?_ | apply W_ret | apply W_exit))
        exact ⟨.inl rfl, by rw [← hJ]; rfl⟩
/-! ### An expression in a copy -/
mutual
def mvE (c : Int) : Ex' → Ex'
  | .mk op n _ es => .mk op n (if op == 1 then c else 0) (mvEs c es)
def mvEs (c : Int) : List Ex' → List Ex'
  | [] => []
  | e :: es => mvE c e :: mvEs c es
end
def mvRS (h : Heap) (e : Ex') (c cp : Int) (i : Int) (a : List Ex') : St :=
  match e with
  | .mk op n _ _ => { env := [(1, .v (.int .i64 c)), (2, .p 2 0), (4, .p 4 0), (5, .p 5 0), (6, .v (.int .i64 i))], loc := [(2, exC e), (4, [.int .i64 0, .int .i64 0, .int .i64 0, .nils]), (5, [.int .i64 op, .int .i64 n, .int .i64 cp, accA h 4 (exsC a)])], heap := accH h 31 (exsC a), inRound := false, lo := h.length }
theorem moveR_run (c : Int) : ∀ (k : Nat) (e : Ex'), exK e ≤ k → exK e ≤ 1000000 → exB e → ∀ (h : Heap) (lo : Nat), call Tryz.prog cfg k lo (.func 54) [.agg (exC e), .int .i64 c] h = some (.agg (exC (mvE c e)), h)
  | 0, e, hk, _, _, _, _ => by have := exK_pos e; omega
  | k + 1, .mk op n cp es, hk, hK, hb, h, lo => by
    rw [exK] at hk hK
    rw [exB] at hb
    have hlen := exsK_len es
    have hfin := fun cc => ecopy_fin h op n cc (mvEs c es)
    rw [mvE]
    cases hop : (op == 1) with
    | true =>
      rw [if_pos rfl]
      have hfin := hfin c
      apply W_call Tryz.func54 rfl (Nat.le_of_ble_eq_true rfl) rfl rfl
      (repeat' (first | apply W_seq | refine W_true rfl rfl ?_ | refine W_region (id := 0) rfl rfl ?_ | refine W_region (id := 1) rfl rfl ?_ | (refine W_ops (id := 2) rfl ?_ <;> refine T_ch 2 rfl ?_ <;> (refine T_go rfl ?_; refine G_true rfl (by with_reducible assumption) ?_) <;> apply T_nil) | refine W_region (id := 3) rfl rfl ?_ | refine W_region (id := 4) rfl rfl ?_ | apply W_block))
      apply W_iterI (S := mvRS h (.mk op n cp es) c c) (l := es) (a0 := []) (fun i rest a => a ++ mvEs c rest = mvEs c es ∧ a.length = i) hb.1 (by omega) rfl ⟨rfl, rfl⟩
      · intro i e rest a hi hd hil hJ
        have hrow := exsC_get _ _ _ hi
        have hlt := lt_exs hil
        have hm := exsK_mem es i _ hi
        have ih := moveR_run c k e (by omega) (by omega) (exsB_mem es i _ hb.2 hi) (accH h 31 (exsC a)) (accH h 31 (exsC a)).length
        have ih' := moveR_run c k e (by omega) (by omega) (exsB_mem es i _ hb.2 hi) (accH h 31 (exsC a)) h.length
        have hap := ex_append h a (mvE c e) (by omega)
        rw [mvEs] at hJ
        generalize mvE c e = e2 at ih ih' hap hJ
        obtain ⟨op', n', cp', es'⟩ := e
        obtain ⟨op2, n2, cp2, es2⟩ := e2
        rcases a with _ | ⟨a0, a⟩
        · (repeat' (first | apply W_seq | refine W_true rfl rfl ?_ | (refine W_ops (id := 5) rfl ?_ <;> refine T_ch 4 rfl ?_ <;> (refine T_go rfl ?_; refine G_true rfl (by with_reducible assumption) ?_) <;> apply T_nil) | refine W_region (id := 6) rfl rfl ?_ | (refine W_dops (id := 7) (bs := [0, 1, 0, 4, 0, 28, 60, 0, 252, 508, 1023, 2047, 4095]) rfl (by decide +kernel) (by decide +kernel) ?_ <;> (refine U_go rfl ?_; refine H_free (by decide +kernel) rfl rfl rfl rfl rfl ?_) <;> (refine U_go rfl ?_; refine H_free (by decide +kernel) rfl rfl rfl rfl rfl ?_) <;> (refine U_go rfl ?_; refine H_free (by decide +kernel) rfl rfl rfl rfl rfl ?_) <;> (refine U_go rfl ?_; refine H_free (by decide +kernel) rfl rfl rfl rfl rfl ?_) <;> (refine U_go rfl ?_; refine H_free (by decide +kernel) rfl rfl rfl rfl rfl ?_) <;> (refine U_go rfl ?_; refine H_free (by decide +kernel) rfl (O_index rfl rfl rfl rfl rfl ‹_›) rfl rfl rfl ?_) <;> (refine U_go rfl ?_; refine H_free (by decide +kernel) rfl rfl rfl rfl rfl ?_) <;> (refine U_go rfl ?_; refine H_free (by decide +kernel) rfl rfl rfl rfl rfl ?_) <;> (refine U_go rfl ?_; refine H_free (by decide +kernel) rfl (O_call rfl rfl rfl rfl ‹_›) rfl rfl rfl ?_) <;> (refine U_go rfl ?_; refine H_free (by decide +kernel) rfl rfl rfl rfl rfl ?_) <;> (refine U_go rfl ?_; refine H_op (by decide +kernel) (O_append rfl rfl rfl rfl rfl ‹_›) ?_) <;> (refine U_go rfl ?_; refine H_op (by decide +kernel) rfl ?_) <;> (refine U_go rfl ?_; refine H_op (by decide +kernel) rfl ?_) <;> apply U_nil) | apply W_skip | apply W_block))
          exact ⟨[] ++ [.mk op2 n2 cp2 es2], rfl, by rw [← hJ.1]; simp, by simp [hJ.2]⟩
        · (repeat' (first | apply W_seq | refine W_true rfl rfl ?_ | (refine W_ops (id := 5) rfl ?_ <;> refine T_ch 4 rfl ?_ <;> (refine T_go rfl ?_; refine G_true rfl (by with_reducible assumption) ?_) <;> apply T_nil) | refine W_region (id := 6) rfl rfl ?_ | (refine W_dops (id := 7) (bs := [0, 1, 0, 4, 0, 28, 60, 0, 252, 508, 1023, 2047, 4095]) rfl (by decide +kernel) (by decide +kernel) ?_ <;> (refine U_go rfl ?_; refine H_free (by decide +kernel) rfl rfl rfl rfl rfl ?_) <;> (refine U_go rfl ?_; refine H_free (by decide +kernel) rfl rfl rfl rfl rfl ?_) <;> (refine U_go rfl ?_; refine H_free (by decide +kernel) rfl rfl rfl rfl rfl ?_) <;> (refine U_go rfl ?_; refine H_free (by decide +kernel) rfl rfl rfl rfl rfl ?_) <;> (refine U_go rfl ?_; refine H_free (by decide +kernel) rfl rfl rfl rfl rfl ?_) <;> (refine U_go rfl ?_; refine H_free (by decide +kernel) rfl (O_index rfl rfl rfl rfl rfl ‹_›) rfl rfl rfl ?_) <;> (refine U_go rfl ?_; refine H_free (by decide +kernel) rfl rfl rfl rfl rfl ?_) <;> (refine U_go rfl ?_; refine H_free (by decide +kernel) rfl rfl rfl rfl rfl ?_) <;> (refine U_go rfl ?_; refine H_free (by decide +kernel) rfl (O_call rfl rfl rfl rfl ‹_›) rfl rfl rfl ?_) <;> (refine U_go rfl ?_; refine H_free (by decide +kernel) rfl rfl rfl rfl rfl ?_) <;> (refine U_go rfl ?_; refine H_op (by decide +kernel) (O_append rfl rfl rfl rfl rfl ‹_›) ?_) <;> (refine U_go rfl ?_; refine H_op (by decide +kernel) rfl ?_) <;> (refine U_go rfl ?_; refine H_op (by decide +kernel) rfl ?_) <;> apply U_nil) | apply W_skip | apply W_block))
          exact ⟨a0 :: a ++ [.mk op2 n2 cp2 es2], rfl, by rw [← hJ.1]; simp, by have := hJ.2; simp at this ⊢; omega⟩
      · intro a hJ
        have hlt := ge_exs (l := es)
        have ha : a = mvEs c es := by simpa [mvEs] using hJ.1
        subst ha
        (repeat' (first | apply W_seq | refine W_false rfl rfl ?_ | (refine W_ops (id := 5) rfl ?_ <;> refine T_ch 4 rfl ?_ <;> (refine T_go rfl ?_; refine G_false rfl (by with_reducible assumption) ?_) <;> apply T_nil) | refine W_region (id := 8) rfl rfl ?_ | apply W_ret | apply W_exit))
        exact ⟨.inl rfl, hfin⟩
    | false =>
      rw [if_neg (by simp)]
      have hfin := hfin 0
      apply W_call Tryz.func54 rfl (Nat.le_of_ble_eq_true rfl) rfl rfl
      (repeat' (first | apply W_seq | refine W_false rfl rfl ?_ | refine W_region (id := 0) rfl rfl ?_ | refine W_region (id := 1) rfl rfl ?_ | (refine W_ops (id := 2) rfl ?_ <;> refine T_ch 2 rfl ?_ <;> (refine T_go rfl ?_; refine G_false rfl (by with_reducible assumption) ?_) <;> apply T_nil) | refine W_region (id := 4) rfl rfl ?_ | apply W_skip | apply W_block))
      apply W_iterI (S := mvRS h (.mk op n cp es) c 0) (l := es) (a0 := []) (fun i rest a => a ++ mvEs c rest = mvEs c es ∧ a.length = i) hb.1 (by omega) rfl ⟨rfl, rfl⟩
      · intro i e rest a hi hd hil hJ
        have hrow := exsC_get _ _ _ hi
        have hlt := lt_exs hil
        have hm := exsK_mem es i _ hi
        have ih := moveR_run c k e (by omega) (by omega) (exsB_mem es i _ hb.2 hi) (accH h 31 (exsC a)) (accH h 31 (exsC a)).length
        have ih' := moveR_run c k e (by omega) (by omega) (exsB_mem es i _ hb.2 hi) (accH h 31 (exsC a)) h.length
        have hap := ex_append h a (mvE c e) (by omega)
        rw [mvEs] at hJ
        generalize mvE c e = e2 at ih ih' hap hJ
        obtain ⟨op', n', cp', es'⟩ := e
        obtain ⟨op2, n2, cp2, es2⟩ := e2
        rcases a with _ | ⟨a0, a⟩
        · (repeat' (first | apply W_seq | refine W_true rfl rfl ?_ | (refine W_ops (id := 5) rfl ?_ <;> refine T_ch 4 rfl ?_ <;> (refine T_go rfl ?_; refine G_true rfl (by with_reducible assumption) ?_) <;> apply T_nil) | refine W_region (id := 6) rfl rfl ?_ | (refine W_dops (id := 7) (bs := [0, 1, 0, 4, 0, 28, 60, 0, 252, 508, 1023, 2047, 4095]) rfl (by decide +kernel) (by decide +kernel) ?_ <;> (refine U_go rfl ?_; refine H_free (by decide +kernel) rfl rfl rfl rfl rfl ?_) <;> (refine U_go rfl ?_; refine H_free (by decide +kernel) rfl rfl rfl rfl rfl ?_) <;> (refine U_go rfl ?_; refine H_free (by decide +kernel) rfl rfl rfl rfl rfl ?_) <;> (refine U_go rfl ?_; refine H_free (by decide +kernel) rfl rfl rfl rfl rfl ?_) <;> (refine U_go rfl ?_; refine H_free (by decide +kernel) rfl rfl rfl rfl rfl ?_) <;> (refine U_go rfl ?_; refine H_free (by decide +kernel) rfl (O_index rfl rfl rfl rfl rfl ‹_›) rfl rfl rfl ?_) <;> (refine U_go rfl ?_; refine H_free (by decide +kernel) rfl rfl rfl rfl rfl ?_) <;> (refine U_go rfl ?_; refine H_free (by decide +kernel) rfl rfl rfl rfl rfl ?_) <;> (refine U_go rfl ?_; refine H_free (by decide +kernel) rfl (O_call rfl rfl rfl rfl ‹_›) rfl rfl rfl ?_) <;> (refine U_go rfl ?_; refine H_free (by decide +kernel) rfl rfl rfl rfl rfl ?_) <;> (refine U_go rfl ?_; refine H_op (by decide +kernel) (O_append rfl rfl rfl rfl rfl ‹_›) ?_) <;> (refine U_go rfl ?_; refine H_op (by decide +kernel) rfl ?_) <;> (refine U_go rfl ?_; refine H_op (by decide +kernel) rfl ?_) <;> apply U_nil) | apply W_skip | apply W_block))
          exact ⟨[] ++ [.mk op2 n2 cp2 es2], rfl, by rw [← hJ.1]; simp, by simp [hJ.2]⟩
        · (repeat' (first | apply W_seq | refine W_true rfl rfl ?_ | (refine W_ops (id := 5) rfl ?_ <;> refine T_ch 4 rfl ?_ <;> (refine T_go rfl ?_; refine G_true rfl (by with_reducible assumption) ?_) <;> apply T_nil) | refine W_region (id := 6) rfl rfl ?_ | (refine W_dops (id := 7) (bs := [0, 1, 0, 4, 0, 28, 60, 0, 252, 508, 1023, 2047, 4095]) rfl (by decide +kernel) (by decide +kernel) ?_ <;> (refine U_go rfl ?_; refine H_free (by decide +kernel) rfl rfl rfl rfl rfl ?_) <;> (refine U_go rfl ?_; refine H_free (by decide +kernel) rfl rfl rfl rfl rfl ?_) <;> (refine U_go rfl ?_; refine H_free (by decide +kernel) rfl rfl rfl rfl rfl ?_) <;> (refine U_go rfl ?_; refine H_free (by decide +kernel) rfl rfl rfl rfl rfl ?_) <;> (refine U_go rfl ?_; refine H_free (by decide +kernel) rfl rfl rfl rfl rfl ?_) <;> (refine U_go rfl ?_; refine H_free (by decide +kernel) rfl (O_index rfl rfl rfl rfl rfl ‹_›) rfl rfl rfl ?_) <;> (refine U_go rfl ?_; refine H_free (by decide +kernel) rfl rfl rfl rfl rfl ?_) <;> (refine U_go rfl ?_; refine H_free (by decide +kernel) rfl rfl rfl rfl rfl ?_) <;> (refine U_go rfl ?_; refine H_free (by decide +kernel) rfl (O_call rfl rfl rfl rfl ‹_›) rfl rfl rfl ?_) <;> (refine U_go rfl ?_; refine H_free (by decide +kernel) rfl rfl rfl rfl rfl ?_) <;> (refine U_go rfl ?_; refine H_op (by decide +kernel) (O_append rfl rfl rfl rfl rfl ‹_›) ?_) <;> (refine U_go rfl ?_; refine H_op (by decide +kernel) rfl ?_) <;> (refine U_go rfl ?_; refine H_op (by decide +kernel) rfl ?_) <;> apply U_nil) | apply W_skip | apply W_block))
          exact ⟨a0 :: a ++ [.mk op2 n2 cp2 es2], rfl, by rw [← hJ.1]; simp, by have := hJ.2; simp at this ⊢; omega⟩
      · intro a hJ
        have hlt := ge_exs (l := es)
        have ha : a = mvEs c es := by simpa [mvEs] using hJ.1
        subst ha
        (repeat' (first | apply W_seq | refine W_false rfl rfl ?_ | (refine W_ops (id := 5) rfl ?_ <;> refine T_ch 4 rfl ?_ <;> (refine T_go rfl ?_; refine G_false rfl (by with_reducible assumption) ?_) <;> apply T_nil) | refine W_region (id := 8) rfl rfl ?_ | apply W_ret | apply W_exit))
        exact ⟨.inl rfl, hfin⟩
mutual
def cpE (c : Int) : Ex' → Ex'
  | .mk op n cp es => .mk op n (if op == 1 then c else cp) (cpEs c es)
def cpEs (c : Int) : List Ex' → List Ex'
  | [] => []
  | e :: es => cpE c e :: cpEs c es
end
def cpyS (h : Heap) (e : Ex') (c cp : Int) (i : Int) (a : List Ex') : St :=
  match e with
  | .mk op n _ es => { env := [(1, .v (.int .i64 c)), (2, .p 2 0), (4, .p 4 0), (5, .v (accA h 4 (exsC a))), (14, .v (.vs 4 (exsC es))), (15, .v (.int .i64 (exsC es).length)), (16, .v (.int .i64 i))], loc := [(2, exC (.mk op n cp es)), (4, [.int .i64 0, .int .i64 0, .int .i64 0, .nils])], heap := accH h 31 (exsC a), inRound := false, lo := h.length }
theorem inCopy_run (c : Int) : ∀ (k : Nat) (e : Ex'), exK e ≤ k → exK e ≤ 1000000 → exB e → ∀ (h : Heap) (lo : Nat), call Tryz.prog cfg k lo (.func 39) [.agg (exC e), .int .i64 c] h = some (.agg (exC (cpE c e)), h)
  | 0, e, hk, _, _, _, _ => by have := exK_pos e; omega
  | k + 1, .mk op n cp es, hk, hK, hb, h, lo => by
    rw [exK] at hk hK
    rw [exB] at hb
    have hlen := exsK_len es
    have hfin := fun cc => ecopy_fin h op n cc (cpEs c es)
    rw [cpE]
    cases hop : (op == 1) with
    | true =>
      rw [if_pos rfl]
      have hfin := hfin c
      apply W_call Tryz.func39 rfl (Nat.le_of_ble_eq_true rfl) rfl rfl
      (repeat' (first | apply W_seq | refine W_true rfl rfl ?_ | refine W_region (id := 0) rfl rfl ?_ | (refine W_ops (id := 1) rfl ?_ <;> refine T_ch 2 rfl ?_ <;> (refine T_go rfl ?_; refine G_true rfl (by with_reducible assumption) ?_) <;> apply T_nil) | refine W_region (id := 2) rfl rfl ?_ | refine W_region (id := 3) rfl rfl ?_ | refine W_region (id := 4) rfl rfl ?_ | apply W_block))
      apply W_iterI (S := cpyS h (.mk op n cp es) c c) (l := es) (a0 := []) (fun i rest a => a ++ cpEs c rest = cpEs c es ∧ a.length = i) hb.1 (by omega) rfl ⟨rfl, rfl⟩
      · intro i e rest a hi hd hil hJ
        have hrow := exsC_get _ _ _ hi
        have hlt := lt_exs hil
        have hm := exsK_mem es i _ hi
        have ih' := inCopy_run c k e (by omega) (by omega) (exsB_mem es i _ hb.2 hi) (accH h 31 (exsC a)) h.length
        have hap := ex_append h a (cpE c e) (by omega)
        rw [cpEs] at hJ
        generalize cpE c e = e2 at ih' hap hJ
        obtain ⟨op', n', cp', es'⟩ := e
        obtain ⟨op2, n2, cp2, es2⟩ := e2
        (repeat' (first | apply W_seq | refine W_true rfl rfl ?_ | (refine W_ops (id := 5) rfl ?_ <;> (refine T_go rfl ?_; refine G_true rfl (by with_reducible assumption) ?_) <;> apply T_nil) | (refine W_ops (id := 6) rfl ?_ <;> (refine T_go rfl ?_; refine G_op (O_index rfl rfl rfl rfl rfl ‹_›) ?_) <;> (refine T_go rfl ?_; refine G_op rfl ?_) <;> refine T_ch 2 rfl ?_ <;> apply T_nil) | (refine W_ops (id := 7) rfl ?_ <;> refine T_ch 3 rfl ?_ <;> (refine T_go rfl ?_; refine G_op (O_call rfl rfl rfl rfl ‹_›) ?_) <;> refine T_ch 1 rfl ?_ <;> (refine T_go rfl ?_; refine G_op (O_append rfl rfl rfl rfl rfl ‹_›) ?_) <;> refine T_ch 1 rfl ?_ <;> apply T_nil) | refine W_region (id := 8) rfl rfl ?_ | apply W_skip | apply W_block))
        exact ⟨a ++ [.mk op2 n2 cp2 es2], rfl, by rw [← hJ.1]; simp, by simp [hJ.2]⟩
      · intro a hJ
        have hlt := ge_exs (l := es)
        have ha : a = cpEs c es := by simpa [cpEs] using hJ.1
        generalize cpEs c es = R at ha hfin ⊢
        subst ha
        rcases a with _ | ⟨a0, a⟩ <;>
        · (repeat' (first | apply W_seq | refine W_false rfl rfl ?_ | (refine W_ops (id := 5) rfl ?_ <;> (refine T_go rfl ?_; refine G_false rfl (by with_reducible assumption) ?_) <;> apply T_nil) | refine W_region (id := 9) rfl rfl ?_ | refine W_region (id := 10) rfl rfl ?_ | apply W_ret | apply W_exit))
          exact ⟨.inl rfl, hfin⟩
    | false =>
      rw [if_neg (by simp)]
      have hfin := hfin cp
      apply W_call Tryz.func39 rfl (Nat.le_of_ble_eq_true rfl) rfl rfl
      (repeat' (first | apply W_seq | refine W_false rfl rfl ?_ | refine W_region (id := 0) rfl rfl ?_ | (refine W_ops (id := 1) rfl ?_ <;> refine T_ch 2 rfl ?_ <;> (refine T_go rfl ?_; refine G_false rfl (by with_reducible assumption) ?_) <;> apply T_nil) | refine W_region (id := 3) rfl rfl ?_ | refine W_region (id := 4) rfl rfl ?_ | apply W_skip | apply W_block))
      apply W_iterI (S := cpyS h (.mk op n cp es) c cp) (l := es) (a0 := []) (fun i rest a => a ++ cpEs c rest = cpEs c es ∧ a.length = i) hb.1 (by omega) rfl ⟨rfl, rfl⟩
      · intro i e rest a hi hd hil hJ
        have hrow := exsC_get _ _ _ hi
        have hlt := lt_exs hil
        have hm := exsK_mem es i _ hi
        have ih' := inCopy_run c k e (by omega) (by omega) (exsB_mem es i _ hb.2 hi) (accH h 31 (exsC a)) h.length
        have hap := ex_append h a (cpE c e) (by omega)
        rw [cpEs] at hJ
        generalize cpE c e = e2 at ih' hap hJ
        obtain ⟨op', n', cp', es'⟩ := e
        obtain ⟨op2, n2, cp2, es2⟩ := e2
        (repeat' (first | apply W_seq | refine W_true rfl rfl ?_ | (refine W_ops (id := 5) rfl ?_ <;> (refine T_go rfl ?_; refine G_true rfl (by with_reducible assumption) ?_) <;> apply T_nil) | (refine W_ops (id := 6) rfl ?_ <;> (refine T_go rfl ?_; refine G_op (O_index rfl rfl rfl rfl rfl ‹_›) ?_) <;> (refine T_go rfl ?_; refine G_op rfl ?_) <;> refine T_ch 2 rfl ?_ <;> apply T_nil) | (refine W_ops (id := 7) rfl ?_ <;> refine T_ch 3 rfl ?_ <;> (refine T_go rfl ?_; refine G_op (O_call rfl rfl rfl rfl ‹_›) ?_) <;> refine T_ch 1 rfl ?_ <;> (refine T_go rfl ?_; refine G_op (O_append rfl rfl rfl rfl rfl ‹_›) ?_) <;> refine T_ch 1 rfl ?_ <;> apply T_nil) | refine W_region (id := 8) rfl rfl ?_ | apply W_skip | apply W_block))
        exact ⟨a ++ [.mk op2 n2 cp2 es2], rfl, by rw [← hJ.1]; simp, by simp [hJ.2]⟩
      · intro a hJ
        have hlt := ge_exs (l := es)
        have ha : a = cpEs c es := by simpa [cpEs] using hJ.1
        generalize cpEs c es = R at ha hfin ⊢
        subst ha
        rcases a with _ | ⟨a0, a⟩ <;>
        · (repeat' (first | apply W_seq | refine W_false rfl rfl ?_ | (refine W_ops (id := 5) rfl ?_ <;> (refine T_go rfl ?_; refine G_false rfl (by with_reducible assumption) ?_) <;> apply T_nil) | refine W_region (id := 9) rfl rfl ?_ | refine W_region (id := 10) rfl rfl ?_ | apply W_ret | apply W_exit))
          exact ⟨.inl rfl, hfin⟩
/- Copies of statements, in prog; prog.All; targets. -/
theorem copiedPs_run : ∀ (k : Nat) (l : List Ex'), exsK l + 1 ≤ k → exsK l ≤ 1000000 → ∀ (h : Heap) (lo : Nat), call Tryz.prog cfg k lo (.func 115) [.vs 4 (exsC l)] h = some (.vs 4 (exsC l), h)
  | 0, l, hk, _, _, _ => by have := exsK_pos l; omega
  | k + 1, l, hk, hK, h, lo => by
    have hlen := exsK_len l
    have hfin := acc_fin0 (h := h) (e := 31) (sz := 4) (by decide) (exsC l) (exsC_row l)
    apply W_call Tryz.func115 rfl (Nat.le_of_ble_eq_true rfl) rfl rfl
    (repeat' (first | apply W_seq | refine W_region (id := 0) rfl rfl ?_ | refine W_region (id := 1) rfl rfl ?_ | refine W_region (id := 2) rfl rfl ?_ | apply W_block))
    apply W_iterI (S := ceS h l) (l := l) (a0 := []) (fun i rest a => a ++ rest = l ∧ a.length = i) (by omega) (by omega) rfl ⟨rfl, rfl⟩
    · intro i e rest a hi hd hil hJ
      have hrow := exsC_get _ _ _ hi
      have hlt := lt_exs hil
      have hap := ex_append h a e (by omega)
      have hm := exsK_mem1 l i _ hi
      obtain ⟨op, n, c, es⟩ := e
      rw [exK] at hm
      have ih := copiedPs_run k es (by omega) (by omega) (accH h 31 (exsC a)) h.length
      (repeat' (first | apply W_seq | refine W_true rfl rfl ?_ | (refine W_ops (id := 3) rfl ?_ <;> (refine T_go rfl ?_; refine G_true rfl (by with_reducible assumption) ?_) <;> apply T_nil) | (refine W_ops (id := 4) rfl ?_ <;> (refine T_go rfl ?_; refine G_op (O_index rfl rfl rfl rfl rfl ‹_›) ?_) <;> (refine T_go rfl ?_; refine G_op rfl ?_) <;> refine T_ch 2 rfl ?_ <;> apply T_nil) | (refine W_ops (id := 5) rfl ?_ <;> refine T_ch 2 rfl ?_ <;> (refine T_go rfl ?_; refine G_op (O_call rfl rfl rfl rfl ‹_›) ?_) <;> refine T_ch 2 rfl ?_ <;> apply T_nil) | (refine W_ops (id := 6) rfl ?_ <;> refine T_ch 3 rfl ?_ <;> (refine T_go rfl ?_; refine G_op (O_append rfl rfl rfl rfl rfl ‹_›) ?_) <;> refine T_ch 1 rfl ?_ <;> apply T_nil) | refine W_region (id := 7) rfl rfl ?_ | apply W_skip | apply W_block))
      exact ⟨a ++ [.mk op n c es], rfl, by rw [← hJ.1]; simp, by simp [hJ.2]⟩
    · intro a hJ
      have hlt := ge_exs (l := l)
      (repeat' (first | apply W_seq | refine W_false rfl rfl ?_ | (refine W_ops (id := 3) rfl ?_ <;> (refine T_go rfl ?_; refine G_false rfl (by with_reducible assumption) ?_) <;> apply T_nil) | refine W_region (id := 8) rfl rfl ?_ | apply W_ret | apply W_exit))
      have : a = l := by simpa using hJ.1
      subst this
      exact ⟨.inl rfl, hfin⟩
theorem sm_appendL (h : Heap) (lo : Nat) (hlo : lo ≤ h.length) (l : List Sm') (s : Sm') (hl : l.length < 1000000) : append cfg.tab lo (accH h 64 (smsC l)) 23 (accA h 5 (smsC l)) (.vs 5 [smC s]) = some (accA h 5 (smsC (l ++ [s])), accH h 64 (smsC (l ++ [s]))) := by
  have := acc_append (tab := cfg.tab) (lo := lo) (h := h) (t := 23) (e := 64) rfl rfl (by decide) hlo (smsC l) [smC s] (fun r hr => (smsC_row l r hr).1) (by rw [smsC_len]; simp only [List.length_cons, List.length_nil, room]; show (l.length + (0 + 1)) * 88 ≤ _; omega) (by rw [smsC_len]; simp [room]; omega)
  rw [this]
  simp [smsC_mp]
theorem acc_frzG {h h0 H : Heap} {e sz : Nat} (rows : List (List AV)) (hr : ∀ r, r ∈ rows → r.length = sz ∧ ∀ x, x ∈ r → static x = true) (hlo : h0.length ≤ h.length) (hH : rows ≠ [] → H[h.length]? = some (.cells e rows.flatten)) : frz1 H h0.length (accA h sz rows) = some (accV sz rows) := by
  cases rows with
  | nil => rfl
  | cons r l => exact frz_rows (T := e) (r :: l) hr (hH (by simp)) hlo
theorem scopy_fin (h : Heap) (op n : Int) (a : List Ex') (t e : List Sm') : handF (some ⟨0, [0, 0, 4, 5, 5]⟩) true h (.agg [.int .i64 op, .int .i64 n, .vs 4 (exsC a), accA h 5 (smsC t), accA (accH h 64 (smsC t)) 5 (smsC e)]) (accH (accH h 64 (smsC t)) 64 (smsC e)) = some (.agg (smC (.mk op n a t e)), h) := by
  generalize hH : accH (accH h 64 (smsC t)) 64 (smsC e) = H
  have h1 : frz1 H h.length (accA h 5 (smsC t)) = some (accV 5 (smsC t)) := by
    refine acc_frzG (e := 64) (smsC t) (smsC_row t) (Nat.le_refl _) (fun hne => ?_)
    rw [← hH]
    cases t with
    | nil => exact absurd rfl hne
    | cons x t =>
      cases e with
      | nil => simp [smsC, accH]
      | cons y e => simp [smsC, accH]
  have h2 : frz1 H h.length (accA (accH h 64 (smsC t)) 5 (smsC e)) = some (accV 5 (smsC e)) := by
    refine acc_frzG (e := 64) (smsC e) (smsC_row e) (by cases t <;> simp [smsC, accH]) (fun hne => ?_)
    rw [← hH]
    cases e with
    | nil => exact absurd rfl hne
    | cons y e => simp [smsC, accH]
  have hi : ∀ (z : Int), frz1 H h.length (.int .i64 z) = some (.int .i64 z) := fun _ => rfl
  have hv : frz1 H h.length (.vs 4 (exsC a)) = some (.vs 4 (exsC a)) := rfl
  have h3 : frz H h.length (.agg [.int .i64 op, .int .i64 n, .vs 4 (exsC a), accA h 5 (smsC t), accA (accH h 64 (smsC t)) 5 (smsC e)]) = some (.agg [.int .i64 op, .int .i64 n, .vs 4 (exsC a), accV 5 (smsC t), accV 5 (smsC e)]) := by
    simp only [frz, frz2, frzL, hi, hv, h1, h2]
  have z5 : ∀ rows : List (List AV), nilz 5 (accV 5 rows) = .vs 5 rows := fun rows => by cases rows <;> simp [accV, nilz]
  have z4 : nilz 4 (.vs 4 (exsC a)) = .vs 4 (exsC a) := rfl
  unfold handF hand
  simp only [if_true, h3, nzA, nilzL, z5, z4, smC]
  rfl
def cdS (h : Heap) (s : Sm') (l : List Sm') (i : Int) (a : List Sm') : St :=
  { env := [(1, .p 1 0), (2, .p 2 0), (3, .v (accA h 5 (smsC a))), (4, .v .nils), (14, .v (.vs 5 (smsC l))), (15, .v (.int .i64 (smsC l).length)), (16, .v (.int .i64 i))], loc := [(1, smC s), (2, [.int .i64 0, .int .i64 0, .nils, .nils, .nils])], heap := accH h 64 (smsC a), inRound := false, lo := h.length }
def ceeS (h0 h : Heap) (v : AV) (s : Sm') (l : List Sm') (i : Int) (a : List Sm') : St :=
  { env := [(1, .p 1 0), (2, .p 2 0), (3, .v v), (4, .v (accA h 5 (smsC a))), (27, .v (.vs 5 (smsC l))), (28, .v (.int .i64 (smsC l).length)), (29, .v (.int .i64 i))], loc := [(1, smC s), (2, [.int .i64 0, .int .i64 0, .nils, .nils, .nils])], heap := accH h 64 (smsC a), inRound := false, lo := h0.length }
theorem copiedP_run : ∀ (k : Nat) (s : Sm'), smK s + 1 ≤ k → smK s ≤ 100000 → ∀ (h : Heap) (lo : Nat), call Tryz.prog cfg k lo (.func 75) [.agg (smC s)] h = some (.agg (smC s), h)
  | 0, s, hk, _, _, _ => by omega
  | k + 1, .mk op n a t e, hk, hK, h, lo => by
    rw [smK] at hk hK
    have hlt' := smsK_len t
    have hle' := smsK_len e
    have hp1 := exsK_pos a
    have hC := copiedPs_run k a (by omega) (by omega) h h.length
    have hfin := scopy_fin h op n a t e
    apply W_call Tryz.func75 rfl (Nat.le_of_ble_eq_true rfl) rfl rfl
    (repeat' (first | apply W_seq | refine W_region (id := 0) rfl rfl ?_ | (refine W_ops (id := 1) rfl ?_ <;> refine T_ch 2 rfl ?_ <;> (refine T_go rfl ?_; refine G_op (O_call rfl rfl rfl rfl ‹_›) ?_) <;> refine T_ch 2 rfl ?_ <;> apply T_nil) | refine W_region (id := 2) rfl rfl ?_ | refine W_region (id := 3) rfl rfl ?_ | apply W_block))
    apply W_iterI (S := cdS h (.mk op n a t e) t) (l := t) (a0 := []) (fun i rest b => b ++ rest = t ∧ b.length = i) (by omega) (by omega) rfl ⟨rfl, rfl⟩
    · intro i s rest b hi hd hil hJ
      have hrow := smsC_get _ _ _ hi
      have hlt := lt_sms hil
      have hap := sm_appendL h h.length (Nat.le_refl _) b s (by omega)
      have hm := smsK_mem2 t i _ hi
      have ih := copiedP_run k s (by omega) (by omega) (accH h 64 (smsC b)) h.length
      obtain ⟨op', n', a', t', e'⟩ := s
      (repeat' (first | apply W_seq | refine W_true rfl rfl ?_ | (refine W_ops (id := 4) rfl ?_ <;> (refine T_go rfl ?_; refine G_true rfl (by with_reducible assumption) ?_) <;> apply T_nil) | (refine W_ops (id := 5) rfl ?_ <;> (refine T_go rfl ?_; refine G_op (O_index rfl rfl rfl rfl rfl ‹_›) ?_) <;> (refine T_go rfl ?_; refine G_op rfl ?_) <;> refine T_ch 2 rfl ?_ <;> apply T_nil) | (refine W_ops (id := 6) rfl ?_ <;> refine T_ch 2 rfl ?_ <;> (refine T_go rfl ?_; refine G_op (O_call rfl rfl rfl rfl ‹_›) ?_) <;> refine T_ch 1 rfl ?_ <;> (refine T_go rfl ?_; refine G_op (O_append rfl rfl rfl rfl rfl ‹_›) ?_) <;> refine T_ch 1 rfl ?_ <;> apply T_nil) | refine W_region (id := 7) rfl rfl ?_ | apply W_skip | apply W_block))
      exact ⟨b ++ [.mk op' n' a' t' e'], rfl, by rw [← hJ.1]; simp, by simp [hJ.2]⟩
    · intro b hJ
      have hlt := ge_sms (l := t)
      have : b = t := by simpa using hJ.1
      subst this
      (repeat' (first | apply W_seq | refine W_false rfl rfl ?_ | (refine W_ops (id := 4) rfl ?_ <;> (refine T_go rfl ?_; refine G_false rfl (by with_reducible assumption) ?_) <;> apply T_nil) | refine W_region (id := 8) rfl rfl ?_ | apply W_block | apply W_exit))
      have hlo1 : h.length ≤ (accH h 64 (smsC b)).length := by cases b <;> simp [smsC, accH]
      apply W_iterI (S := ceeS h (accH h 64 (smsC b)) (accA h 5 (smsC b)) (.mk op n a b e) e) (l := e) (a0 := []) (fun i rest c => c ++ rest = e ∧ c.length = i) (by omega) (by omega) rfl ⟨rfl, rfl⟩
      · intro i s rest c hi hd hil hJ2
        have hrow := smsC_get _ _ _ hi
        have hlt := lt_sms hil
        have hap := sm_appendL (accH h 64 (smsC b)) h.length hlo1 c s (by omega)
        have hm := smsK_mem2 e i _ hi
        have ih := copiedP_run k s (by omega) (by omega) (accH (accH h 64 (smsC b)) 64 (smsC c)) h.length
        obtain ⟨op', n', a', t', e'⟩ := s
        (repeat' (first | apply W_seq | refine W_true rfl rfl ?_ | (refine W_ops (id := 9) rfl ?_ <;> (refine T_go rfl ?_; refine G_true rfl (by with_reducible assumption) ?_) <;> apply T_nil) | (refine W_ops (id := 10) rfl ?_ <;> (refine T_go rfl ?_; refine G_op (O_index rfl rfl rfl rfl rfl ‹_›) ?_) <;> (refine T_go rfl ?_; refine G_op rfl ?_) <;> refine T_ch 2 rfl ?_ <;> apply T_nil) | (refine W_ops (id := 11) rfl ?_ <;> refine T_ch 2 rfl ?_ <;> (refine T_go rfl ?_; refine G_op (O_call rfl rfl rfl rfl ‹_›) ?_) <;> refine T_ch 1 rfl ?_ <;> (refine T_go rfl ?_; refine G_op (O_append rfl rfl rfl rfl rfl ‹_›) ?_) <;> refine T_ch 1 rfl ?_ <;> apply T_nil) | refine W_region (id := 12) rfl rfl ?_ | apply W_skip | apply W_block))
        exact ⟨c ++ [.mk op' n' a' t' e'], rfl, by rw [← hJ2.1]; simp, by simp [hJ2.2]⟩
      · intro c hJ2
        have hlt := ge_sms (l := e)
        have : c = e := by simpa using hJ2.1
        subst this
        cases b <;> cases c <;>
        · (repeat' (first | apply W_seq | refine W_false rfl rfl ?_ | (refine W_ops (id := 9) rfl ?_ <;> (refine T_go rfl ?_; first | refine G_false rfl rfl ?_ | refine G_false rfl (by with_reducible assumption) ?_) <;> apply T_nil) | refine W_region (id := 13) rfl rfl ?_ | refine W_region (id := 14) rfl rfl ?_ | apply W_ret | apply W_exit))
          exact ⟨.inl rfl, hfin⟩
/- prog.All; targets. -/
/-! ### Maps of numbers -/
def mapC (l : List (Int × Int)) : List (AV × AV) := l.map fun x => (.int .i64 x.1, .int .i64 x.2)
def putI : List (Int × Int) → Int → Int → List (Int × Int)
  | [], n, v => [(n, v)]
  | (a, b) :: l, n, v => if n = a then (n, v) :: l else (a, b) :: putI l n v
theorem mapPut_I (n v : Int) : ∀ l : List (Int × Int), mapPut (.int .i64) (mapC l) (.int .i64 n) (.int .i64 v) = some (mapC (putI l n v))
  | [] => rfl
  | (a, b) :: l => by
    have ih := mapPut_I n v l
    simp only [mapC] at ih
    simp only [mapC, List.map_cons, mapPut, keyEq, putI]
    by_cases h : n = a
    · subst h; simp
    · have hb : (n == a) = false := by simpa using h
      simp [h, hb, ih]
section
variable {C : Cfg} {K : Ev.Callee} {f : Nat} {s : St} {o : Oper}
theorem O_putI {t kt e id sz by_ : Nat} {zr : List AV} {m k v : Operand} {n z : Int} {l : List (Int × Int)} (ho : o.op = .mapUpdate t m k v) (ht : Go.Ev.look C.tab t = some ⟨.map kt e, sz, by_, zr⟩) (hk : ∃ a b c, Go.Ev.look C.tab kt = some ⟨.int .i64, a, b, c⟩)
    (hm : s.val m = some (.mp id)) (hx : s.val k = some (.int .i64 n)) (hv : s.val v = some (.int .i64 z)) (hH : s.heap[id]? = some (.map (mapC l))) (hlo : s.lo ≤ id) :
    oper C K f o s = some (({ s with heap := s.heap.set id (.map (mapC (putI l n z))) } : St).putv o.dst (.tup [])) := by
  obtain ⟨a, b, c, hk⟩ := hk
  unfold oper
  rw [ho]
  dsimp only
  rw [hm, hx, hv, ht]
  dsimp only
  rw [hH]
  simp only [keyKind, hk, if_pos hlo, mapPut_I, Option.map_some]
end
def yU {σ : Type} (upd : σ → Int → Sm' → σ) (x : σ) (n : Int) (s : Sm') : Bool × σ := (true, upd x n s)
/-- What All leaves behind in the heap. -/
def tlA (L0 : Nat) (p : Pr') (n : Int) : Heap := [.cells 176 [.fn (.yield L0) []]] ++ [.cells 25 (prC p)] ++ [.dead] ++ [.cells 3 [.int .i64 n]]
abbrev PO (p : Pr') : HObj := .cells 25 (prC p)
theorem each1_all {σ : Type} (upd : σ → Int → Sm' → σ) (HT : σ → Heap) (L lo kY : Nat) (hL : ∀ x, (HT x).length = L) (hlo : lo ≤ L) (C1 : HObj) (rc : LoopA) (p : Pr') (hb : prB p) (x0 : σ) (N : Nat)
    (kM : Nat) (hY : ∀ (k : Nat) (s : Sm') (x : σ) (n m : Int), smK s + kY ≤ k → k ≤ kM → smB s → call Tryz.prog cfg k lo (.yield N) [.int .i64 n, .agg (smC s)] (HT x ++ [C1] ++ [PO p] ++ [.loop rc] ++ [.cells 3 [.int .i64 m]]) = some (.bool true, HT (upd x n s) ++ [C1] ++ [PO p] ++ [.loop rc] ++ [.cells 3 [.int .i64 m]]))
    (k : Nat) (hk : smsK p.body + kY + 3 ≤ k) (hkM : k ≤ kM + 1) :
    call Tryz.prog cfg k lo (.func 113) [.fn (.yield N) [], .hp (HT x0 ++ [C1]).length 3 0] (HT x0 ++ [C1] ++ [PO p] ++ [.loop rc]) = some (.tup [], HT (walkL (yU upd) p.body x0 0).2.1 ++ [C1] ++ [PO p] ++ [.loop rc] ++ [.cells 3 [.int .i64 (walkL (yU upd) p.body x0 0).2.2]]) := by
  have := each1_runM (yU upd) (fun _ => True) (fun _ _ _ _ _ => trivial) (fun x => HT x ++ [C1] ++ [PO p] ++ [HObj.loop rc]) (L + 3) lo (fun x => by simp [hL]) (by omega) (.yield N) kY kM p hb (HT x0 ++ [C1]).length x0 trivial
    (by simp) (fun k s x n m h1 h2 h3 _ => hY k s x n m h1 h2 h3) (k - 1) (by omega) (by omega)
  rw [show k - 1 + 1 = k by omega] at this
  exact this
set_option maxHeartbeats 1000000 in
theorem All1_run {σ : Type} (upd : σ → Int → Sm' → σ) (HT : σ → Heap) (L lo kY : Nat) (hL : ∀ x, (HT x).length = L) (hlo : lo ≤ L) (L0 idp : Nat) (p : Pr') (hb : prB p) (hok : okP p = true) (hK : smsK p.body ≤ 90000) (hp : ∀ x, (HT x)[idp]? = some (.cells 25 (prC p)))
    (hY : ∀ (k : Nat) (s : Sm') (x : σ) (n : Int) (tail : Heap), smK s + kY ≤ k → smB s → call Tryz.prog cfg k lo (.yield L0) [.int .i64 n, .agg (smC s)] (HT x ++ tail) = some (.bool true, HT (upd x n s) ++ tail))
    (k : Nat) (hk : smsK p.body + kY + 200 ≤ k) (hkM : k ≤ 90000) (x0 : σ) :
    call Tryz.prog cfg (k + 1) lo (.func 116) [.fn (.yield L0) [], .hp idp 3 0] (HT x0) = some (.tup [], HT (walkL (yU upd) p.body x0 0).2.1 ++ tlA L0 p (walkL (yU upd) p.body x0 0).2.2) := by
  have hC := checkP_run p (k - 1) (by omega) hb (HT x0 ++ [.cells 176 [.fn (.yield L0) []]]) lo
  rw [show k - 1 + 1 = k by omega, hok] at hC
  have hE := each_run p (k - 1) lo (HT x0 ++ [.cells 176 [.fn (.yield L0) []]])
  rw [show k - 1 + 1 = k by omega] at hE
  have hlp : idp < L := by have := cells_lt (hp x0); rw [hL] at this; exact this
  have hp0 : (HT x0 ++ [HObj.cells 176 [.fn (.yield L0) []]])[idp]? = some (.cells 25 (prC p)) := by
    rw [List.getElem?_append_left (by rw [hL]; exact hlp)]; exact hp x0
  generalize hC1 : HObj.cells 176 [.fn (.yield L0) []] = C1 at *
  have hlen : ∀ x, (HT x0 ++ [C1] ++ [PO p]).length = (HT x ++ [C1] ++ [PO p]).length := fun x => by simp [hL]
  have hset : ∀ (x : σ) (A c Y : HObj), (HT x ++ [C1] ++ [PO p] ++ [A] ++ [c]).set (HT x0 ++ [C1] ++ [PO p]).length Y = HT x ++ [C1] ++ [PO p] ++ [Y] ++ [c] := fun x A c Y => by
    rw [hlen x]; simp [List.set_append]
  have hgetN : ∀ (x : σ) (A c : HObj), (HT x ++ [C1] ++ [PO p] ++ [A] ++ [c])[(HT x0 ++ [C1] ++ [PO p]).length]? = some A := fun x A c => by
    rw [hlen x]; simp
  have hC1g : ∀ (x : σ) (A c : HObj), (HT x ++ [C1] ++ [PO p] ++ [A] ++ [c])[(HT x0).length]? = some C1 := fun x A c => by
    rw [hL x0, ← hL x]; simp
  have hlo2 : lo ≤ (HT x0 ++ [C1] ++ [PO p]).length := by simp [hL]; omega
  have hassoc : ∀ (x : σ) (A c : HObj), HT x ++ [C1] ++ [PO p] ++ [A] ++ [c] = HT x ++ ([C1] ++ [PO p] ++ [A] ++ [c]) := fun x A c => by simp
  subst hC1
  obtain ⟨w, vs, body⟩ := p
  apply W_call Tryz.func116 rfl (Nat.le_of_ble_eq_true rfl) rfl rfl
  (repeat' (first | apply W_seq | refine W_false rfl rfl ?_ | refine W_region (id := 0) rfl rfl ?_ | (refine W_ops (id := 1) rfl ?_ <;> (refine T_go rfl ?_; refine G_op (O_loadH rfl rfl rfl ‹_› rfl rfl) ?_) <;> (refine T_go rfl ?_; refine G_op (O_call rfl rfl rfl rfl ‹_›) ?_) <;> (refine T_go rfl ?_; refine G_false rfl rfl ?_) <;> apply T_nil) | (refine W_ops (id := 2) rfl ?_ <;> (refine T_go rfl ?_; refine G_op (O_loadH rfl rfl rfl ‹_› rfl rfl) ?_) <;> (refine T_go rfl ?_; refine G_op (O_call rfl rfl rfl rfl ‹_›) ?_) <;> apply T_nil) | apply W_skip | apply W_block))
  apply W_range
  case hg => rfl
  case hr => rfl
  case hlo => exact hlo2
  case hK =>
    refine each1_all upd HT L lo (kY + 100) hL hlo _ _ ⟨w, vs, body⟩ hb x0 _ 90000 ?_ k (by dsimp only at hk ⊢; omega) (by omega)
    intro k s x n m hks hkM hbs
    cases k with
    | zero => omega
    | succ k =>
    obtain ⟨op, nn, a, t, e⟩ := s
    refine W_yield (hgetN _ _ _) hlo2 rfl rfl ?_
    (repeat' (first | apply W_seq | refine W_region (id := 3) rfl rfl ?_ | refine W_region (id := 4) rfl rfl ?_))
    refine ⟨_, hgetN _ _ _, rfl, ?_⟩
    generalize hHx : List.set _ _ _ = Hx
    have hH2 := hHx.symm.trans (hset x _ _ _)
    have hg1 : Hx[(HT x0).length]? = some (.cells 176 [.fn (.yield L0) []]) := by rw [hH2]; exact hC1g x _ _
    have hcp := copiedP_run k (.mk op nn a t e) (by omega) (by omega) Hx Hx.length
    have hy := (congrArg (fun H : Heap => call Tryz.prog cfg k lo (.yield L0) [.int .i64 n, .agg (smC (.mk op nn a t e))] H) (hH2.trans (hassoc x _ _))).trans ((hY k (.mk op nn a t e) x n _ (by omega) hbs).trans (congrArg (fun H : Heap => some (AV.bool true, H)) (hassoc (upd x n (.mk op nn a t e)) _ _).symm))
    dsimp only at hy
    clear hHx hH2
    (repeat' (first | apply W_seq | refine W_false rfl rfl ?_ | (refine W_dops (id := 5) (bs := [0, 0, 0, 4, 15, 31]) rfl (by decide +kernel) (by decide +kernel) ?_ <;> (refine U_go rfl ?_; refine H_free (by decide +kernel) rfl (O_loadH rfl rfl rfl ‹_› rfl rfl) rfl rfl rfl ?_) <;> (refine U_go rfl ?_; refine H_free (by decide +kernel) rfl rfl rfl rfl rfl ?_) <;> (refine U_go rfl ?_; refine H_free (by decide +kernel) rfl rfl rfl rfl rfl ?_) <;> (refine U_go rfl ?_; refine H_free (by decide +kernel) rfl (O_call rfl rfl rfl rfl ‹_›) rfl rfl rfl ?_) <;> (refine U_go rfl ?_; refine H_true (by decide +kernel) (O_call rfl rfl rfl rfl ‹_›) rfl ?_) <;> (refine U_go rfl ?_; refine H_op (by decide +kernel) rfl ?_) <;> apply U_nil) | apply W_skip | apply W_block))
    exact ⟨_, hgetN (upd x n (.mk op nn a t e)) _ _, congrArg (fun H : Heap => (AV.bool true, H)) (hset (upd x n (.mk op nn a t e)) _ _ _).symm⟩
  case hl => exact hgetN _ _ _
  case hst => show (0 : Nat) ≠ 1; simp
  case k =>
    have hfin : HT (walkL (yU upd) body x0 0).2.1 ++ [HObj.cells 176 [.fn (.yield L0) []]] ++ [PO ⟨w, vs, body⟩] ++ [HObj.dead] ++ [HObj.cells 3 [.int .i64 (walkL (yU upd) body x0 0).2.2]] = HT (walkL (yU upd) body x0 0).2.1 ++ tlA L0 ⟨w, vs, body⟩ (walkL (yU upd) body x0 0).2.2 := by simp [tlA]
    dsimp only
    exact ⟨.inr rfl, (congrArg (fun H : Heap => some (AV.tup [], H)) (hset (walkL (yU upd) body x0 0).2.1 _ _ HObj.dead)).trans (congrArg (fun H : Heap => some (AV.tup [], H)) hfin)⟩
/-! ### targets -/
def updT (x : List (Int × Int)) (n : Int) : Sm' → List (Int × Int)
  | .mk op nn _ _ _ => if op = 0 ∨ op = 4 then putI x n nn else x
theorem updT_put {x : List (Int × Int)} {n op nn : Int} {a : List Ex'} {t e : List Sm'} (h : op = 0 ∨ op = 4) : updT x n (.mk op nn a t e) = putI x n nn := by unfold updT; dsimp only; rw [if_pos h]
theorem updT_not {x : List (Int × Int)} {n op nn : Int} {a : List Ex'} {t e : List Sm'} (h : ¬ (op = 0 ∨ op = 4)) : updT x n (.mk op nn a t e) = x := by unfold updT; dsimp only; rw [if_neg h]
def tgt (p : Pr') : List (Int × Int) := (walkL (yU updT) p.body [] 0).2.1
theorem All_run (p : Pr') (k lo : Nat) (h : Heap) : call Tryz.prog cfg (k + 1) lo (.func 76) [.agg (prC p)] h = some (.fn (.func 116) [.hp h.length 3 0], h ++ [.cells 25 (prC p)]) := by
  obtain ⟨w, vs, body⟩ := p
  apply W_call Tryz.func76 rfl (Nat.le_of_ble_eq_true rfl) rfl rfl
  (repeat' (first | apply W_seq | refine W_region (id := 0) rfl rfl ?_ | refine W_region (id := 1) rfl rfl ?_ | apply W_ret))
  exact ⟨.inl rfl, rfl⟩
abbrev MO (h : Heap) : HObj := .cells 77 [.mp h.length]
abbrev X5 (h : Heap) (p : Pr') (M A : HObj) (tail : Heap) : Heap := h ++ [M] ++ [MO h] ++ [PO p] ++ [A] ++ tail
theorem targets_loop (h : Heap) (lo : Nat) (hlo : lo ≤ h.length) (rc : LoopA) (p : Pr') (hb : prB p) (hok : okP p = true) (hK : smsK p.body ≤ 80000) (k : Nat) (hk : smsK p.body + 400 ≤ k) (hkM : k ≤ 90000) (HA : Heap) (hHA : HA = h ++ [.map (mapC [])] ++ [MO h])
    (hY : ∀ (k : Nat) (s : Sm') (x : List (Int × Int)) (n : Int) (tail : Heap), smK s + 100 ≤ k → smB s → call Tryz.prog cfg k lo (.yield (HA ++ [PO p]).length) [.int .i64 n, .agg (smC s)] (X5 h p (.map (mapC x)) (.loop rc) tail) = some (.bool true, X5 h p (.map (mapC (updT x n s))) (.loop rc) tail)) :
    call Tryz.prog cfg k lo (.func 116) [.fn (.yield (HA ++ [PO p]).length) [], .hp HA.length 3 0] (HA ++ [PO p] ++ [.loop rc]) =
      some (.tup [], X5 h p (.map (mapC (tgt p))) (.loop rc) (tlA (HA ++ [PO p]).length p (walkL (yU updT) p.body [] 0).2.2)) := by
  subst hHA
  have := All1_run updT (fun x => h ++ [HObj.map (mapC x)] ++ [MO h] ++ [PO p] ++ [HObj.loop rc]) (h.length + 4) lo 100 (fun x => by simp) (by omega) (h ++ [HObj.map (mapC [])] ++ [MO h] ++ [PO p]).length (h ++ [HObj.map (mapC [])] ++ [MO h]).length p hb hok (by omega) (fun x => by simp) hY (k - 1) (by omega) (by omega) []
  rw [show k - 1 + 1 = k by omega] at this
  exact this
set_option maxHeartbeats 1000000 in
theorem targets_run (p : Pr') (hb : prB p) (hok : okP p = true) (hK : smsK p.body ≤ 80000) (k : Nat) (hk : smsK p.body + 400 ≤ k) (hkM : k ≤ 90000) (h : Heap) (lo : Nat) (hlo : lo ≤ h.length) :
    ∃ tail : Heap, call Tryz.prog cfg (k + 1) lo (.func 31) [.agg (prC p)] h = some (.mp h.length, h ++ [.map (mapC (tgt p))] ++ tail) := by
  refine ⟨[MO h] ++ [PO p] ++ [.dead] ++ tlA ((h ++ [HObj.map []] ++ [HObj.cells 77 [.nilm]]).set (h ++ [HObj.map []]).length (MO h) ++ [PO p]).length p (walkL (yU updT) p.body [] 0).2.2, ?_⟩
  have g1 : (h ++ [HObj.map []] ++ [HObj.cells 77 [.nilm]])[(h ++ [HObj.map []]).length]? = some (.cells 77 [.nilm]) := by simp
  have hlo1 : lo ≤ (h ++ [HObj.map []]).length := by simp; omega
  have hAll := All_run p (k - 1) lo ((h ++ [HObj.map []] ++ [HObj.cells 77 [.nilm]]).set (h ++ [HObj.map []]).length (MO h))
  rw [show k - 1 + 1 = k by omega] at hAll
  have hHA : (h ++ [HObj.map []] ++ [HObj.cells 77 [.nilm]]).set (h ++ [HObj.map []]).length (MO h) = h ++ [.map (mapC [])] ++ [MO h] := by simp [List.set_append, mapC]
  have hN : ((h ++ [HObj.map []] ++ [HObj.cells 77 [.nilm]]).set (h ++ [HObj.map []]).length (MO h) ++ [PO p]).length = h.length + 3 := by rw [hHA]; simp
  have hgetL : ∀ (M A : HObj) (tail : Heap), (X5 h p M A tail)[((h ++ [HObj.map []] ++ [HObj.cells 77 [.nilm]]).set (h ++ [HObj.map []]).length (MO h) ++ [PO p]).length]? = some A := fun M A tail => by rw [hN]; simp [X5]
  have hsetL : ∀ (M A Y : HObj) (tail : Heap), (X5 h p M A tail).set ((h ++ [HObj.map []] ++ [HObj.cells 77 [.nilm]]).set (h ++ [HObj.map []]).length (MO h) ++ [PO p]).length Y = X5 h p M Y tail := fun M A Y tail => by rw [hN]; simp [X5, List.set_append]
  have hsetM : ∀ (M A Z : HObj) (tail : Heap), (X5 h p M A tail).set h.length Z = X5 h p Z A tail := fun M A Z tail => by simp [X5, List.set_append]
  have hgetM : ∀ (M A : HObj) (tail : Heap), (X5 h p M A tail)[h.length]? = some M := fun M A tail => by simp [X5]
  have hgetC : ∀ (M A : HObj) (tail : Heap), (X5 h p M A tail)[(h ++ [HObj.map []]).length]? = some (MO h) := fun M A tail => by simp [X5]
  have hlo2 : lo ≤ ((h ++ [HObj.map []] ++ [HObj.cells 77 [.nilm]]).set (h ++ [HObj.map []]).length (MO h) ++ [PO p]).length := by rw [hN]; omega
  clear hN
  obtain ⟨w, vs, body⟩ := p
  apply W_call Tryz.func31 rfl (Nat.le_of_ble_eq_true rfl) rfl rfl
  (repeat' (first | apply W_seq | refine W_region (id := 0) rfl rfl ?_ | (refine W_ops (id := 1) rfl ?_ <;> refine T_ch 2 rfl ?_ <;> (refine T_go rfl ?_; refine G_op (O_storeH rfl rfl rfl rfl ‹_› ⟨by assumption, rfl, rfl, Nat.le_of_ble_eq_true rfl⟩) ?_) <;> apply T_nil) | (refine W_ops (id := 2) rfl ?_ <;> refine T_ch 1 rfl ?_ <;> (refine T_go rfl ?_; refine G_op (O_call rfl rfl rfl rfl ‹_›) ?_) <;> apply T_nil) | apply W_block))
  apply W_range
  case hg => rfl
  case hr => rfl
  case hlo => exact hlo2
  case hK =>
    refine targets_loop h lo hlo _ ⟨w, vs, body⟩ hb hok hK k hk hkM _ hHA ?_
    intro k s x n tail hks hbs
    cases k with
    | zero => omega
    | succ k =>
    obtain ⟨op, nn, a, t, e⟩ := s
    by_cases o0 : op = 0
    · have c0 : (op == 0) = true := by simp [o0]
      rw [updT_put (.inl o0)]
      refine W_yield (hgetL _ _ _) hlo2 rfl rfl ?_
      (repeat' (first | apply W_seq | refine W_region (id := 3) rfl rfl ?_ | refine W_region (id := 4) rfl rfl ?_))
      refine ⟨_, hgetL _ _ _, rfl, ?_⟩
      generalize hHx : List.set _ _ (HObj.loop _) = Hx
      have hH2 := hHx.symm.trans (hsetL (.map (mapC x)) _ _ tail)
      have hg1 : Hx[(h ++ [HObj.map []]).length]? = some (MO h) := by rw [hH2]; exact hgetC _ _ _
      have hg2 : Hx[h.length]? = some (.map (mapC x)) := by rw [hH2]; exact hgetM _ _ _
      have hH3 := fun Z : HObj => (congrArg (fun H : Heap => List.set H h.length Z) hH2).trans (hsetM _ _ Z tail)
      dsimp only at hH3
      clear hHx
      (repeat' (first | apply W_seq | refine W_true rfl rfl ?_ | (refine W_ops (id := 5) rfl ?_ <;> refine T_ch 2 rfl ?_ <;> (refine T_go rfl ?_; refine G_true rfl (by with_reducible assumption) ?_) <;> refine T_ch 3 rfl ?_ <;> refine T_skip rfl ?_ <;> refine T_ch 1 rfl ?_ <;> apply T_nil) | (refine W_ops (id := 6) rfl ?_ <;> (refine T_go rfl ?_; refine G_op (O_loadH rfl rfl rfl ‹_› rfl rfl) ?_) <;> refine T_ch 3 rfl ?_ <;> (refine T_go rfl ?_; refine G_op (O_putI rfl rfl ⟨_, _, _, rfl⟩ rfl rfl rfl ‹_› ‹_›) ?_) <;> apply T_nil) | apply W_block))
      exact ⟨_, (congrArg (fun H : Heap => H[_]?) (hH3 _)).trans (hgetL _ _ tail), (congrArg (fun H : Heap => (AV.bool true, H)) ((congrArg (fun H : Heap => List.set H _ _) (hH3 (.map (mapC (putI x n nn))))).trans (hsetL _ _ _ tail))).symm⟩
    by_cases o4 : op = 4
    · have c0 : (op == 0) = false := by simp [o0]
      have c4 : (op == 4) = true := by simp [o4]
      rw [updT_put (.inr o4)]
      refine W_yield (hgetL _ _ _) hlo2 rfl rfl ?_
      (repeat' (first | apply W_seq | refine W_region (id := 3) rfl rfl ?_ | refine W_region (id := 4) rfl rfl ?_))
      refine ⟨_, hgetL _ _ _, rfl, ?_⟩
      generalize hHx : List.set _ _ (HObj.loop _) = Hx
      have hH2 := hHx.symm.trans (hsetL (.map (mapC x)) _ _ tail)
      have hg1 : Hx[(h ++ [HObj.map []]).length]? = some (MO h) := by rw [hH2]; exact hgetC _ _ _
      have hg2 : Hx[h.length]? = some (.map (mapC x)) := by rw [hH2]; exact hgetM _ _ _
      have hH3 := fun Z : HObj => (congrArg (fun H : Heap => List.set H h.length Z) hH2).trans (hsetM _ _ Z tail)
      dsimp only at hH3
      clear hHx
      (repeat' (first | apply W_seq | refine W_true rfl rfl ?_ | (refine W_ops (id := 5) rfl ?_ <;> refine T_ch 2 rfl ?_ <;> (refine T_go rfl ?_; refine G_false rfl (by with_reducible assumption) ?_) <;> refine T_ch 3 rfl ?_ <;> (refine T_go rfl ?_; refine G_true rfl (by with_reducible assumption) ?_) <;> refine T_ch 1 rfl ?_ <;> apply T_nil) | (refine W_ops (id := 6) rfl ?_ <;> (refine T_go rfl ?_; refine G_op (O_loadH rfl rfl rfl ‹_› rfl rfl) ?_) <;> refine T_ch 3 rfl ?_ <;> (refine T_go rfl ?_; refine G_op (O_putI rfl rfl ⟨_, _, _, rfl⟩ rfl rfl rfl ‹_› ‹_›) ?_) <;> apply T_nil) | apply W_block))
      exact ⟨_, (congrArg (fun H : Heap => H[_]?) (hH3 _)).trans (hgetL _ _ tail), (congrArg (fun H : Heap => (AV.bool true, H)) ((congrArg (fun H : Heap => List.set H _ _) (hH3 (.map (mapC (putI x n nn))))).trans (hsetL _ _ _ tail))).symm⟩
    · have c0 : (op == 0) = false := by simp [o0]
      have c4 : (op == 4) = false := by simp [o4]
      rw [updT_not (by omega)]
      refine W_yield (hgetL _ _ _) hlo2 rfl rfl ?_
      (repeat' (first | apply W_seq | refine W_region (id := 3) rfl rfl ?_ | refine W_region (id := 4) rfl rfl ?_))
      refine ⟨_, hgetL _ _ _, rfl, ?_⟩
      generalize hHx : List.set _ _ (HObj.loop _) = Hx
      have hH2 := hHx.symm.trans (hsetL (.map (mapC x)) _ _ tail)
      have hg1 : Hx[(h ++ [HObj.map []]).length]? = some (MO h) := by rw [hH2]; exact hgetC _ _ _
      have hg2 : Hx[h.length]? = some (.map (mapC x)) := by rw [hH2]; exact hgetM _ _ _
      have hH3 := fun Z : HObj => (congrArg (fun H : Heap => List.set H h.length Z) hH2).trans (hsetM _ _ Z tail)
      dsimp only at hH3
      clear hHx
      (repeat' (first | apply W_seq | refine W_false rfl rfl ?_ | (refine W_ops (id := 5) rfl ?_ <;> refine T_ch 2 rfl ?_ <;> (refine T_go rfl ?_; refine G_false rfl (by with_reducible assumption) ?_) <;> refine T_ch 3 rfl ?_ <;> (refine T_go rfl ?_; refine G_false rfl (by with_reducible assumption) ?_) <;> refine T_ch 1 rfl ?_ <;> apply T_nil) | apply W_skip | apply W_block))
      exact ⟨_, (congrArg (fun H : Heap => H[_]?) hH2).trans (hgetL _ _ tail), (congrArg (fun H : Heap => (AV.bool true, H)) ((congrArg (fun H : Heap => List.set H _ _) hH2).trans (hsetL _ _ _ tail))).symm⟩
  case hl => exact hgetL _ _ _
  case hst => show (0 : Nat) ≠ 1; simp
  case k =>
    dsimp only
    generalize hHy : List.set _ _ HObj.dead = Hy
    have hH2 := hHy.symm.trans (hsetL _ _ _ _)
    have hg1 : Hy[(h ++ [HObj.map []]).length]? = some (MO h) := by rw [hH2]; exact hgetC _ _ _
    clear hHy
    have hfin : ∀ (M : HObj) (tl : Heap), X5 h ⟨w, vs, body⟩ M .dead tl = h ++ [M] ++ ([MO h] ++ [PO ⟨w, vs, body⟩] ++ [.dead] ++ tl) := fun M tl => by simp [X5]
    (repeat' (first | apply W_seq | (refine W_ops (id := 7) rfl ?_ <;> (refine T_go rfl ?_; refine G_op (O_loadH rfl rfl rfl ‹_› rfl rfl) ?_) <;> refine T_ch 1 rfl ?_ <;> apply T_nil) | apply W_ret))
    exact ⟨.inl rfl, congrArg (fun H : Heap => some (AV.mp h.length, H)) (hH2.trans (hfin _ _))⟩
/- Releases: what an expression reads of a set. -/
section
variable {C : Cfg} {K : Ev.Callee} {f : Nat} {s : St} {o : Oper}
theorem O_lookB {t kt e id sz by_ : Nat} {zr : List AV} {m k : Operand} {n : Int} {l : List Int} {b : Bool} (ho : o.op = .lookup t m k false) (ht : Go.Ev.look C.tab t = some ⟨.map kt e, sz, by_, zr⟩) (hk : ∃ a b c, Go.Ev.look C.tab kt = some ⟨.int .i64, a, b, c⟩) {ti : TI} (he : Go.Ev.look C.tab e = some ti)
    (hz : Go.Ev.part ti ti.zero 0 = some (.bool false)) (hm : s.val m = some (.mp id)) (hx : s.val k = some (.int .i64 n)) (hH : s.heap[id]? = some (.map (setB l))) (hb : inB l n = b) : oper C K f o s = some (s.putv o.dst (.bool b)) := by
  obtain ⟨a, b', c, hk⟩ := hk
  unfold oper
  rw [ho]
  dsimp only
  rw [ht, hm, hx]
  dsimp only
  rw [hH, he]
  simp only [keyKind, hk, mapFind_set, hz]
  subst hb
  by_cases hn : n ∈ l
  · rw [if_pos hn, inB_iff.2 hn]; rfl
  · rw [if_neg hn]
    have : inB l n = false := by
      cases h : inB l n with
      | false => rfl
      | true => exact absurd (inB_iff.1 h) hn
    rw [this]; rfl
end
mutual
def rpE (l : List Int) : Ex' → Bool
  | .mk op n _ es => (op == 1 && inB l n) || rpEs l es
def rpEs (l : List Int) : List Ex' → Bool
  | [] => false
  | e :: es => rpE l e || rpEs l es
end
theorem rpEs_any (l : List Int) : ∀ es : List Ex', rpEs l es = es.any (rpE l)
  | [] => rfl
  | e :: es => by rw [rpEs, rpEs_any l es]; rfl
def ixX (q : Ex' → Bool) : List Ex' → Nat → Int
  | [], _ => -1
  | e :: l, i => if q e = true then (i : Int) else ixX q l (i + 1)
theorem ixX_ge (q : Ex' → Bool) : ∀ (l : List Ex') (i : Nat), decide (ixX q l i ≥ 0) = l.any q
  | [], i => rfl
  | e :: l, i => by
    rw [ixX, List.any_cons]
    cases hb : q e
    · rw [if_neg (by simp), ixX_ge q l (i + 1)]; rfl
    · rw [if_pos rfl]; simp
def ixXS (h : Heap) (es : List Ex') (cl : AV) (i : Int) (_ : Unit) : St :=
  { env := [(0, .v (.vs 4 (exsC es))), (1, .v cl), (7, .v (.int .i64 (exsC es).length)), (8, .v (.int .i64 i))], loc := [], heap := h, inRound := false, lo := h.length }
theorem ixX_run (q : Ex' → Bool) (es : List Ex') (idc : Nat) (k : Nat) (hk : es.length < k) (hl : es.length < 9223372036854775808) (h : Heap) (lo : Nat)
    (hc : ∀ e, e ∈ es → call Tryz.prog cfg k h.length (.func 80) [.agg (exC e), .hp idc 1 0] h = some (.bool (q e), h)) :
    call Tryz.prog cfg (k + 1) lo (.func 122) [.vs 4 (exsC es), .fn (.func 80) [.hp idc 1 0]] h = some (.int .i64 (ixX q es 0), h) := by
  apply W_call Tryz.func122 rfl (Nat.le_of_ble_eq_true rfl) rfl rfl
  (repeat' (first | apply W_seq | refine W_region (id := 0) rfl rfl ?_ | refine W_region (id := 1) rfl rfl ?_ | apply W_block))
  apply W_iterI (S := ixXS h es (.fn (.func 80) [.hp idc 1 0])) (l := es) (a0 := ()) (fun i rest _ => ixX q rest i = ixX q es 0) (by omega) (by omega) rfl rfl
  · intro i e rest a hi hd hil hJ
    have hrow := exsC_get _ _ _ hi
    have hlt := lt_exs hil
    have hce := hc e (List.mem_of_getElem? hi)
    rw [ixX] at hJ
    generalize q e = b at hce hJ
    obtain ⟨op, n, cp, l⟩ := e
    cases b
    · rw [if_neg (by simp)] at hJ
      (repeat' (first | apply W_seq | refine W_true rfl rfl ?_ | refine W_false rfl rfl ?_ | (refine W_ops (id := 2) rfl ?_ <;> (refine T_go rfl ?_; refine G_true rfl (by with_reducible assumption) ?_) <;> apply T_nil) | refine W_region (id := 3) rfl rfl ?_ | (refine W_ops (id := 4) rfl ?_ <;> refine T_ch 3 rfl ?_ <;> (refine T_go rfl ?_; refine G_op (O_index rfl rfl rfl rfl rfl ‹_›) ?_) <;> (refine T_go rfl ?_; refine G_op rfl ?_) <;> (refine T_go rfl ?_; refine G_false (O_call rfl rfl rfl rfl ‹_›) rfl ?_) <;> apply T_nil) | refine W_region (id := 6) rfl rfl ?_ | apply W_skip | apply W_block))
      exact ⟨(), rfl, hJ⟩
    · rw [if_pos rfl] at hJ
      (repeat' (first | apply W_seq | refine W_true rfl rfl ?_ | (refine W_ops (id := 2) rfl ?_ <;> (refine T_go rfl ?_; refine G_true rfl (by with_reducible assumption) ?_) <;> apply T_nil) | refine W_region (id := 3) rfl rfl ?_ | (refine W_ops (id := 4) rfl ?_ <;> refine T_ch 3 rfl ?_ <;> (refine T_go rfl ?_; refine G_op (O_index rfl rfl rfl rfl rfl ‹_›) ?_) <;> (refine T_go rfl ?_; refine G_op rfl ?_) <;> (refine T_go rfl ?_; refine G_true (O_call rfl rfl rfl rfl ‹_›) rfl ?_) <;> apply T_nil) | refine W_region (id := 5) rfl rfl ?_ | apply W_skip | apply W_block | apply W_ret))
      exact ⟨.inl rfl, by rw [← hJ]; rfl⟩
  · intro a hJ
    have hlt := ge_exs (l := es)
    (repeat' (first | apply W_seq | refine W_false rfl rfl ?_ | (refine W_ops (id := 2) rfl ?_ <;> (refine T_go rfl ?_; refine G_false rfl (by with_reducible assumption) ?_) <;> apply T_nil) | refine W_region (id := 7) rfl rfl ?_ | apply W_ret | apply W_exit))
    exact ⟨.inl rfl, by rw [← hJ]; rfl⟩
theorem contX_run (q : Ex' → Bool) (es : List Ex') (idc : Nat) (k : Nat) (hk : es.length < k) (hl : es.length < 9223372036854775808) (h : Heap) (lo : Nat)
    (hc : ∀ e, e ∈ es → call Tryz.prog cfg k h.length (.func 80) [.agg (exC e), .hp idc 1 0] h = some (.bool (q e), h)) :
    call Tryz.prog cfg (k + 2) lo (.func 79) [.vs 4 (exsC es), .fn (.func 80) [.hp idc 1 0]] h = some (.bool (es.any q), h) := by
  have hI := ixX_run q es idc k hk hl h h.length hc
  have hg := ixX_ge q es 0
  cases hb : es.any q <;> rw [hb] at hg <;>
  · apply W_call Tryz.func79 rfl (Nat.le_of_ble_eq_true rfl) rfl rfl
    (repeat' (first | apply W_seq | refine W_region (id := 0) rfl rfl ?_ | (refine W_ops (id := 1) rfl ?_ <;> refine T_ch 2 rfl ?_ <;> (refine T_go rfl ?_; refine G_op (O_call rfl rfl rfl rfl ‹_›) ?_) <;> (refine T_go rfl ?_; first | refine G_true rfl (by with_reducible assumption) ?_ | refine G_false rfl (by with_reducible assumption) ?_) <;> refine T_ch 1 rfl ?_ <;> apply T_nil) | apply W_ret))
    exact ⟨.inl rfl, rfl⟩
theorem reads1_run (l : List Int) (e : Ex') (H : Heap) (idm idc : Nat) (hc : H[idc]? = some (.cells 76 [.mp idm])) (k : Nat) (lo : Nat) (b : Bool) (hr : call Tryz.prog cfg k H.length (.func 37) [.agg (exC e), .mp idm] H = some (.bool b, H)) :
    call Tryz.prog cfg (k + 1) lo (.func 80) [.agg (exC e), .hp idc 1 0] H = some (.bool b, H) := by
  obtain ⟨op, n, cp, es⟩ := e
  cases b <;>
  · apply W_call Tryz.func80 rfl (Nat.le_of_ble_eq_true rfl) rfl rfl
    (repeat' (first | apply W_seq | refine W_region (id := 0) rfl rfl ?_ | (refine W_ops (id := 1) rfl ?_ <;> refine T_ch 1 rfl ?_ <;> (refine T_go rfl ?_; refine G_op (O_loadH rfl rfl rfl ‹_› rfl rfl) ?_) <;> (refine T_go rfl ?_; first | refine G_true (O_call rfl rfl rfl rfl ‹_›) rfl ?_ | refine G_false (O_call rfl rfl rfl rfl ‹_›) rfl ?_) <;> refine T_ch 1 rfl ?_ <;> apply T_nil) | apply W_ret))
    exact ⟨.inl rfl, rfl⟩
theorem readsP_run (l : List Int) (idm : Nat) : ∀ (k : Nat) (e : Ex'), 4 * exK e ≤ k → exB e → ∀ (h : Heap) (lo : Nat), h[idm]? = some (.map (setB l)) → call Tryz.prog cfg k lo (.func 37) [.agg (exC e), .mp idm] h = some (.bool (rpE l e), h)
  | 0, e, hk, _, _, _, _ => by have := exK_pos e; omega
  | k + 1, .mk op n cp es, hk, hb, h, lo, hm => by
    rw [exK] at hk
    rw [exB] at hb
    have hlen := exsK_len es
    have hp := exsK_pos es
    have hm' : (h ++ [HObj.cells 76 [.mp idm]])[idm]? = some (.map (setB l)) := by rw [List.getElem?_append_left (cells_lt hm)]; exact hm
    have hc' : (h ++ [HObj.cells 76 [.mp idm]])[h.length]? = some (.cells 76 [.mp idm]) := by simp
    have hC := contX_run (rpE l) es h.length (k - 2) (by omega) hb.1 (h ++ [HObj.cells 76 [.mp idm]]) h.length (fun e he => by
      obtain ⟨i, hi⟩ := List.getElem?_of_mem he
      have hmem := exsK_mem es i _ hi
      have := reads1_run l e (h ++ [HObj.cells 76 [.mp idm]]) idm h.length hc' (k - 3) (h ++ [HObj.cells 76 [.mp idm]]).length (rpE l e) (readsP_run l idm (k - 3) e (by omega) (exsB_mem es i _ hb.2 hi) _ _ hm')
      rw [show k - 3 + 1 = k - 2 by omega] at this
      exact this)
    rw [show k - 2 + 2 = k by omega, ← rpEs_any] at hC
    rw [rpE]
    generalize rpEs l es = y at hC ⊢
    cases hop : (op == 1) with
    | true =>
      cases hn : inB l n with
      | true =>
        apply W_call Tryz.func37 rfl (Nat.le_of_ble_eq_true rfl) rfl rfl
        (repeat' (first | apply W_seq | refine W_region (id := 0) rfl rfl ?_ | (refine W_ops (id := 1) rfl ?_ <;> refine T_ch 2 rfl ?_ <;> (refine T_go rfl ?_; refine G_true rfl (by with_reducible assumption) ?_) <;> refine T_ch 1 rfl ?_ <;> (refine T_go rfl ?_; refine G_op (O_loadH rfl rfl rfl ‹_› rfl rfl) ?_) <;> refine T_ch 2 rfl ?_ <;> (refine T_go rfl ?_; refine G_true (O_lookB rfl rfl ⟨_, _, _, rfl⟩ rfl rfl rfl rfl ‹_› ‹_›) rfl ?_) <;> refine T_ch 5 rfl ?_ <;> refine T_skip rfl ?_ <;> refine T_ch 2 rfl ?_ <;> apply T_nil) | apply W_ret))
        all_goals exact ⟨.inl rfl, rfl⟩
      | false =>
        cases y <;>
        · apply W_call Tryz.func37 rfl (Nat.le_of_ble_eq_true rfl) rfl rfl
          (repeat' (first | apply W_seq | refine W_region (id := 0) rfl rfl ?_ | (refine W_ops (id := 1) rfl ?_ <;> refine T_ch 2 rfl ?_ <;> (refine T_go rfl ?_; refine G_true rfl (by with_reducible assumption) ?_) <;> refine T_ch 1 rfl ?_ <;> (refine T_go rfl ?_; refine G_op (O_loadH rfl rfl rfl ‹_› rfl rfl) ?_) <;> refine T_ch 2 rfl ?_ <;> (refine T_go rfl ?_; refine G_false (O_lookB rfl rfl ⟨_, _, _, rfl⟩ rfl rfl rfl rfl ‹_› ‹_›) rfl ?_) <;> refine T_ch 5 rfl ?_ <;> (refine T_go rfl ?_; first | refine G_true (O_call rfl rfl rfl rfl ‹_›) rfl ?_ | refine G_false (O_call rfl rfl rfl rfl ‹_›) rfl ?_) <;> refine T_ch 2 rfl ?_ <;> apply T_nil) | apply W_ret))
          all_goals exact ⟨.inl rfl, rfl⟩
    | false =>
      cases y <;>
      · apply W_call Tryz.func37 rfl (Nat.le_of_ble_eq_true rfl) rfl rfl
        (repeat' (first | apply W_seq | refine W_region (id := 0) rfl rfl ?_ | (refine W_ops (id := 1) rfl ?_ <;> refine T_ch 2 rfl ?_ <;> (refine T_go rfl ?_; refine G_false rfl (by with_reducible assumption) ?_) <;> refine T_ch 1 rfl ?_ <;> refine T_skip rfl ?_ <;> refine T_ch 2 rfl ?_ <;> refine T_skip rfl ?_ <;> refine T_ch 5 rfl ?_ <;> (refine T_go rfl ?_; first | refine G_true (O_call rfl rfl rfl rfl ‹_›) rfl ?_ | refine G_false (O_call rfl rfl rfl rfl ‹_›) rfl ?_) <;> refine T_ch 2 rfl ?_ <;> apply T_nil) | apply W_ret))
        all_goals exact ⟨.inl rfl, rfl⟩
/- Releases: all statements of a program; what it changes; which outputs may be named. -/
mutual
def ev1 : Sm' → Int → List (Int × Sm')
  | .mk op nn a t e, n => (n, .mk op nn a t e) :: (evL t (IntKind.i64.wrap (n + 1)) ++ evL e (IntKind.i64.wrap (IntKind.i64.wrap (n + 1) + cntL t 0)))
def evL : List Sm' → Int → List (Int × Sm')
  | [], _ => []
  | s :: l, n => ev1 s n ++ evL l (cnt1 s n)
end
mutual
theorem ev1_len : ∀ (s : Sm') (n : Int), (ev1 s n).length ≤ smN s
  | .mk op nn a t e, n => by
    have h1 := evL_len t (IntKind.i64.wrap (n + 1))
    have h2 := evL_len e (IntKind.i64.wrap (IntKind.i64.wrap (n + 1) + cntL t 0))
    rw [ev1, smN]
    simp only [List.length_cons, List.length_append]; omega
theorem evL_len : ∀ (l : List Sm') (n : Int), (evL l n).length ≤ smsN l
  | [], n => by rw [evL, smsN]; simp
  | s :: l, n => by
    have h1 := ev1_len s n
    have h2 := evL_len l (cnt1 s n)
    rw [evL, smsN, List.length_append]; omega
end
theorem it_appendV (h : Heap) (its more : List (Int × Sm')) (hl : its.length + more.length < 100000) : append cfg.tab h.length (accH h 92 (its.map itC)) 89 (accA h 6 (its.map itC)) (accV 6 (more.map itC)) = some (accA h 6 ((its ++ more).map itC), accH h 92 ((its ++ more).map itC)) := by
  have := acc_appendV (tab := cfg.tab) (lo := h.length) (h := h) (t := 89) (e := 92) rfl rfl (by decide) (Nat.le_refl _) (its.map itC) (more.map itC) (fun r hr => (itC_row its r hr).1) (by simp only [room, List.length_map]; show (its.length + more.length) * 96 ≤ _; omega) (by simp only [room, List.length_map]; omega)
  rw [List.map_append]
  exact this
def evS (h : Heap) (v : AV) (i : Int) (a : List (Int × Sm')) : St :=
  { env := [(0, .v v), (3, .v (accA h 6 (a.map itC))), (4, .v (.int .i64 i))], loc := [], heap := accH h 92 (a.map itC), inRound := false, lo := h.length }
set_option maxHeartbeats 2000000 in
theorem allR_run : ∀ (k : Nat) (l : List Sm') (n : Int), smsK l + 20 ≤ k → smsN l ≤ 600 → l.length < 1000 → smsB l → ∀ (h : Heap) (lo : Nat),
    call Tryz.prog cfg k lo (.func 88) [accV 6 ((itemsL l n).map itC)] h = some (accV 6 ((evL l n).map itC), h)
  | 0, l, n, hk, _, _, _, _, _ => by omega
  | k + 1, [], n, hk, hN, hlen, hb, h, lo => by
    apply W_call Tryz.func88 rfl (Nat.le_of_ble_eq_true rfl) rfl rfl
    (repeat' (first | apply W_seq | refine W_region (id := 0) rfl rfl ?_ | refine W_region (id := 1) rfl rfl ?_ | refine W_region (id := 2) rfl rfl ?_ | apply W_block))
    apply W_iter (S := evS h .nils) (l := ([] : List Sm')) (a0 := []) (fun _ a => a = []) (by simp) (by simp; omega) rfl rfl
    · intro i st rest a hi; simp at hi
    · intro a hJ
      subst hJ
      (repeat' (first | apply W_seq | refine W_false rfl rfl ?_ | (refine W_ops (id := 3) rfl ?_ <;> refine T_ch 3 rfl ?_ <;> (refine T_go rfl ?_; refine G_false rfl rfl ?_) <;> apply T_nil) | refine W_region (id := 8) rfl rfl ?_ | apply W_ret | apply W_exit))
      exact ⟨.inl rfl, rfl⟩
  | k + 1, s0 :: l0, n, hk, hN, hlen, hb, h, lo => by
    have hll := smsK_len (s0 :: l0)
    have htot := evL_len (s0 :: l0) n
    generalize hl0 : s0 :: l0 = l at *
    have hacc : accV 6 ((itemsL l n).map itC) = .vs 6 ((itemsL l n).map itC) := by subst hl0; rfl
    have hfin := acc_frz (h := h) (e := 92) (sz := 6) ((evL l n).map itC) (itC_row _)
    rw [hacc]
    generalize hR : evL l n = R at *
    apply W_call Tryz.func88 rfl (Nat.le_of_ble_eq_true rfl) rfl rfl
    (repeat' (first | apply W_seq | refine W_region (id := 0) rfl rfl ?_ | refine W_region (id := 1) rfl rfl ?_ | refine W_region (id := 2) rfl rfl ?_ | apply W_block))
    apply W_iterI (S := evS h (.vs 6 ((itemsL l n).map itC))) (l := l) (a0 := []) (fun i rest a => ∃ m', a ++ evL rest m' = R ∧ (itemsL l n).drop i = itemsL rest m') (by omega) (by omega) rfl ⟨n, by simpa using hR, rfl⟩
    · intro i s rest x hi hd hil hJ
      obtain ⟨mm, hJ, hdr⟩ := hJ
      have hlt := lt_its (n := n) hil
      have hmem := smsK_mem l i _ hi
      have hNm := smsN_mem l i _ hi
      have hbm := smsB_mem l i _ hb hi
      rw [itemsL] at hdr
      have hget : (itemsL l n)[i]? = some (mm, s) := by
        have := congrArg (fun z => z[0]?) hdr
        simpa using this
      have hrow : ((itemsL l n).map itC)[i]? = some (itC (mm, s)) := by rw [List.getElem?_map, hget]; rfl
      have hdr2 : (itemsL l n).drop (i + 1) = itemsL rest (cnt1 s mm) := by rw [← List.drop_drop, hdr]; rfl
      have hxl : x.length + (ev1 s mm).length ≤ 600 := by
        have := congrArg List.length hJ
        rw [evL] at this
        simp only [List.length_append] at this
        omega
      rw [evL] at hJ
      obtain ⟨op, nn, a, t, e⟩ := s
      rw [smK] at hmem
      rw [smN] at hNm
      rw [smB] at hbm
      rw [ev1] at hJ hxl
      obtain ⟨⟨ha1, ha2⟩, ⟨ht1, ht2⟩, he1, he2⟩ := hbm
      have hla := exsK_len a
      have htl := smsN_len t
      have hel := smsN_len e
      have hp2 := smsK_pos t
      have hp3 := smsK_pos e
      simp only [List.length_cons, List.length_append] at hxl
      have ap0 := it_append h x (mm, Sm'.mk op nn a t e) (by omega)
      have hTh := then_run mm op nn a t e (k - 1) (by omega) (by omega) ht2 (accH h 92 ((x ++ [(mm, Sm'.mk op nn a t e)]).map itC)) h.length
      have hT := allR_run k t (IntKind.i64.wrap (mm + 1)) (by omega) (by omega) (by omega) ht2 (accH h 92 ((x ++ [(mm, Sm'.mk op nn a t e)]).map itC)) h.length
      generalize evL t (IntKind.i64.wrap (mm + 1)) = X at *
      have ap1 := it_appendV h (x ++ [(mm, Sm'.mk op nn a t e)]) X (by simp; omega)
      have hEl := else_run mm op nn a t e (k - 1) (by omega) (by omega) ht2 (by omega) he2 (accH h 92 ((x ++ [(mm, Sm'.mk op nn a t e)] ++ X).map itC)) h.length
      have hE := allR_run k e (IntKind.i64.wrap (IntKind.i64.wrap (mm + 1) + cntL t 0)) (by omega) (by omega) (by omega) he2 (accH h 92 ((x ++ [(mm, Sm'.mk op nn a t e)] ++ X).map itC)) h.length
      generalize evL e (IntKind.i64.wrap (IntKind.i64.wrap (mm + 1) + cntL t 0)) = Y at *
      have ap2 := it_appendV h (x ++ [(mm, Sm'.mk op nn a t e)] ++ X) Y (by simp; omega)
      rw [show k - 1 + 1 = k by omega] at hTh hEl
      (repeat' (first | apply W_seq | refine W_true rfl rfl ?_ | (refine W_ops (id := 3) rfl ?_ <;> refine T_ch 3 rfl ?_ <;> (refine T_go rfl ?_; refine G_true rfl (by with_reducible assumption) ?_) <;> apply T_nil) | refine W_region (id := 4) rfl rfl ?_ | (refine W_ops (id := 5) rfl ?_ <;> refine T_ch 3 rfl ?_ <;> (refine T_go rfl ?_; refine G_op (O_index rfl rfl rfl rfl rfl ‹_›) ?_) <;> (refine T_go rfl ?_; refine G_op rfl ?_) <;> refine T_ch 1 rfl ?_ <;> (refine T_go rfl ?_; refine G_op (O_append rfl rfl rfl rfl rfl ‹_›) ?_) <;> refine T_ch 1 rfl ?_ <;> apply T_nil) | (refine W_ops (id := 6) rfl ?_ <;> refine T_ch 3 rfl ?_ <;> (refine T_go rfl ?_; refine G_op (O_index rfl rfl rfl rfl rfl ‹_›) ?_) <;> (refine T_go rfl ?_; refine G_op rfl ?_) <;> (refine T_go rfl ?_; refine G_op (O_call rfl rfl rfl rfl ‹_›) ?_) <;> (refine T_go rfl ?_; refine G_op (O_call rfl rfl rfl rfl ‹_›) ?_) <;> (refine T_go rfl ?_; refine G_op (O_append rfl rfl rfl rfl rfl ‹_›) ?_) <;> refine T_ch 1 rfl ?_ <;> apply T_nil) | (refine W_ops (id := 7) rfl ?_ <;> refine T_ch 3 rfl ?_ <;> (refine T_go rfl ?_; refine G_op (O_index rfl rfl rfl rfl rfl ‹_›) ?_) <;> (refine T_go rfl ?_; refine G_op rfl ?_) <;> (refine T_go rfl ?_; refine G_op (O_call rfl rfl rfl rfl ‹_›) ?_) <;> (refine T_go rfl ?_; refine G_op (O_call rfl rfl rfl rfl ‹_›) ?_) <;> (refine T_go rfl ?_; refine G_op (O_append rfl rfl rfl rfl rfl ‹_›) ?_) <;> refine T_ch 1 rfl ?_ <;> apply T_nil) | apply W_skip | apply W_block))
      exact ⟨x ++ [(mm, Sm'.mk op nn a t e)] ++ X ++ Y, rfl, cnt1 (.mk op nn a t e) mm, by rw [← hJ]; simp, hdr2⟩
    · intro a hJ
      obtain ⟨mm, hJ, _⟩ := hJ
      have hlt := ge_its (l := l) (n := n)
      have ha : a = R := by simpa [evL] using hJ
      subst ha
      (repeat' (first | apply W_seq | refine W_false rfl rfl ?_ | (refine W_ops (id := 3) rfl ?_ <;> refine T_ch 3 rfl ?_ <;> (refine T_go rfl ?_; refine G_false rfl (by with_reducible assumption) ?_) <;> apply T_nil) | refine W_region (id := 8) rfl rfl ?_ | apply W_ret | apply W_exit))
      exact ⟨.inl rfl, hfin⟩
def every (p : Pr') : List (Int × Sm') := evL p.body 0
theorem every_run (p : Pr') (k : Nat) (hk : smsK p.body + 30 ≤ k) (hN : smsN p.body ≤ 600) (hb : prB p) (h : Heap) (lo : Nat) : call Tryz.prog cfg (k + 1) lo (.func 44) [.agg (prC p)] h = some (accV 6 ((every p).map itC), h) := by
  have hln := smsN_len p.body
  have hI := items_run p.body 0 (k - 1) (by omega) (by omega) hb.2.2 h h.length
  have hA := allR_run k p.body 0 (by omega) hN (by omega) hb.2.2 h h.length
  rw [show k - 1 + 1 = k by omega] at hI
  unfold every
  generalize itemsL p.body 0 = X at hI hA
  generalize evL p.body 0 = Y at hA ⊢
  obtain ⟨w, vs, body⟩ := p
  cases X <;> cases Y <;>
  · apply W_call Tryz.func44 rfl (Nat.le_of_ble_eq_true rfl) rfl rfl
    (repeat' (first | apply W_seq | refine W_region (id := 0) rfl rfl ?_ | (refine W_ops (id := 1) rfl ?_ <;> refine T_ch 2 rfl ?_ <;> (refine T_go rfl ?_; refine G_op (O_call rfl rfl rfl rfl ‹_›) ?_) <;> (refine T_go rfl ?_; refine G_op (O_call rfl rfl rfl rfl ‹_›) ?_) <;> refine T_ch 1 rfl ?_ <;> apply T_nil) | apply W_ret))
    exact ⟨.inl rfl, rfl⟩
def chB (e : Ex') (x : Int × Sm') : Bool := match x.2 with
  | .mk op nn _ _ _ => (op == 0 || op == 4) && rvE nn e
def changedB (p : Pr') (e : Ex') : Bool := (every p).any (chB e)
def opOf : Sm' → Int
  | .mk op _ _ _ _ => op
def okAt (L : List (Int × Sm')) (x : Int) : Bool := !decide (x < 0) && !decide (x ≥ (L.length : Int)) && (match L[x.toNat]? with | some y => !(opOf y.2 != 3) | none => false)
def outsF (L : List (Int × Sm')) : Option Int → List Int → Bool
  | _, [] => true
  | pv, x :: r => okAt L x && (match pv with | none => true | some y => !decide (x ≤ y)) && outsF L (some x) r
def outsB (p : Pr') (l : List Int) : Bool := outsF (every p) none l
theorem lt_itm {L : List (Int × Sm')} {i : Nat} (h : i < L.length) : decide ((i : Int) < ((L.map itC).length : Int)) = true := decide_eq_true (by rw [List.length_map]; omega)
theorem ge_itm {L : List (Int × Sm')} : decide ((L.length : Int) < ((L.map itC).length : Int)) = false := decide_eq_false (by rw [List.length_map]; omega)
/- Releases, plain: statements by their numbers; what is changed; copies. -/
/-! ### Numbers -/
mutual
theorem ev1_at : ∀ (s : Sm') (n : Int), 0 ≤ n → n + smN s < 1000000 → (ev1 s n).length = sc1 s ∧ ∀ (j : Nat) (x : Int × Sm'), (ev1 s n)[j]? = some x → x.1 = n + j
  | .mk op nn a t e, n, h0, h1 => by
    rw [smN] at h1
    have hst := scs_le t
    have hse := scs_le e
    have q2 : cntL t 0 = scs t := by rw [cntL_eq t 0 (by omega) (by omega)]; omega
    obtain ⟨t1, t2⟩ := evL_at t (n + 1) (by omega) (by omega)
    obtain ⟨e1, e2⟩ := evL_at e (n + 1 + scs t) (by omega) (by omega)
    rw [ev1, sc1, wsm (n := n + 1) (by omega) (by omega), q2, wsm (n := n + 1 + _) (by omega) (by omega)]
    refine ⟨by simp only [List.length_cons, List.length_append, t1, e1]; omega, fun j x hx => ?_⟩
    cases j with
    | zero => simp at hx; rw [← hx]; simp
    | succ j =>
      rw [List.getElem?_cons_succ] at hx
      rcases Nat.lt_or_ge j (evL t (n + 1)).length with h | h
      · rw [List.getElem?_append_left h] at hx
        have := t2 j x hx
        omega
      · rw [List.getElem?_append_right h] at hx
        have := e2 _ x hx
        omega
theorem evL_at : ∀ (l : List Sm') (n : Int), 0 ≤ n → n + smsN l < 1000000 → (evL l n).length = scs l ∧ ∀ (j : Nat) (x : Int × Sm'), (evL l n)[j]? = some x → x.1 = n + j
  | [], n, h0, h1 => by rw [evL, scs]; exact ⟨rfl, fun j x hx => by simp at hx⟩
  | s :: l, n, h0, h1 => by
    rw [smsN] at h1
    have hs := sc1_le s
    obtain ⟨a1, a2⟩ := ev1_at s n h0 (by omega)
    obtain ⟨b1, b2⟩ := evL_at l (n + sc1 s) (by omega) (by omega)
    rw [evL, scs, cnt1_eq s n h0 (by omega)]
    refine ⟨by rw [List.length_append, a1, b1], fun j x hx => ?_⟩
    rcases Nat.lt_or_ge j (ev1 s n).length with h | h
    · rw [List.getElem?_append_left h] at hx
      exact a2 j x hx
    · rw [List.getElem?_append_right h] at hx
      have := b2 _ x hx
      omega
end
/-! ### A walk over all -/
mutual
theorem walk1_ev {σ : Type} (upd : σ → Int → Sm' → σ) : ∀ (s : Sm') (x : σ) (n : Int), 0 ≤ n → n + smN s < 1000000 → walk1 (yU upd) s x n = (true, (ev1 s n).foldl (fun x y => upd x y.1 y.2) x, n + sc1 s)
  | .mk op nn a t e, x, n, h0, h1 => by
    rw [smN] at h1
    have hst := scs_le t
    have hse := scs_le e
    have q2 : cntL t 0 = scs t := by rw [cntL_eq t 0 (by omega) (by omega)]; omega
    have hw : IntKind.i64.wrap (IntKind.i64.wrap (n + 1) - 1) = n := by rw [wsm (n := n + 1) (by omega) (by omega), wsm (by omega) (by omega)]; omega
    rw [walk1, ev1, sc1, hw, wsm (n := n + 1) (by omega) (by omega), q2, wsm (n := n + 1 + _) (by omega) (by omega)]
    rw [if_pos (show (yU upd x n (.mk op nn a t e)).1 = true from rfl)]
    have hy : (yU upd x n (.mk op nn a t e)).2 = upd x n (.mk op nn a t e) := rfl
    rw [hy, walkL_ev upd t _ (n + 1) (by omega) (by omega)]
    dsimp only
    rw [if_pos rfl, walkL_ev upd e _ (n + 1 + scs t) (by omega) (by omega), List.foldl_cons, List.foldl_append]
    congr 2
    omega
theorem walkL_ev {σ : Type} (upd : σ → Int → Sm' → σ) : ∀ (l : List Sm') (x : σ) (n : Int), 0 ≤ n → n + smsN l < 1000000 → walkL (yU upd) l x n = (true, (evL l n).foldl (fun x y => upd x y.1 y.2) x, n + scs l)
  | [], x, n, h0, h1 => by rw [walkL, evL, scs]; simp
  | s :: l, x, n, h0, h1 => by
    rw [smsN] at h1
    have := sc1_le s
    rw [walkL, walk1_ev upd s x n h0 (by omega)]
    dsimp only
    rw [if_pos rfl, walkL_ev upd l _ (n + sc1 s) (by omega) (by omega), evL, scs, cnt1_eq s n h0 (by omega), List.foldl_append]
    congr 2
    omega
end
theorem putI_new {x : List (Int × Int)} {n v : Int} (h : ∀ y, y ∈ x → y.1 ≠ n) : putI x n v = x ++ [(n, v)] := by
  induction x with
  | nil => rfl
  | cons y x ih =>
    obtain ⟨a, b⟩ := y
    have h1 : n ≠ a := fun e => h (a, b) (List.mem_cons_self ..) e.symm
    rw [putI, if_neg h1, ih fun z hz => h z (List.mem_cons_of_mem _ hz)]
    rfl
def isCh (y : Int × Sm') (v : Int) : Prop := match y.2 with
  | .mk op nn _ _ _ => (op = 0 ∨ op = 4) ∧ nn = v
theorem tgt_fold : ∀ (L : List (Int × Sm')) (x : List (Int × Int)), L.Pairwise (fun a b => a.1 < b.1) → (∀ y, y ∈ x → ∀ z, z ∈ L → y.1 < z.1) → ∀ v, (∃ k, (k, v) ∈ L.foldl (fun x y => updT x y.1 y.2) x) ↔ (∃ k, (k, v) ∈ x) ∨ ∃ y, y ∈ L ∧ isCh y v
  | [], x, _, _, v => by simp
  | (n, .mk op nn a t e) :: L, x, hp, hx, v => by
    rw [List.pairwise_cons] at hp
    rw [List.foldl_cons]
    by_cases ho : op = 0 ∨ op = 4
    · have hu : updT x n (.mk op nn a t e) = x ++ [(n, nn)] := by
        rw [updT_put ho]
        exact putI_new fun y hy e => by have := hx y hy _ (List.mem_cons_self ..); dsimp only at this; omega
      dsimp only
      rw [hu, tgt_fold L _ hp.2 (fun y hy z hz => by
        rcases List.mem_append.1 hy with hy | hy
        · exact hx y hy z (List.mem_cons_of_mem _ hz)
        · simp at hy; subst hy; exact hp.1 z hz)]
      constructor
      · rintro (⟨k, hk⟩ | ⟨y, hy, hc⟩)
        · rcases List.mem_append.1 hk with hk | hk
          · exact .inl ⟨k, hk⟩
          · simp at hk; exact .inr ⟨_, List.mem_cons_self .., ho, hk.2.symm⟩
        · exact .inr ⟨y, List.mem_cons_of_mem _ hy, hc⟩
      · rintro (⟨k, hk⟩ | ⟨y, hy, hc⟩)
        · exact .inl ⟨k, List.mem_append_left _ hk⟩
        · rcases List.mem_cons.1 hy with rfl | hy
          · exact .inl ⟨n, List.mem_append_right _ (by rw [← hc.2]; simp)⟩
          · exact .inr ⟨y, hy, hc⟩
    · dsimp only
      rw [updT_not ho, tgt_fold L x hp.2 (fun y hy z hz => hx y hy z (List.mem_cons_of_mem _ hz))]
      constructor
      · rintro (h | ⟨y, hy, hc⟩)
        · exact .inl h
        · exact .inr ⟨y, List.mem_cons_of_mem _ hy, hc⟩
      · rintro (h | ⟨y, hy, hc⟩)
        · exact .inl h
        · rcases List.mem_cons.1 hy with rfl | hy
          · exact absurd hc.1 ho
          · exact .inr ⟨y, hy, hc⟩
theorem every_pw {p : Pr'} (hN : smsN p.body ≤ 600) : (every p).Pairwise (fun a b => a.1 < b.1) := by
  rw [List.pairwise_iff_getElem]
  intro i j hi hj hij
  have h := (evL_at p.body 0 (by omega) (by omega)).2
  have h1 := h i _ (List.getElem?_eq_getElem (show i < (evL p.body 0).length from hi))
  have h2 := h j _ (List.getElem?_eq_getElem (show j < (evL p.body 0).length from hj))
  show ((evL p.body 0)[i]).1 < ((evL p.body 0)[j]).1
  omega
theorem tgt_vals {p : Pr'} (hN : smsN p.body ≤ 600) (v : Int) : (∃ k, (k, v) ∈ tgt p) ↔ ∃ y, y ∈ every p ∧ isCh y v := by
  unfold tgt
  rw [walkL_ev updT p.body [] 0 (by omega) (by omega)]
  have := tgt_fold (every p) [] (every_pw hN) (fun y hy => by cases hy) v
  show (∃ k, (k, v) ∈ (every p).foldl (fun x y => updT x y.1 y.2) []) ↔ _
  rw [this]
  simp
/-! ### What an expression reads -/
mutual
theorem rpE_iff (l : List Int) : ∀ e : Ex', rpE l e = true ↔ ∃ v, v ∈ l ∧ rvE v e = true
  | .mk op n c es => by
    rw [rpE, Bool.or_eq_true, rpEs_iff l es, Bool.and_eq_true, inB_iff]
    constructor
    · rintro (⟨h1, h2⟩ | ⟨v, hv, h⟩)
      · exact ⟨n, h2, by rw [rvE]; simp [h1]⟩
      · exact ⟨v, hv, by rw [rvE, h]; simp⟩
    · rintro ⟨v, hv, h⟩
      rw [rvE, Bool.or_eq_true, Bool.and_eq_true] at h
      rcases h with ⟨h1, h2⟩ | h
      · have : n = v := by simpa using h2
        exact .inl ⟨h1, this ▸ hv⟩
      · exact .inr ⟨v, hv, h⟩
theorem rpEs_iff (l : List Int) : ∀ es : List Ex', rpEs l es = true ↔ ∃ v, v ∈ l ∧ rvEs v es = true
  | [] => by simp [rpEs, rvEs]
  | e :: es => by
    rw [rpEs, Bool.or_eq_true, rpE_iff l e, rpEs_iff l es]
    constructor
    · rintro (⟨v, hv, h⟩ | ⟨v, hv, h⟩)
      · exact ⟨v, hv, by rw [rvEs, h]; simp⟩
      · exact ⟨v, hv, by rw [rvEs, h]; simp⟩
    · rintro ⟨v, hv, h⟩
      rw [rvEs, Bool.or_eq_true] at h
      rcases h with h | h
      · exact .inl ⟨v, hv, h⟩
      · exact .inr ⟨v, hv, h⟩
end
theorem changed_eq {p : Pr'} (hN : smsN p.body ≤ 600) {l : List Int} (hl : ∀ v, v ∈ l ↔ ∃ k, (k, v) ∈ tgt p) (e : Ex') : rpE l e = changedB p e := by
  rw [Bool.eq_iff_iff, rpE_iff]
  unfold changedB
  rw [List.any_eq_true]
  constructor
  · rintro ⟨v, hv, h⟩
    obtain ⟨y, hy, hc⟩ := (tgt_vals hN v).1 ((hl v).1 hv)
    refine ⟨y, hy, ?_⟩
    obtain ⟨m, ⟨op, nn, a, t, e'⟩⟩ := y
    obtain ⟨h1, h2⟩ := hc
    subst h2
    unfold chB
    dsimp only
    rw [h]
    rcases h1 with h1 | h1 <;> simp [h1]
  · rintro ⟨y, hy, h⟩
    obtain ⟨m, ⟨op, nn, a, t, e'⟩⟩ := y
    unfold chB at h
    dsimp only at h
    rw [Bool.and_eq_true, Bool.or_eq_true] at h
    refine ⟨nn, (hl nn).2 ((tgt_vals hN nn).2 ⟨_, hy, ?_, rfl⟩), h.2⟩
    rcases h.1 with h1 | h1
    · exact .inl (by simpa using h1)
    · exact .inr (by simpa using h1)
/-! ### Copies -/
mutual
theorem cpE_eq {w c0 : Int} {vs : List Vr'} (c : Int) : ∀ e : Ex', formE w vs c0 e = true → cpE c e = mvE c e
  | .mk op n cp es, h => by
    rw [formE, Bool.and_eq_true] at h
    rw [cpE, mvE, cpEs_eq c es h.2]
    have h1 := h.1
    unfold nodeB at h1
    dsimp only at h1
    by_cases ho : op = 1
    · simp [ho]
    · rw [if_neg ho] at h1
      simp only [Bool.and_eq_true, beq_iff_eq] at h1
      have : (op == 1) = false := by simpa using ho
      rw [this, h1.1.1]
theorem cpEs_eq {w c0 : Int} {vs : List Vr'} (c : Int) : ∀ es : List Ex', formEs w vs c0 es = true → cpEs c es = mvEs c es
  | [], _ => rfl
  | e :: es, h => by
    rw [formEs, Bool.and_eq_true] at h
    rw [cpEs, mvEs, cpE_eq c e h.1, cpEs_eq c es h.2]
end
mutual
theorem mvE_K (c : Int) : ∀ e : Ex', exK (mvE c e) = exK e
  | .mk op n cp es => by rw [mvE, exK, exK, mvEs_K c es]
theorem mvEs_K (c : Int) : ∀ es : List Ex', exsK (mvEs c es) = exsK es
  | [] => rfl
  | e :: es => by rw [mvEs, exsK, exsK, mvE_K c e, mvEs_K c es]
end
theorem mvEs_len (c : Int) : ∀ es : List Ex', (mvEs c es).length = es.length
  | [] => rfl
  | e :: es => by rw [mvEs, List.length_cons, List.length_cons, mvEs_len c es]
mutual
theorem mvE_B (c : Int) : ∀ e : Ex', exB e → exB (mvE c e)
  | .mk op n cp es, h => by
    rw [exB] at h
    rw [mvE, exB, mvEs_len]
    exact ⟨h.1, mvEs_B c es h.2⟩
theorem mvEs_B (c : Int) : ∀ es : List Ex', exsB es → exsB (mvEs c es)
  | [], _ => trivial
  | e :: es, h => by
    rw [exsB] at h
    rw [mvEs, exsB]
    exact ⟨mvE_B c e h.1, mvEs_B c es h.2⟩
end
/- Releases: the callback of level.Released. -/
def eqX (a : Ex') : Ex' := .mk 13 0 0 [cpE 0 a, cpE 1 a]
def a0E : List Ex' → Ex'
  | [] => .mk 0 0 0 []
  | e :: _ => e
def updR (low : Int) (at_ st : List Int) (x : Bool × List Ex') (n : Int) (s : Sm') (lv : List Int) (ar : Int) : Bool × List Ex' :=
  match s with
  | .mk op nn a _ _ => if op = 3 then
      (if inB at_ n = true then (x.1 && (withinB ar nn && !rpE st (a0E a)), if withinB nn low = true then x.2 ++ [eqX (a0E a)] else x.2)
       else (x.1 && withinB (orI ar (ofE lv (a0E a))) nn, x.2))
    else x
/-- Where the callback's variables lie. -/
structure RId where
  i4 : Nat
  i5 : Nat
  iS : Nat
  i14 : Nat
  L17 : Nat
  L18 : Nat
  o1 : i4 < i5
  o2 : i5 < iS
  o3 : iS < i14
  o4 : i14 < L17
  o5 : L17 < L18
def RId.base (r : RId) (i : Nat) : Prop := i = r.i4 ∨ i = r.i5 ∨ i = r.iS ∨ i = r.i14 ∨ i = r.L17 ∨ i = r.L18
def RId.fix (r : RId) (low : Int) (at_ st : List Int) (h : Heap) : Prop :=
  h[r.i4]? = some (.cells 3 [.int .i64 low]) ∧ h[r.i5]? = some (.cells 26 [.vs 1 (intsC at_)]) ∧ h[r.iS]? = some (.map (setB st)) ∧ h[r.i14]? = some (.cells 76 [.mp r.iS])
def RId.more (r : RId) (xs : List Ex') (h : Heap) (O : Nat → Prop) : Prop :=
  (xs = [] ∧ h[r.L18]? = some (.cells 29 [.nils]) ∧ ∀ i, O i ↔ r.base i) ∨
  ∃ id, r.L18 < id ∧ xs ≠ [] ∧ h[r.L18]? = some (.cells 29 [.sl id 4 0 xs.length]) ∧ h[id]? = some (.cells 31 (exsC xs).flatten) ∧ ∀ i, O i ↔ r.base i ∨ i = id
def seeR (r : RId) (low : Int) (at_ st : List Int) : See :=
  { σ := Bool × List Ex', upd := updR low at_ st
    B := fun b x h O => x.2.length + b ≤ 90000 ∧ r.fix low at_ st h ∧ h[r.L17]? = some (.cells 4 [.bool x.1]) ∧ r.more x.2 h O
    f := 33, caps := [.hp r.i5 1 0, .hp r.L17 1 0, .hp r.i14 1 0, .hp r.i4 1 0, .hp r.L18 1 0] }
theorem RId.more_base {r : RId} {xs : List Ex'} {h : Heap} {O : Nat → Prop} (m : r.more xs h O) {i : Nat} (hi : r.base i) : O i := by
  rcases m with ⟨_, _, q⟩ | ⟨id, _, _, _, _, q⟩
  · exact (q i).2 hi
  · exact (q i).2 (.inl hi)
theorem RId.fix_keep {r : RId} {low : Int} {at_ st : List Int} {h h' : Heap} (f : r.fix low at_ st h) (hk : ∀ i, i = r.i4 ∨ i = r.i5 ∨ i = r.iS ∨ i = r.i14 → h'[i]? = h[i]?) : r.fix low at_ st h' := by
  obtain ⟨f1, f2, f3, f4⟩ := f
  exact ⟨by rw [hk _ (.inl rfl)]; exact f1, by rw [hk _ (.inr (.inl rfl))]; exact f2, by rw [hk _ (.inr (.inr (.inl rfl)))]; exact f3, by rw [hk _ (.inr (.inr (.inr rfl)))]; exact f4⟩
theorem RId.more_keep {r : RId} {xs : List Ex'} {h h' : Heap} {O : Nat → Prop} (m : r.more xs h O) (hk : ∀ i, O i → i ≠ r.L17 → h'[i]? = h[i]?) : r.more xs h' O := by
  have o5 := r.o5
  rcases m with ⟨q0, q1, q2⟩ | ⟨id, q0, q1, q2, q3, q4⟩
  · exact .inl ⟨q0, by rw [hk r.L18 ((q2 _).2 (.inr (.inr (.inr (.inr (.inr rfl)))))) (by omega)]; exact q1, q2⟩
  · exact .inr ⟨id, q0, q1, by rw [hk r.L18 ((q4 _).2 (.inl (.inr (.inr (.inr (.inr (.inr rfl))))))) (by omega)]; exact q2, by rw [hk id ((q4 _).2 (.inr rfl)) (by omega)]; exact q3, q4⟩
theorem flat_exs (l : List Ex') : (exsC l).flatten.length = l.length * 4 := by
  rw [flat_len (sz := 4) (exsC l) (fun r hr => (exsC_row l r hr).1), exsC_len]
theorem setCells_end (xs zs ys : List AV) (n : Nat) (hn : n = xs.length) (hz : zs.length = ys.length) : setCells (xs ++ zs) n ys = xs ++ ys := by
  subst hn
  unfold setCells
  simp [hz]
/- Releases: the callback of level.Released, walked. -/
set_option maxHeartbeats 40000000 in
theorem rel1_run (r : RId) (low : Int) (at_ st : List Int) (m lo : Nat) (hlo : lo ≤ r.L17) (hat : at_.length ≤ 1000) (k b : Nat) (x : Bool × List Ex') (H : Heap) (O : Nat → Prop) (id : Nat) (lv : List Int) (ar n nn op : Int) (a0 : Ex') (t e : List Sm') (hop : op = 3)
    (h1 : x.2.length + (b + 1) ≤ 90000) (hfx : r.fix low at_ st H) (h17 : H[r.L17]? = some (.cells 4 [.bool x.1])) (hm : r.more x.2 H O) (hg : H[id]? = some (.cells 3 (ic lv))) (hnO : ¬ O id) (hlv : lv.length = m) (hlvB : lvsB lv)
    (hk : exK a0 + 30000 ≤ k) (hk2 : exK a0 ≤ 6200) (hbe : exB a0) (hrd : rdE m a0) (hloH : lo ≤ H.length) :
    ∃ (h' : Heap) (O' : Nat → Prop), call Tryz.prog cfg (k + 1) lo (.func 33) ([.int .i64 n, .agg (smC (.mk op nn [a0] t e)), .sl id 1 0 m, .int .i64 ar] ++ (seeR r low at_ st).caps) H = some (.tup [], h') ∧
      ((updR low at_ st x n (.mk op nn [a0] t e) lv ar).2.length + b ≤ 90000 ∧ r.fix low at_ st h' ∧ h'[r.L17]? = some (.cells 4 [.bool (updR low at_ st x n (.mk op nn [a0] t e) lv ar).1]) ∧ r.more (updR low at_ st x n (.mk op nn [a0] t e) lv ar).2 h' O') ∧ Fr H O h' O' := by
  subst hop
  obtain ⟨f1, f2, f3, f4⟩ := hfx
  have o1 := r.o1
  have o2 := r.o2
  have o3 := r.o3
  have o4 := r.o4
  have o5 := r.o5
  have hu : updR low at_ st x n (.mk 3 nn [a0] t e) lv ar = if inB at_ n = true then (x.1 && (withinB ar nn && !rpE st a0), if withinB nn low = true then x.2 ++ [eqX a0] else x.2) else (x.1 && withinB (orI ar (ofE lv a0)) nn, x.2) := rfl
  have hCt := fun L => contI_run at_ n (k - 1) (by omega) (by omega) H L
  rw [show k - 1 + 1 = k by omega] at hCt
  have hCt := hCt lo
  -- what is left of the heap when let is written
  have keepL : ∀ (bl : Bool), (H.set r.L17 (.cells 4 [.bool bl]))[r.L17]? = some (.cells 4 [.bool bl]) := fun bl => List.getElem?_set_self (cells_lt h17)
  have hset : ∀ (bl : Bool), Fr H O (H.set r.L17 (.cells 4 [.bool bl])) O ∧ r.fix low at_ st (H.set r.L17 (.cells 4 [.bool bl])) ∧ r.more x.2 (H.set r.L17 (.cells 4 [.bool bl])) O := fun bl => by
    refine ⟨⟨by simp, fun i hi ho => ?_, fun i hi => .inl hi⟩, RId.fix_keep ⟨f1, f2, f3, f4⟩ fun i hi => ?_, RId.more_keep hm fun i hi hne => ?_⟩
    · rw [List.getElem?_set_ne (fun q => ho (by rw [← q]; exact RId.more_base hm (.inr (.inr (.inr (.inr (.inl rfl)))))))]
    · rw [List.getElem?_set_ne (by omega)]
    · rw [List.getElem?_set_ne (fun q => hne q.symm)]
  obtain ⟨bl, xs⟩ := x
  dsimp only at h1 h17 hm hset hu
  cases hin : inB at_ n with
  | false =>
    rw [hin] at hCt
    rw [hu, if_neg (by rw [hin]; simp)]
    have hO := ofV_run hg a0 (k - 1) (by omega) hbe (by rw [hlv]; exact hrd) H.length
    rw [show k - 1 + 1 = k by omega, hlv] at hO
    have hW := within_run (orI ar (ofE lv a0)) nn (k - 1) lo H
    rw [show k - 1 + 1 = k by omega] at hW
    obtain ⟨s1, s2, s3⟩ := hset (bl && withinB (orI ar (ofE lv a0)) nn)
    have s4 := keepL (bl && withinB (orI ar (ofE lv a0)) nn)
    refine ⟨_, O, ?_, ⟨by dsimp only; omega, s2, s4, s3⟩, s1⟩
    clear hset keepL s1 s2 s3 s4 hu
    obtain ⟨ao, an, ac, az⟩ := a0
    cases bl with
    | false =>
      apply W_call Tryz.func33 rfl (Nat.le_of_ble_eq_true rfl) rfl rfl
      (repeat' (first | apply W_seq | refine W_true rfl rfl ?_ | refine W_false rfl rfl ?_ | refine W_region (id := 0) rfl rfl ?_ | (refine W_ops (id := 1) rfl ?_ <;> refine T_ch 2 rfl ?_ <;> (refine T_go rfl ?_; refine G_false rfl rfl ?_) <;> apply T_nil) | (refine W_ops (id := 2) rfl ?_ <;> (refine T_go rfl ?_; refine G_op (O_loadH rfl rfl rfl ‹_› rfl rfl) ?_) <;> refine T_ch 1 rfl ?_ <;> (refine T_go rfl ?_; refine G_false (O_call rfl rfl rfl rfl ‹_›) rfl ?_) <;> refine T_ch 1 rfl ?_ <;> apply T_nil) | (refine W_dops (id := 3) (bs := [0, 1, 3, 3, 3, 19, 51, 115, 251, 511, 3, 1027, 4095, 8191, 16383]) rfl (by decide +kernel) (by decide +kernel) ?_ <;> (refine U_go rfl ?_; refine H_false (by decide +kernel) (O_loadH rfl rfl rfl ‹_› rfl rfl) rfl ?_) <;> (refine U_go rfl ?_; refine H_op (by decide +kernel) rfl ?_) <;> refine U_skip rfl ?_ <;> refine U_skip rfl ?_ <;> refine U_skip rfl ?_ <;> refine U_skip rfl ?_ <;> refine U_skip rfl ?_ <;> refine U_skip rfl ?_ <;> refine U_skip rfl ?_ <;> refine U_skip rfl ?_ <;> refine U_skip rfl ?_ <;> refine U_skip rfl ?_ <;> refine U_skip rfl ?_ <;> (refine U_go rfl ?_; refine H_op (by decide +kernel) rfl ?_) <;> (refine U_go rfl ?_; refine H_op (by decide +kernel) (O_storeH rfl rfl rfl rfl ‹_› ⟨by assumption, rfl, rfl, Nat.le_of_ble_eq_true rfl⟩) ?_) <;> apply U_nil) | apply W_skip | apply W_ret))
      all_goals exact ⟨.inl rfl, rfl⟩
    | true =>
      cases hw : withinB (orI ar (ofE lv (.mk ao an ac az))) nn <;> rw [hw] at hW <;>
      · apply W_call Tryz.func33 rfl (Nat.le_of_ble_eq_true rfl) rfl rfl
        (repeat' (first | apply W_seq | refine W_true rfl rfl ?_ | refine W_false rfl rfl ?_ | refine W_region (id := 0) rfl rfl ?_ | (refine W_ops (id := 1) rfl ?_ <;> refine T_ch 2 rfl ?_ <;> (refine T_go rfl ?_; refine G_false rfl rfl ?_) <;> apply T_nil) | (refine W_ops (id := 2) rfl ?_ <;> (refine T_go rfl ?_; refine G_op (O_loadH rfl rfl rfl ‹_› rfl rfl) ?_) <;> refine T_ch 1 rfl ?_ <;> (refine T_go rfl ?_; refine G_false (O_call rfl rfl rfl rfl ‹_›) rfl ?_) <;> refine T_ch 1 rfl ?_ <;> apply T_nil) | (refine W_dops (id := 3) (bs := [0, 1, 3, 3, 3, 19, 51, 115, 251, 511, 3, 1027, 4095, 8191, 16383]) rfl (by decide +kernel) (by decide +kernel) ?_ <;> (refine U_go rfl ?_; refine H_true (by decide +kernel) (O_loadH rfl rfl rfl ‹_› rfl rfl) rfl ?_) <;> (refine U_go rfl ?_; refine H_op (by decide +kernel) rfl ?_) <;> (refine U_go rfl ?_; refine H_free (by decide +kernel) rfl rfl rfl rfl rfl ?_) <;> (refine U_go rfl ?_; refine H_free (by decide +kernel) rfl rfl rfl rfl rfl ?_) <;> (refine U_go rfl ?_; refine H_free (by decide +kernel) rfl rfl rfl rfl rfl ?_) <;> (refine U_go rfl ?_; refine H_free (by decide +kernel) rfl rfl rfl rfl rfl ?_) <;> (refine U_go rfl ?_; refine H_free (by decide +kernel) rfl rfl rfl rfl rfl ?_) <;> (refine U_go rfl ?_; refine H_free (by decide +kernel) rfl rfl rfl rfl rfl ?_) <;> (refine U_go rfl ?_; refine H_free (by decide +kernel) rfl (O_call rfl rfl rfl rfl ‹_›) rfl rfl rfl ?_) <;> (refine U_go rfl ?_; refine H_free (by decide +kernel) rfl rfl rfl rfl rfl ?_) <;> (refine U_go rfl ?_; refine H_free (by decide +kernel) rfl rfl rfl rfl rfl ?_) <;> (refine U_go rfl ?_; refine H_free (by decide +kernel) rfl rfl rfl rfl rfl ?_) <;> (refine U_go rfl ?_; first | refine H_true (by decide +kernel) (O_call rfl rfl rfl rfl ‹_›) rfl ?_ | refine H_false (by decide +kernel) (O_call rfl rfl rfl rfl ‹_›) rfl ?_) <;> (refine U_go rfl ?_; refine H_op (by decide +kernel) rfl ?_) <;> (refine U_go rfl ?_; refine H_op (by decide +kernel) (O_storeH rfl rfl rfl rfl ‹_› ⟨by assumption, rfl, rfl, Nat.le_of_ble_eq_true rfl⟩) ?_) <;> apply U_nil) | apply W_skip | apply W_ret))
        all_goals exact ⟨.inl rfl, rfl⟩
  | true =>
    rw [hin] at hCt
    rw [hu, if_pos hin]
    have hW := within_run ar nn (k - 1) lo H
    have hRd := readsP_run st r.iS k a0 (by omega) hbe H lo f3
    rw [show k - 1 + 1 = k by omega] at hW
    obtain ⟨s1, s2, s3⟩ := hset (bl && (withinB ar nn && !rpE st a0))
    have s4 := keepL (bl && (withinB ar nn && !rpE st a0))
    generalize hbl : (bl && (withinB ar nn && !rpE st a0)) = bl' at s1 s2 s3 s4 ⊢
    have hW2 := within_run nn low (k - 1) lo (H.set r.L17 (.cells 4 [.bool bl']))
    rw [show k - 1 + 1 = k by omega] at hW2
    have c4 : (H.set r.L17 (.cells 4 [.bool bl']))[r.i4]? = some (.cells 3 [.int .i64 low]) := s2.1
    have l17 := cells_lt h17
    have hbase17 : ¬ r.L18 = r.L17 := by omega
    have h4 : (bl = false ∧ bl' = false) ∨ (bl = true ∧ withinB ar nn = false ∧ bl' = false) ∨ (bl = true ∧ withinB ar nn = true ∧ rpE st a0 = true ∧ bl' = false) ∨ (bl = true ∧ withinB ar nn = true ∧ rpE st a0 = false ∧ bl' = true) := by
      rw [← hbl]
      cases bl <;> cases withinB ar nn <;> cases rpE st a0 <;> simp
    clear hbl
    obtain ⟨ao, an, ac, az⟩ := a0
    have hHl : (H.set r.L17 (.cells 4 [.bool bl'])).length = H.length := by simp
    cases hw2 : withinB nn low with
    | false =>
      rw [hw2] at hW2
      rw [if_neg (by simp)]
      refine ⟨_, O, ?_, ⟨by dsimp only; omega, s2, s4, s3⟩, s1⟩
      clear hset keepL s1 s2 s3 s4 hu
      rcases h4 with ⟨e1, e2⟩ | ⟨e1, e3, e2⟩ | ⟨e1, e3, e4, e2⟩ | ⟨e1, e3, e4, e2⟩
      all_goals (subst e1; subst e2; try rw [e3] at hW; try rw [e4] at hRd)
      all_goals
        apply W_call Tryz.func33 rfl (Nat.le_of_ble_eq_true rfl) rfl rfl
        (repeat' (first | apply W_seq | refine W_false rfl rfl ?_ | refine W_region (id := 0) rfl rfl ?_ | (refine W_ops (id := 1) rfl ?_ <;> refine T_ch 2 rfl ?_ <;> (refine T_go rfl ?_; refine G_false rfl rfl ?_) <;> apply T_nil) | (refine W_ops (id := 2) rfl ?_ <;> (refine T_go rfl ?_; refine G_op (O_loadH rfl rfl rfl ‹_› rfl rfl) ?_) <;> refine T_ch 1 rfl ?_ <;> (refine T_go rfl ?_; refine G_true (O_call rfl rfl rfl rfl ‹_›) rfl ?_) <;> refine T_ch 1 rfl ?_ <;> apply T_nil) | (refine W_dops (id := 4) (bs := [0, 1, 3, 3, 11, 31, 63, 127, 255, 511, 1023, 2047, 255, 8191, 16383, 32767, 65535]) rfl (by decide +kernel) (by decide +kernel) ?_ <;> (refine U_go rfl ?_; first | refine H_true (by decide +kernel) (O_loadH rfl rfl rfl ‹_› rfl rfl) rfl ?_ | refine H_false (by decide +kernel) (O_loadH rfl rfl rfl ‹_› rfl rfl) rfl ?_) <;> (refine U_go rfl ?_; refine H_op (by decide +kernel) rfl ?_) <;> (first | refine U_skip rfl ?_ | (refine U_go rfl ?_; refine H_free (by decide +kernel) rfl rfl rfl rfl rfl ?_)) <;> (first | refine U_skip rfl ?_ | (refine U_go rfl ?_; refine H_free (by decide +kernel) rfl rfl rfl rfl rfl ?_)) <;> (first | refine U_skip rfl ?_ | (refine U_go rfl ?_; refine H_free (by decide +kernel) rfl rfl rfl rfl rfl ?_)) <;> (first | refine U_skip rfl ?_ | (refine U_go rfl ?_; first | refine H_true (by decide +kernel) (O_call rfl rfl rfl rfl ‹_›) rfl ?_ | refine H_false (by decide +kernel) (O_call rfl rfl rfl rfl ‹_›) rfl ?_)) <;> (refine U_go rfl ?_; refine H_op (by decide +kernel) rfl ?_) <;> (refine U_go rfl ?_; refine H_op (by decide +kernel) rfl ?_) <;> (first | refine U_skip rfl ?_ | (refine U_go rfl ?_; refine H_free (by decide +kernel) rfl rfl rfl rfl rfl ?_)) <;> (first | refine U_skip rfl ?_ | (refine U_go rfl ?_; refine H_free (by decide +kernel) rfl rfl rfl rfl rfl ?_)) <;> (first | refine U_skip rfl ?_ | (refine U_go rfl ?_; refine H_free (by decide +kernel) rfl rfl rfl rfl rfl ?_)) <;> (first | refine U_skip rfl ?_ | (refine U_go rfl ?_; refine H_free (by decide +kernel) rfl rfl rfl rfl rfl ?_)) <;> (first | refine U_skip rfl ?_ | (refine U_go rfl ?_; refine H_free (by decide +kernel) rfl (O_loadH rfl rfl rfl ‹_› rfl rfl) rfl rfl rfl ?_)) <;> (first | refine U_skip rfl ?_ | (refine U_go rfl ?_; first | refine H_true (by decide +kernel) (O_call rfl rfl rfl rfl ‹_›) rfl ?_ | refine H_false (by decide +kernel) (O_call rfl rfl rfl rfl ‹_›) rfl ?_)) <;> (first | refine U_skip rfl ?_ | (refine U_go rfl ?_; refine H_op (by decide +kernel) rfl ?_)) <;> (refine U_go rfl ?_; refine H_op (by decide +kernel) rfl ?_) <;> (refine U_go rfl ?_; refine H_op (by decide +kernel) (O_storeH rfl rfl rfl rfl ‹_› ⟨by assumption, rfl, rfl, Nat.le_of_ble_eq_true rfl⟩) ?_) <;> apply U_nil) | (refine W_ops (id := 5) rfl ?_ <;> refine T_ch 2 rfl ?_ <;> (refine T_go rfl ?_; refine G_op (O_loadH rfl rfl rfl ‹_› rfl rfl) ?_) <;> (refine T_go rfl ?_; refine G_false (O_call rfl rfl rfl rfl ‹_›) rfl ?_) <;> apply T_nil) | apply W_skip))
        all_goals exact ⟨.inr rfl, rfl⟩
    | true =>
      rw [hw2] at hW2
      rw [if_pos rfl]
      have hI := fun c => inCopy_run c k (.mk ao an ac az) (by omega) (by omega) hbe (H.set r.L17 (.cells 4 [.bool bl'])) (H.set r.L17 (.cells 4 [.bool bl'])).length
      have hI0 := hI 0
      have hI1 := hI 1
      have hEq := equalP_run (k - 1) (H.set r.L17 (.cells 4 [.bool bl'])) (H.set r.L17 (.cells 4 [.bool bl'])).length (cpE 0 (.mk ao an ac az)) (cpE 1 (.mk ao an ac az))
      rw [show k - 1 + 1 = k by omega] at hEq
      have hee : Ex'.mk 13 0 0 [cpE 0 (.mk ao an ac az), cpE 1 (.mk ao an ac az)] = eqX (.mk ao an ac az) := rfl
      rw [hee] at hEq
      have heqC : exC (eqX (.mk ao an ac az)) = [.int .i64 13, .int .i64 0, .int .i64 0, .vs 4 [exC (cpE 0 (.mk ao an ac az)), exC (cpE 1 (.mk ao an ac az))]] := rfl
      generalize hq0 : cpE 0 (.mk ao an ac az) = c0 at hI0 hEq heqC
      generalize hq1 : cpE 1 (.mk ao an ac az) = c1 at hI1 hEq heqC
      generalize eqX (.mk ao an ac az) = E at hEq heqC ⊢
      obtain ⟨c0o, c0n, c0c, c0s⟩ := c0
      obtain ⟨c1o, c1n, c1c, c1s⟩ := c1
      have hE4 : (exC E).length = 4 := by rw [heqC]; rfl
      generalize hH1 : H.set r.L17 (.cells 4 [.bool bl']) = H1 at s1 s2 s3 s4 hW2 c4 hI0 hI1 hEq hHl
      rcases s3 with ⟨q0, q1, q2⟩ | ⟨jd, q0, q1, q2, q3, q4⟩
      · subst q0
        have l18 := cells_lt q1
        have hap : append cfg.tab lo H1 29 .nils (.vs 4 [[.int .i64 0, .int .i64 0, .int .i64 0, .nils]]) = some (.sl H1.length 4 0 1, H1 ++ [.cells 31 [.int .i64 0, .int .i64 0, .int .i64 0, .nils]]) := rfl
        have g1 : (H1 ++ [HObj.cells 31 [.int .i64 0, .int .i64 0, .int .i64 0, .nils]])[H1.length]? = some (.cells 31 [.int .i64 0, .int .i64 0, .int .i64 0, .nils]) := by simp
        have g2 : ((H1 ++ [HObj.cells 31 [.int .i64 0, .int .i64 0, .int .i64 0, .nils]]).set H1.length (.cells 31 (setCells [.int .i64 0, .int .i64 0, .int .i64 0, .nils] (0 + 0 * 4) (exC E))))[r.L18]? = some (.cells 29 [.nils]) := by
          rw [List.getElem?_set_ne (by omega), List.getElem?_append_left l18]; exact q1
        refine ⟨((H1 ++ [HObj.cells 31 [.int .i64 0, .int .i64 0, .int .i64 0, .nils]]).set H1.length (.cells 31 (setCells [.int .i64 0, .int .i64 0, .int .i64 0, .nils] (0 + 0 * 4) (exC E)))).set r.L18 (.cells 29 [.sl H1.length 4 0 1]), fun i => r.base i ∨ i = H1.length, ?_, ⟨by simp at h1 ⊢; omega, ?_, ?_, ?_⟩, ?_⟩
        · have hloJ : lo ≤ H1.length := by omega
          have hloL : lo ≤ r.L18 := by omega
          have hne : H1.length ≠ r.L18 := by omega
          clear hset keepL s1 s2 s4 hu
          rcases h4 with ⟨e1, e2⟩ | ⟨e1, e3, e2⟩ | ⟨e1, e3, e4, e2⟩ | ⟨e1, e3, e4, e2⟩
          all_goals (subst e1; subst e2; subst hH1; try rw [e3] at hW; try rw [e4] at hRd)
          all_goals
            apply W_call Tryz.func33 rfl (Nat.le_of_ble_eq_true rfl) rfl rfl
            (repeat' (first | apply W_seq | refine W_true rfl rfl ?_ | refine W_false rfl rfl ?_ | refine W_region (id := 0) rfl rfl ?_ | (refine W_ops (id := 1) rfl ?_ <;> refine T_ch 2 rfl ?_ <;> (refine T_go rfl ?_; refine G_false rfl rfl ?_) <;> apply T_nil) | (refine W_ops (id := 2) rfl ?_ <;> (refine T_go rfl ?_; refine G_op (O_loadH rfl rfl rfl ‹_› rfl rfl) ?_) <;> refine T_ch 1 rfl ?_ <;> (refine T_go rfl ?_; refine G_true (O_call rfl rfl rfl rfl ‹_›) rfl ?_) <;> refine T_ch 1 rfl ?_ <;> apply T_nil) | (refine W_dops (id := 4) (bs := [0, 1, 3, 3, 11, 31, 63, 127, 255, 511, 1023, 2047, 255, 8191, 16383, 32767, 65535]) rfl (by decide +kernel) (by decide +kernel) ?_ <;> (refine U_go rfl ?_; first | refine H_true (by decide +kernel) (O_loadH rfl rfl rfl ‹_› rfl rfl) rfl ?_ | refine H_false (by decide +kernel) (O_loadH rfl rfl rfl ‹_› rfl rfl) rfl ?_) <;> (refine U_go rfl ?_; refine H_op (by decide +kernel) rfl ?_) <;> (first | refine U_skip rfl ?_ | (refine U_go rfl ?_; refine H_free (by decide +kernel) rfl rfl rfl rfl rfl ?_)) <;> (first | refine U_skip rfl ?_ | (refine U_go rfl ?_; refine H_free (by decide +kernel) rfl rfl rfl rfl rfl ?_)) <;> (first | refine U_skip rfl ?_ | (refine U_go rfl ?_; refine H_free (by decide +kernel) rfl rfl rfl rfl rfl ?_)) <;> (first | refine U_skip rfl ?_ | (refine U_go rfl ?_; first | refine H_true (by decide +kernel) (O_call rfl rfl rfl rfl ‹_›) rfl ?_ | refine H_false (by decide +kernel) (O_call rfl rfl rfl rfl ‹_›) rfl ?_)) <;> (refine U_go rfl ?_; refine H_op (by decide +kernel) rfl ?_) <;> (refine U_go rfl ?_; refine H_op (by decide +kernel) rfl ?_) <;> (first | refine U_skip rfl ?_ | (refine U_go rfl ?_; refine H_free (by decide +kernel) rfl rfl rfl rfl rfl ?_)) <;> (first | refine U_skip rfl ?_ | (refine U_go rfl ?_; refine H_free (by decide +kernel) rfl rfl rfl rfl rfl ?_)) <;> (first | refine U_skip rfl ?_ | (refine U_go rfl ?_; refine H_free (by decide +kernel) rfl rfl rfl rfl rfl ?_)) <;> (first | refine U_skip rfl ?_ | (refine U_go rfl ?_; refine H_free (by decide +kernel) rfl rfl rfl rfl rfl ?_)) <;> (first | refine U_skip rfl ?_ | (refine U_go rfl ?_; refine H_free (by decide +kernel) rfl (O_loadH rfl rfl rfl ‹_› rfl rfl) rfl rfl rfl ?_)) <;> (first | refine U_skip rfl ?_ | (refine U_go rfl ?_; first | refine H_true (by decide +kernel) (O_call rfl rfl rfl rfl ‹_›) rfl ?_ | refine H_false (by decide +kernel) (O_call rfl rfl rfl rfl ‹_›) rfl ?_)) <;> (first | refine U_skip rfl ?_ | (refine U_go rfl ?_; refine H_op (by decide +kernel) rfl ?_)) <;> (refine U_go rfl ?_; refine H_op (by decide +kernel) rfl ?_) <;> (refine U_go rfl ?_; refine H_op (by decide +kernel) (O_storeH rfl rfl rfl rfl ‹_› ⟨by assumption, rfl, rfl, Nat.le_of_ble_eq_true rfl⟩) ?_) <;> apply U_nil) | (refine W_ops (id := 5) rfl ?_ <;> refine T_ch 2 rfl ?_ <;> (refine T_go rfl ?_; refine G_op (O_loadH rfl rfl rfl ‹_› rfl rfl) ?_) <;> (refine T_go rfl ?_; refine G_true (O_call rfl rfl rfl rfl ‹_›) rfl ?_) <;> apply T_nil) | (refine W_tail (id := 6) (bs := [0, 0, 2, 6, 14, 30, 0, 64, 192, 448, 1022, 2046, 1, 0, 16383]) rfl (by decide +kernel) rfl rfl rfl (by decide +kernel) ?_ <;> (refine U_go rfl ?_; refine H_free (by decide +kernel) rfl (O_loadH rfl rfl rfl ‹_› rfl rfl) rfl rfl rfl ?_) <;> (refine U_go rfl ?_; refine H_free (by decide +kernel) rfl rfl rfl rfl rfl ?_) <;> (refine U_go rfl ?_; refine H_free (by decide +kernel) rfl rfl rfl rfl rfl ?_) <;> (refine U_go rfl ?_; refine H_free (by decide +kernel) rfl rfl rfl rfl rfl ?_) <;> (refine U_go rfl ?_; refine H_free (by decide +kernel) rfl rfl rfl rfl rfl ?_) <;> (refine U_go rfl ?_; refine H_free (by decide +kernel) rfl (O_call rfl rfl rfl rfl ‹_›) rfl rfl rfl ?_) <;> (refine U_go rfl ?_; refine H_free (by decide +kernel) rfl rfl rfl rfl rfl ?_) <;> (refine U_go rfl ?_; refine H_free (by decide +kernel) rfl rfl rfl rfl rfl ?_) <;> (refine U_go rfl ?_; refine H_free (by decide +kernel) rfl rfl rfl rfl rfl ?_) <;> (refine U_go rfl ?_; refine H_free (by decide +kernel) rfl rfl rfl rfl rfl ?_) <;> (refine U_go rfl ?_; refine H_free (by decide +kernel) rfl (O_call rfl rfl rfl rfl ‹_›) rfl rfl rfl ?_) <;> (refine U_go rfl ?_; refine H_free (by decide +kernel) rfl (O_call rfl rfl rfl rfl ‹_›) rfl rfl rfl ?_) <;> (refine U_go rfl ?_; refine H_free (by decide +kernel) rfl rfl rfl rfl rfl ?_) <;> (refine U_go rfl ?_; refine H_free (by decide +kernel) rfl rfl rfl rfl rfl ?_) <;> (refine U_go rfl ?_; refine H_op (by decide +kernel) (O_append rfl rfl rfl rfl rfl ‹_›) ?_) <;> apply U_nil) | apply W_skip))
            refine X_tail (O_indexH (j := 0) rfl rfl rfl rfl rfl g1 (by omega) rfl) ?_ (O_storeH rfl rfl rfl rfl g1 ⟨hloJ, rfl, hE4, Nat.le_of_ble_eq_true rfl⟩) (O_storeH rfl rfl rfl rfl g2 ⟨hloL, rfl, rfl, Nat.le_of_ble_eq_true rfl⟩) ?_
            · show (_ != _ && _ != _) = true
              simp only [Bool.and_self, bne_iff_ne, ne_eq]
              exact hne
            · exact ⟨.inr rfl, rfl⟩
        · refine RId.fix_keep s2 fun i hi => ?_
          have : i < r.L17 := by omega
          rw [List.getElem?_set_ne (by omega), List.getElem?_set_ne (by omega), List.getElem?_append_left (by omega)]
        · rw [List.getElem?_set_ne (by omega), List.getElem?_set_ne (by omega), List.getElem?_append_left (by omega)]; exact s4
        · refine .inr ⟨H1.length, l18, by simp, List.getElem?_set_self (by simp; omega), ?_, fun i => Iff.rfl⟩
          rw [List.getElem?_set_ne (by omega), List.getElem?_set_self (by simp)]
          have := setCells_end [] [.int .i64 0, .int .i64 0, .int .i64 0, .nils] (exC E) 0 rfl (by rw [hE4]; rfl)
          rw [List.nil_append] at this
          rw [show 0 + 0 * 4 = 0 from rfl, this]
          simp [exsC]
        · refine ⟨by simp; omega, fun i hi ho => ?_, fun i hi => ?_⟩
          · have n1 : ¬ r.base i := fun e => ho ((q2 i).2 e)
            have n2 : i ≠ r.L18 := fun e => n1 (.inr (.inr (.inr (.inr (.inr e)))))
            rw [List.getElem?_set_ne (fun q => n2 q.symm), List.getElem?_set_ne (by omega), List.getElem?_append_left (by omega)]
            exact s1.2.1 i hi ho
          · rcases hi with e | e
            · exact .inl ((q2 i).2 e)
            · exact .inr (by omega)
      · have l18 := cells_lt q2
        have ljd := cells_lt q3
        have hfl := flat_exs xs
        have hxsl : xs.length < 90000 := by omega
        have hap : append cfg.tab lo H1 29 (.sl jd 4 0 xs.length) (.vs 4 [[.int .i64 0, .int .i64 0, .int .i64 0, .nils]]) = some (.sl jd 4 0 (xs.length + 1), H1.set jd (.cells 31 ((exsC xs).flatten ++ [.int .i64 0, .int .i64 0, .int .i64 0, .nils]))) := by
          have := append_slV (tab := cfg.tab) (lo := lo) (h := H1) (t := 29) (e := 31) (id := jd) (len := xs.length) (xs := (exsC xs).flatten) rfl rfl q3 (by omega) (by rw [hfl]) (by decide) [[.int .i64 0, .int .i64 0, .int .i64 0, .nils]] (by simp only [room, List.length_cons, List.length_nil]; show (xs.length + (0 + 1)) * 48 ≤ _; omega) (by simp only [room, List.length_cons, List.length_nil]; omega)
          rw [List.flatten_cons, List.flatten_nil, List.append_nil] at this
          exact this
        have hx4 : ((exsC xs).flatten ++ ([.int .i64 0, .int .i64 0, .int .i64 0, .nils] : List AV)).length = (xs.length + 1) * 4 := by rw [List.length_append, hfl]; simp; omega
        have g1 : (H1.set jd (.cells 31 ((exsC xs).flatten ++ [.int .i64 0, .int .i64 0, .int .i64 0, .nils])))[jd]? = some (.cells 31 ((exsC xs).flatten ++ [.int .i64 0, .int .i64 0, .int .i64 0, .nils])) := List.getElem?_set_self ljd
        have g2 : ((H1.set jd (.cells 31 ((exsC xs).flatten ++ [.int .i64 0, .int .i64 0, .int .i64 0, .nils]))).set jd (.cells 31 (setCells ((exsC xs).flatten ++ [.int .i64 0, .int .i64 0, .int .i64 0, .nils]) (0 + xs.length * 4) (exC E))))[r.L18]? = some (.cells 29 [.sl jd 4 0 xs.length]) := by
          rw [List.getElem?_set_ne (by omega), List.getElem?_set_ne (by omega)]; exact q2
        refine ⟨((H1.set jd (.cells 31 ((exsC xs).flatten ++ [.int .i64 0, .int .i64 0, .int .i64 0, .nils]))).set jd (.cells 31 (setCells ((exsC xs).flatten ++ [.int .i64 0, .int .i64 0, .int .i64 0, .nils]) (0 + xs.length * 4) (exC E)))).set r.L18 (.cells 29 [.sl jd 4 0 (xs.length + 1)]), O, ?_, ⟨by simp at h1 ⊢; omega, ?_, ?_, ?_⟩, ?_⟩
        · have hloJ : lo ≤ jd := by omega
          have hloL : lo ≤ r.L18 := by omega
          have hne : jd ≠ r.L18 := by omega
          clear hset keepL s1 s2 s4 hu
          rcases h4 with ⟨e1, e2⟩ | ⟨e1, e3, e2⟩ | ⟨e1, e3, e4, e2⟩ | ⟨e1, e3, e4, e2⟩
          all_goals (subst e1; subst e2; subst hH1; try rw [e3] at hW; try rw [e4] at hRd)
          all_goals
            apply W_call Tryz.func33 rfl (Nat.le_of_ble_eq_true rfl) rfl rfl
            (repeat' (first | apply W_seq | refine W_true rfl rfl ?_ | refine W_false rfl rfl ?_ | refine W_region (id := 0) rfl rfl ?_ | (refine W_ops (id := 1) rfl ?_ <;> refine T_ch 2 rfl ?_ <;> (refine T_go rfl ?_; refine G_false rfl rfl ?_) <;> apply T_nil) | (refine W_ops (id := 2) rfl ?_ <;> (refine T_go rfl ?_; refine G_op (O_loadH rfl rfl rfl ‹_› rfl rfl) ?_) <;> refine T_ch 1 rfl ?_ <;> (refine T_go rfl ?_; refine G_true (O_call rfl rfl rfl rfl ‹_›) rfl ?_) <;> refine T_ch 1 rfl ?_ <;> apply T_nil) | (refine W_dops (id := 4) (bs := [0, 1, 3, 3, 11, 31, 63, 127, 255, 511, 1023, 2047, 255, 8191, 16383, 32767, 65535]) rfl (by decide +kernel) (by decide +kernel) ?_ <;> (refine U_go rfl ?_; first | refine H_true (by decide +kernel) (O_loadH rfl rfl rfl ‹_› rfl rfl) rfl ?_ | refine H_false (by decide +kernel) (O_loadH rfl rfl rfl ‹_› rfl rfl) rfl ?_) <;> (refine U_go rfl ?_; refine H_op (by decide +kernel) rfl ?_) <;> (first | refine U_skip rfl ?_ | (refine U_go rfl ?_; refine H_free (by decide +kernel) rfl rfl rfl rfl rfl ?_)) <;> (first | refine U_skip rfl ?_ | (refine U_go rfl ?_; refine H_free (by decide +kernel) rfl rfl rfl rfl rfl ?_)) <;> (first | refine U_skip rfl ?_ | (refine U_go rfl ?_; refine H_free (by decide +kernel) rfl rfl rfl rfl rfl ?_)) <;> (first | refine U_skip rfl ?_ | (refine U_go rfl ?_; first | refine H_true (by decide +kernel) (O_call rfl rfl rfl rfl ‹_›) rfl ?_ | refine H_false (by decide +kernel) (O_call rfl rfl rfl rfl ‹_›) rfl ?_)) <;> (refine U_go rfl ?_; refine H_op (by decide +kernel) rfl ?_) <;> (refine U_go rfl ?_; refine H_op (by decide +kernel) rfl ?_) <;> (first | refine U_skip rfl ?_ | (refine U_go rfl ?_; refine H_free (by decide +kernel) rfl rfl rfl rfl rfl ?_)) <;> (first | refine U_skip rfl ?_ | (refine U_go rfl ?_; refine H_free (by decide +kernel) rfl rfl rfl rfl rfl ?_)) <;> (first | refine U_skip rfl ?_ | (refine U_go rfl ?_; refine H_free (by decide +kernel) rfl rfl rfl rfl rfl ?_)) <;> (first | refine U_skip rfl ?_ | (refine U_go rfl ?_; refine H_free (by decide +kernel) rfl rfl rfl rfl rfl ?_)) <;> (first | refine U_skip rfl ?_ | (refine U_go rfl ?_; refine H_free (by decide +kernel) rfl (O_loadH rfl rfl rfl ‹_› rfl rfl) rfl rfl rfl ?_)) <;> (first | refine U_skip rfl ?_ | (refine U_go rfl ?_; first | refine H_true (by decide +kernel) (O_call rfl rfl rfl rfl ‹_›) rfl ?_ | refine H_false (by decide +kernel) (O_call rfl rfl rfl rfl ‹_›) rfl ?_)) <;> (first | refine U_skip rfl ?_ | (refine U_go rfl ?_; refine H_op (by decide +kernel) rfl ?_)) <;> (refine U_go rfl ?_; refine H_op (by decide +kernel) rfl ?_) <;> (refine U_go rfl ?_; refine H_op (by decide +kernel) (O_storeH rfl rfl rfl rfl ‹_› ⟨by assumption, rfl, rfl, Nat.le_of_ble_eq_true rfl⟩) ?_) <;> apply U_nil) | (refine W_ops (id := 5) rfl ?_ <;> refine T_ch 2 rfl ?_ <;> (refine T_go rfl ?_; refine G_op (O_loadH rfl rfl rfl ‹_› rfl rfl) ?_) <;> (refine T_go rfl ?_; refine G_true (O_call rfl rfl rfl rfl ‹_›) rfl ?_) <;> apply T_nil) | (refine W_tail (id := 6) (bs := [0, 0, 2, 6, 14, 30, 0, 64, 192, 448, 1022, 2046, 1, 0, 16383]) rfl (by decide +kernel) rfl rfl rfl (by decide +kernel) ?_ <;> (refine U_go rfl ?_; refine H_free (by decide +kernel) rfl (O_loadH rfl rfl rfl ‹_› rfl rfl) rfl rfl rfl ?_) <;> (refine U_go rfl ?_; refine H_free (by decide +kernel) rfl rfl rfl rfl rfl ?_) <;> (refine U_go rfl ?_; refine H_free (by decide +kernel) rfl rfl rfl rfl rfl ?_) <;> (refine U_go rfl ?_; refine H_free (by decide +kernel) rfl rfl rfl rfl rfl ?_) <;> (refine U_go rfl ?_; refine H_free (by decide +kernel) rfl rfl rfl rfl rfl ?_) <;> (refine U_go rfl ?_; refine H_free (by decide +kernel) rfl (O_call rfl rfl rfl rfl ‹_›) rfl rfl rfl ?_) <;> (refine U_go rfl ?_; refine H_free (by decide +kernel) rfl rfl rfl rfl rfl ?_) <;> (refine U_go rfl ?_; refine H_free (by decide +kernel) rfl rfl rfl rfl rfl ?_) <;> (refine U_go rfl ?_; refine H_free (by decide +kernel) rfl rfl rfl rfl rfl ?_) <;> (refine U_go rfl ?_; refine H_free (by decide +kernel) rfl rfl rfl rfl rfl ?_) <;> (refine U_go rfl ?_; refine H_free (by decide +kernel) rfl (O_call rfl rfl rfl rfl ‹_›) rfl rfl rfl ?_) <;> (refine U_go rfl ?_; refine H_free (by decide +kernel) rfl (O_call rfl rfl rfl rfl ‹_›) rfl rfl rfl ?_) <;> (refine U_go rfl ?_; refine H_free (by decide +kernel) rfl rfl rfl rfl rfl ?_) <;> (refine U_go rfl ?_; refine H_free (by decide +kernel) rfl rfl rfl rfl rfl ?_) <;> (refine U_go rfl ?_; refine H_op (by decide +kernel) (O_append rfl rfl rfl rfl rfl ‹_›) ?_) <;> apply U_nil) | apply W_skip))
            refine X_tail (O_indexH (j := xs.length) rfl rfl rfl rfl rfl g1 (by omega) (by rw [hx4]; show 0 + (xs.length + 1) * 4 = _; omega)) ?_ (O_storeH rfl rfl rfl rfl g1 ⟨hloJ, rfl, hE4, by rw [hx4]; show 0 + xs.length * 4 + 4 ≤ _; omega⟩) (O_storeH rfl rfl rfl rfl g2 ⟨hloL, rfl, rfl, Nat.le_of_ble_eq_true rfl⟩) ?_
            · show (_ != _ && _ != _) = true
              simp only [Bool.and_self, bne_iff_ne, ne_eq]
              exact hne
            · exact ⟨.inr rfl, rfl⟩
        · refine RId.fix_keep s2 fun i hi => ?_
          have : i < r.L17 := by omega
          rw [List.getElem?_set_ne (by omega), List.getElem?_set_ne (by omega), List.getElem?_set_ne (by omega)]
        · rw [List.getElem?_set_ne (by omega), List.getElem?_set_ne (by omega), List.getElem?_set_ne (by omega)]; exact s4
        · refine .inr ⟨jd, q0, by simp, by rw [List.getElem?_set_self (by simpa using l18)]; simp, ?_, q4⟩
          rw [List.getElem?_set_ne (by omega), List.getElem?_set_self (by simpa using ljd)]
          have := setCells_end (exsC xs).flatten [.int .i64 0, .int .i64 0, .int .i64 0, .nils] (exC E) (xs.length * 4) (by rw [hfl]) (by rw [hE4]; rfl)
          rw [Nat.zero_add, this]
          simp [exsC_mp]
        · refine ⟨by simp; omega, fun i hi ho => ?_, fun i hi => .inl hi⟩
          have n1 : ¬ r.base i := fun e => ho ((q4 i).2 (.inl e))
          have n2 : i ≠ r.L18 := fun e => n1 (.inr (.inr (.inr (.inr (.inr e)))))
          have n3 : i ≠ jd := fun e => ho ((q4 i).2 (.inr e))
          rw [List.getElem?_set_ne (fun q => n2 q.symm), List.getElem?_set_ne (fun q => n3 q.symm), List.getElem?_set_ne (fun q => n3 q.symm)]
          exact s1.2.1 i hi ho
/- Releases: level.claim with more to be joined. -/
def preE (vs : List Vr') (low : Int) (l : List Int) (xs : List Ex') : Ex' := xs.foldl bothE (halfE vs low l)
def clmM (w : Int) (vs : List Vr') (low : Int) (l1 l2 : List Int) (xs : List Ex') : List AV × Int :=
  if checkI w vs 2 (preE vs low l1 xs) != 0 || checkI w vs 2 (halfE vs low l2) != 0 then (clC 0 (.mk 0 0 0 []) (.mk 0 0 0 []) 0 0, 2)
  else (clC 2 (preE vs low l1 xs) (halfE vs low l2) low 1, 0)
theorem part_exs : ∀ (xs : List Ex') (i : Nat) (x : Ex'), xs[i]? = some x → ((exsC xs).flatten.drop (i * 4)).take 4 = exC x
  | [], i, x, h => by simp at h
  | y :: xs, 0, x, h => by
    simp at h
    subst h
    obtain ⟨o, n, c, l⟩ := y
    simp [exsC, exC]
  | y :: xs, i + 1, x, h => by
    simp at h
    have ih := part_exs xs i x h
    obtain ⟨o, n, c, l⟩ := y
    rw [exsC, List.flatten_cons, show (i + 1) * 4 = (exC (.mk o n c l)).length + i * 4 by rw [exC]; simp; omega, List.drop_append]
    have : (exC (.mk o n c l)).drop ((exC (.mk o n c l)).length + i * 4) = [] := by simp
    rw [this, List.nil_append, Nat.add_sub_cancel_left]
    exact ih
theorem part_exs2 (xs : List Ex') (i : Nat) (x : Ex') (hi : xs[i]? = some x) : Go.Ev.part ⟨.struct [(0, 3), (1, 3), (2, 3), (3, 29)], 4, 48, [.int .i64 0, .int .i64 0, .int .i64 0, .nils]⟩ (exsC xs).flatten (0 + i * 4) = some (.agg (exC x)) := by
  have hl : (exsC xs).flatten.length = xs.length * 4 := by rw [flat_len (sz := 4) (exsC xs) (fun r hr => (exsC_row xs r hr).1), exsC_len]
  have hil : i < xs.length := by
    rcases Nat.lt_or_ge i xs.length with h | h
    · exact h
    · rw [List.getElem?_eq_none h] at hi; cases hi
  show (if 0 + i * 4 + 4 ≤ (exsC xs).flatten.length then some (AV.agg (((exsC xs).flatten.drop (0 + i * 4)).take 4)) else none) = _
  rw [if_pos (by omega), Nat.zero_add]
  exact congrArg (fun z => some (AV.agg z)) (part_exs xs i x hi)
def clS2 (h H : Heap) (id8 : Nat) (w : Int) (vs : List Vr') (body : List Sm') (low : Int) (jd len : Nat) (i : Int) (e : Ex') : St :=
  { env := [(5, .p 5 0), (6, .v (.hp h.length 1 0)), (8, .v (.hp id8 1 0)), (10, .p 10 0), (12, .p 12 0), (13, .p 13 0), (14, .p 14 0), (31, .v (.sl jd 4 0 len)), (32, .v (.int .i64 len)), (33, .v (.int .i64 i))],
    loc := [(5, prC ⟨w, vs, body⟩), (10, [.int .i64 0, .int .i64 0, .int .i64 0, .int .i64 0, .nils, .int .i64 0, .int .i64 0, .int .i64 0, .nils, .int .i64 0, .int .i64 0]), (12, [.int .i64 2, .int .i64 0, .int .i64 0, .int .i64 0, .vs 4 [], .int .i64 0, .int .i64 0, .int .i64 0, .vs 4 [], .int .i64 low, .int .i64 1]), (13, exC (cE 1)), (14, exC e)], heap := H, inRound := false, lo := h.length }
set_option maxHeartbeats 20000000 in
theorem claimM_run (w : Int) (vs : List Vr') (body : List Sm') (low : Int) (l1 l2 : List Int) (xs : List Ex') (jd : Nat) (k : Nat) (hk : vs.length + 5 < k) (hv : vs.length < 1000) (hc : ∀ v, v ∈ vs → v.cells.toNat + 5 < k ∧ v.cells ≤ 1000)
    (hl1 : l1.length = vs.length) (hl2 : l2.length = vs.length) (hK1 : exK (preE vs low l1 xs) + 60 ≤ k) (hK2 : exK (halfE vs low l2) + 60 ≤ k) (hB1 : exB (preE vs low l1 xs)) (hB2 : exB (halfE vs low l2)) (hxl : xs.length < k) (hxl2 : xs.length < 100000) (h : Heap) (lo : Nat)
    (hV : h[jd]? = some (.cells 31 (exsC xs).flatten)) :
    call Tryz.prog cfg (k + 1) lo (.func 40) [.agg (prC ⟨w, vs, body⟩), .int .i64 low, .vs 1 (intsC l1), .vs 1 (intsC l2), .sl jd 4 0 xs.length] h = some (.tup [.agg (clmM w vs low l1 l2 xs).1, .int .i64 (clmM w vs low l1 l2 xs).2], h) := by
  have hat : ∀ (l : List Int), l.length = vs.length → ∀ i, i < vs.length → l[i]? = some (l.getD i 0) := fun l hl i hi => by simp [List.getD_eq_getElem?_getD, List.getElem?_eq_getElem (show i < l.length by omega)]
  let H : Heap := (h ++ [HObj.cells 3 [.int .i64 low]] ++ [HObj.cells 26 [.vs 1 (intsC l1)]]) ++ [HObj.cells 26 [.vs 1 (intsC l2)]]
  have e1 : ∀ js, (H ++ js)[h.length]? = some (.cells 3 [.int .i64 low]) := fun js => by simp [H, List.getElem?_append]
  have e2 : ∀ js, (H ++ js)[(h ++ [HObj.cells 3 [.int .i64 low]]).length]? = some (.cells 26 [.vs 1 (intsC l1)]) := fun js => by simp [H, List.getElem?_append]
  have e3 : ∀ js, (H ++ js)[(h ++ [HObj.cells 3 [.int .i64 low]] ++ [HObj.cells 26 [.vs 1 (intsC l1)]]).length]? = some (.cells 26 [.vs 1 (intsC l2)]) := fun js => by simp [H, List.getElem?_append]
  have hV' : H[jd]? = some (.cells 31 (exsC xs).flatten) := by
    have := cells_lt hV
    simp only [H]
    rw [List.getElem?_append_left (by simp; omega), List.getElem?_append_left (by simp; omega), List.getElem?_append_left this]; exact hV
  have hS1 := lsame_run w vs body (gOf l1 low) 82 [.hp (h ++ [HObj.cells 3 [.int .i64 low]]).length 1 0, .hp h.length 1 0] (k - 1) (by omega) hv (fun v hm => by have := hc v hm; omega) H h.length (fun i hi js => by
    have := claim1_run (H ++ js) _ _ l1 low (e2 js) (e1 js) i _ (hat l1 hl1 i hi) (k - 3) H.length
    rw [show k - 3 + 2 = k - 1 by omega] at this
    exact this)
  have hS2 := lsame_run w vs body (gOf l2 low) 83 [.hp (h ++ [HObj.cells 3 [.int .i64 low]] ++ [HObj.cells 26 [.vs 1 (intsC l1)]]).length 1 0, .hp h.length 1 0] (k - 1) (by omega) hv (fun v hm => by have := hc v hm; omega) H h.length (fun i hi js => by
    have := claim2_run (H ++ js) _ _ l2 low (e3 js) (e1 js) i _ (hat l2 hl2 i hi) (k - 3) H.length
    rw [show k - 3 + 2 = k - 1 by omega] at this
    exact this)
  have hC1 := Check_run w vs 2 _ (k - 1) (by omega) hB1 H h.length
  have hC2 := Check_run w vs 2 _ (k - 1) (by omega) hB2 H h.length
  rw [show k - 1 + 1 = k by omega] at hS1 hS2 hC1 hC2
  have hfl : 0 + xs.length * 4 = (exsC xs).flatten.length := by
    rw [flat_len (sz := 4) (exsC xs) (fun r hr => (exsC_row xs r hr).1), exsC_len]; omega
  unfold clmM
  have hpre : preE vs low l1 xs = xs.foldl bothE ((agF (gOf l1 low) vs 0 none).getD (cE 1)) := rfl
  generalize hP : preE vs low l1 xs = P at *
  unfold halfE at *
  generalize agF (gOf l1 low) vs 0 none = o1 at *
  generalize agF (gOf l2 low) vs 0 none = o2 at *
  generalize hx1 : checkI w vs 2 P = x1 at *
  generalize hx2 : checkI w vs 2 (o2.getD (cE 1)) = x2 at *
  have hH : H = (h ++ [HObj.cells 3 [.int .i64 low]] ++ [HObj.cells 26 [.vs 1 (intsC l1)]]) ++ [HObj.cells 26 [.vs 1 (intsC l2)]] := rfl
  have f1 := e1 []
  rw [List.append_nil] at f1
  clear e1 e2 e3 hat
  clear_value H
  subst hH
  have key : ∀ (e0 : Ex'), xs.foldl bothE e0 = P → o1.getD (cE 1) = e0 → True := fun _ _ _ => trivial
  clear key
  obtain ⟨Po, Pn, Pc, Pl⟩ := P
  cases o1 with
  | none =>
    cases o2 with
    | none =>
      cases hb1 : (x1 != 0) <;> cases hb2 : (x2 != 0) <;>
      · apply W_call Tryz.func40 rfl (Nat.le_of_ble_eq_true rfl) rfl rfl
        (repeat' (first | apply W_seq | refine W_true rfl rfl ?_ | refine W_region (id := 0) rfl rfl ?_ | (refine W_ops (id := 1) rfl ?_ <;> (refine T_go rfl ?_; refine G_op (O_loadH rfl rfl rfl ‹_› rfl rfl) ?_) <;> refine T_ch 3 rfl ?_ <;> apply T_nil) | refine W_region (id := 2) rfl rfl ?_ | (refine W_ops (id := 3) rfl ?_ <;> refine T_ch 2 rfl ?_ <;> (refine T_go rfl ?_; refine G_op (O_call rfl rfl rfl rfl ‹_›) ?_) <;> refine T_ch 2 rfl ?_ <;> (refine T_go rfl ?_; refine G_false rfl rfl ?_) <;> refine T_ch 3 rfl ?_ <;> apply T_nil) | refine W_region (id := 4) rfl rfl ?_ | refine W_region (id := 5) rfl rfl ?_ | refine W_region (id := 6) rfl rfl ?_ | apply W_block))
        apply W_iterI (S := clS2 h (h ++ [HObj.cells 3 [.int .i64 low]] ++ [HObj.cells 26 [.vs 1 (intsC l1)]] ++ [HObj.cells 26 [.vs 1 (intsC l2)]]) (h ++ [HObj.cells 3 [.int .i64 low]] ++ [HObj.cells 26 [.vs 1 (intsC l1)]]).length w vs body low jd xs.length) (l := xs) (a0 := cE 1) (fun _ rest a => rest.foldl bothE a = .mk Po Pn Pc Pl) (by omega) (by omega) rfl hpre.symm
        · intro i x rest a hi hd hil hJ
          have hlt : decide ((i : Int) < (xs.length : Int)) = true := decide_eq_true (by omega)
          have hpt := part_exs2 xs i x hi
          obtain ⟨xo, xn, xc, xl⟩ := x
          obtain ⟨ao, an, ac, al⟩ := a
          (repeat' (first | apply W_seq | refine W_true rfl rfl ?_ | (refine W_ops (id := 7) rfl ?_ <;> (refine T_go rfl ?_; refine G_true rfl (by with_reducible assumption) ?_) <;> apply T_nil) | (refine W_ops (id := 8) rfl ?_ <;> (refine T_go rfl ?_; refine G_op (O_indexH rfl rfl rfl rfl rfl ‹_› ‹_› ‹_›) ?_) <;> (refine T_go rfl ?_; refine G_op (O_loadH rfl rfl rfl ‹_› rfl ‹_›) ?_) <;> refine T_ch 2 rfl ?_ <;> apply T_nil) | refine W_region (id := 9) rfl rfl ?_ | refine W_region (id := 10) rfl rfl ?_ | apply W_skip | apply W_block))
          exact ⟨bothE (.mk ao an ac al) (.mk xo xn xc xl), rfl, hJ⟩
        · intro a hJ
          have ha : a = .mk Po Pn Pc Pl := hJ
          subst ha
          have hlt : decide ((xs.length : Int) < (xs.length : Int)) = false := decide_eq_false (by omega)
          clear hS1
          (repeat' (first | apply W_seq | refine W_true rfl rfl ?_ | refine W_false rfl rfl ?_ | (refine W_ops (id := 7) rfl ?_ <;> (refine T_go rfl ?_; refine G_false rfl (by with_reducible assumption) ?_) <;> apply T_nil) | (refine W_ops (id := 11) rfl ?_ <;> refine T_ch 2 rfl ?_ <;> (refine T_go rfl ?_; refine G_op (O_call rfl rfl rfl rfl ‹_›) ?_) <;> refine T_ch 2 rfl ?_ <;> (refine T_go rfl ?_; refine G_false rfl rfl ?_) <;> refine T_ch 3 rfl ?_ <;> apply T_nil) | refine W_region (id := 12) rfl rfl ?_ | refine W_region (id := 13) rfl rfl ?_ | (refine W_dops (id := 14) (bs := [0, 0, 1, 5, 15, 31]) rfl (by decide +kernel) (by decide +kernel) ?_ <;> (refine U_go rfl ?_; refine H_free (by decide +kernel) rfl rfl rfl rfl rfl ?_) <;> (refine U_go rfl ?_; refine H_free (by decide +kernel) rfl rfl rfl rfl rfl ?_) <;> (refine U_go rfl ?_; refine H_free (by decide +kernel) rfl rfl rfl rfl rfl ?_) <;> (refine U_go rfl ?_; refine H_near (by decide +kernel) rfl rfl ?_) <;> (refine U_go rfl ?_; refine H_op (by decide +kernel) rfl ?_) <;> (refine U_go rfl ?_; refine H_op (by decide +kernel) rfl ?_) <;> apply U_nil) | (refine W_ops (id := 15) rfl ?_ <;> refine T_ch 5 rfl ?_ <;> (refine T_go rfl ?_; refine G_op (O_call rfl rfl rfl rfl ‹_›) ?_) <;> (refine T_go rfl ?_; first | refine G_true rfl (by with_reducible assumption) ?_ | refine G_false rfl (by with_reducible assumption) ?_) <;> refine T_ch 6 rfl ?_ <;> (first | refine T_skip rfl ?_ | (refine T_go rfl ?_; refine G_op (O_call rfl rfl rfl rfl ‹_›) ?_)) <;> (first | refine T_skip rfl ?_ | (refine T_go rfl ?_; first | refine G_true rfl (by with_reducible assumption) ?_ | refine G_false rfl (by with_reducible assumption) ?_)) <;> refine T_ch 1 rfl ?_ <;> apply T_nil) | refine W_region (id := 16) rfl rfl ?_ | refine W_region (id := 17) rfl rfl ?_ | apply W_skip | apply W_ret | apply W_exit))
          all_goals exact ⟨.inl rfl, rfl⟩
    | some b =>
      obtain ⟨b2, n2, c2, a2⟩ := b
      cases hb1 : (x1 != 0) <;> cases hb2 : (x2 != 0) <;>
      · apply W_call Tryz.func40 rfl (Nat.le_of_ble_eq_true rfl) rfl rfl
        (repeat' (first | apply W_seq | refine W_true rfl rfl ?_ | refine W_region (id := 0) rfl rfl ?_ | (refine W_ops (id := 1) rfl ?_ <;> (refine T_go rfl ?_; refine G_op (O_loadH rfl rfl rfl ‹_› rfl rfl) ?_) <;> refine T_ch 3 rfl ?_ <;> apply T_nil) | refine W_region (id := 2) rfl rfl ?_ | (refine W_ops (id := 3) rfl ?_ <;> refine T_ch 2 rfl ?_ <;> (refine T_go rfl ?_; refine G_op (O_call rfl rfl rfl rfl ‹_›) ?_) <;> refine T_ch 2 rfl ?_ <;> (refine T_go rfl ?_; refine G_false rfl rfl ?_) <;> refine T_ch 3 rfl ?_ <;> apply T_nil) | refine W_region (id := 4) rfl rfl ?_ | refine W_region (id := 5) rfl rfl ?_ | refine W_region (id := 6) rfl rfl ?_ | apply W_block))
        apply W_iterI (S := clS2 h (h ++ [HObj.cells 3 [.int .i64 low]] ++ [HObj.cells 26 [.vs 1 (intsC l1)]] ++ [HObj.cells 26 [.vs 1 (intsC l2)]]) (h ++ [HObj.cells 3 [.int .i64 low]] ++ [HObj.cells 26 [.vs 1 (intsC l1)]]).length w vs body low jd xs.length) (l := xs) (a0 := cE 1) (fun _ rest a => rest.foldl bothE a = .mk Po Pn Pc Pl) (by omega) (by omega) rfl hpre.symm
        · intro i x rest a hi hd hil hJ
          have hlt : decide ((i : Int) < (xs.length : Int)) = true := decide_eq_true (by omega)
          have hpt := part_exs2 xs i x hi
          obtain ⟨xo, xn, xc, xl⟩ := x
          obtain ⟨ao, an, ac, al⟩ := a
          (repeat' (first | apply W_seq | refine W_true rfl rfl ?_ | (refine W_ops (id := 7) rfl ?_ <;> (refine T_go rfl ?_; refine G_true rfl (by with_reducible assumption) ?_) <;> apply T_nil) | (refine W_ops (id := 8) rfl ?_ <;> (refine T_go rfl ?_; refine G_op (O_indexH rfl rfl rfl rfl rfl ‹_› ‹_› ‹_›) ?_) <;> (refine T_go rfl ?_; refine G_op (O_loadH rfl rfl rfl ‹_› rfl ‹_›) ?_) <;> refine T_ch 2 rfl ?_ <;> apply T_nil) | refine W_region (id := 9) rfl rfl ?_ | refine W_region (id := 10) rfl rfl ?_ | apply W_skip | apply W_block))
          exact ⟨bothE (.mk ao an ac al) (.mk xo xn xc xl), rfl, hJ⟩
        · intro a hJ
          have ha : a = .mk Po Pn Pc Pl := hJ
          subst ha
          have hlt : decide ((xs.length : Int) < (xs.length : Int)) = false := decide_eq_false (by omega)
          clear hS1
          (repeat' (first | apply W_seq | refine W_true rfl rfl ?_ | refine W_false rfl rfl ?_ | (refine W_ops (id := 7) rfl ?_ <;> (refine T_go rfl ?_; refine G_false rfl (by with_reducible assumption) ?_) <;> apply T_nil) | (refine W_ops (id := 11) rfl ?_ <;> refine T_ch 2 rfl ?_ <;> (refine T_go rfl ?_; refine G_op (O_call rfl rfl rfl rfl ‹_›) ?_) <;> refine T_ch 2 rfl ?_ <;> (refine T_go rfl ?_; refine G_true rfl rfl ?_) <;> refine T_ch 3 rfl ?_ <;> apply T_nil) | refine W_region (id := 12) rfl rfl ?_ | (refine W_dops (id := 14) (bs := [0, 0, 1, 5, 15, 31]) rfl (by decide +kernel) (by decide +kernel) ?_ <;> (refine U_go rfl ?_; refine H_free (by decide +kernel) rfl rfl rfl rfl rfl ?_) <;> (refine U_go rfl ?_; refine H_free (by decide +kernel) rfl rfl rfl rfl rfl ?_) <;> (refine U_go rfl ?_; refine H_free (by decide +kernel) rfl rfl rfl rfl rfl ?_) <;> (refine U_go rfl ?_; refine H_near (by decide +kernel) rfl rfl ?_) <;> (refine U_go rfl ?_; refine H_op (by decide +kernel) rfl ?_) <;> (refine U_go rfl ?_; refine H_op (by decide +kernel) rfl ?_) <;> apply U_nil) | (refine W_ops (id := 15) rfl ?_ <;> refine T_ch 5 rfl ?_ <;> (refine T_go rfl ?_; refine G_op (O_call rfl rfl rfl rfl ‹_›) ?_) <;> (refine T_go rfl ?_; first | refine G_true rfl (by with_reducible assumption) ?_ | refine G_false rfl (by with_reducible assumption) ?_) <;> refine T_ch 6 rfl ?_ <;> (first | refine T_skip rfl ?_ | (refine T_go rfl ?_; refine G_op (O_call rfl rfl rfl rfl ‹_›) ?_)) <;> (first | refine T_skip rfl ?_ | (refine T_go rfl ?_; first | refine G_true rfl (by with_reducible assumption) ?_ | refine G_false rfl (by with_reducible assumption) ?_)) <;> refine T_ch 1 rfl ?_ <;> apply T_nil) | refine W_region (id := 16) rfl rfl ?_ | refine W_region (id := 17) rfl rfl ?_ | apply W_skip | apply W_ret | apply W_exit))
          all_goals exact ⟨.inl rfl, rfl⟩
  | some b1 =>
    obtain ⟨b1o, b1n, b1c, b1a⟩ := b1
    cases o2 with
    | none =>
      cases hb1 : (x1 != 0) <;> cases hb2 : (x2 != 0) <;>
      · apply W_call Tryz.func40 rfl (Nat.le_of_ble_eq_true rfl) rfl rfl
        (repeat' (first | apply W_seq | refine W_false rfl rfl ?_ | refine W_region (id := 0) rfl rfl ?_ | (refine W_ops (id := 1) rfl ?_ <;> (refine T_go rfl ?_; refine G_op (O_loadH rfl rfl rfl ‹_› rfl rfl) ?_) <;> refine T_ch 3 rfl ?_ <;> apply T_nil) | refine W_region (id := 2) rfl rfl ?_ | (refine W_ops (id := 3) rfl ?_ <;> refine T_ch 2 rfl ?_ <;> (refine T_go rfl ?_; refine G_op (O_call rfl rfl rfl rfl ‹_›) ?_) <;> refine T_ch 2 rfl ?_ <;> (refine T_go rfl ?_; refine G_true rfl rfl ?_) <;> refine T_ch 3 rfl ?_ <;> apply T_nil) | refine W_region (id := 4) rfl rfl ?_ | refine W_region (id := 6) rfl rfl ?_ | apply W_skip | apply W_block))
        apply W_iterI (S := clS2 h (h ++ [HObj.cells 3 [.int .i64 low]] ++ [HObj.cells 26 [.vs 1 (intsC l1)]] ++ [HObj.cells 26 [.vs 1 (intsC l2)]]) (h ++ [HObj.cells 3 [.int .i64 low]] ++ [HObj.cells 26 [.vs 1 (intsC l1)]]).length w vs body low jd xs.length) (l := xs) (a0 := .mk b1o b1n b1c b1a) (fun _ rest a => rest.foldl bothE a = .mk Po Pn Pc Pl) (by omega) (by omega) rfl hpre.symm
        · intro i x rest a hi hd hil hJ
          have hlt : decide ((i : Int) < (xs.length : Int)) = true := decide_eq_true (by omega)
          have hpt := part_exs2 xs i x hi
          obtain ⟨xo, xn, xc, xl⟩ := x
          obtain ⟨ao, an, ac, al⟩ := a
          (repeat' (first | apply W_seq | refine W_true rfl rfl ?_ | (refine W_ops (id := 7) rfl ?_ <;> (refine T_go rfl ?_; refine G_true rfl (by with_reducible assumption) ?_) <;> apply T_nil) | (refine W_ops (id := 8) rfl ?_ <;> (refine T_go rfl ?_; refine G_op (O_indexH rfl rfl rfl rfl rfl ‹_› ‹_› ‹_›) ?_) <;> (refine T_go rfl ?_; refine G_op (O_loadH rfl rfl rfl ‹_› rfl ‹_›) ?_) <;> refine T_ch 2 rfl ?_ <;> apply T_nil) | refine W_region (id := 9) rfl rfl ?_ | refine W_region (id := 10) rfl rfl ?_ | apply W_skip | apply W_block))
          exact ⟨bothE (.mk ao an ac al) (.mk xo xn xc xl), rfl, hJ⟩
        · intro a hJ
          have ha : a = .mk Po Pn Pc Pl := hJ
          subst ha
          have hlt : decide ((xs.length : Int) < (xs.length : Int)) = false := decide_eq_false (by omega)
          clear hS1
          (repeat' (first | apply W_seq | refine W_true rfl rfl ?_ | refine W_false rfl rfl ?_ | (refine W_ops (id := 7) rfl ?_ <;> (refine T_go rfl ?_; refine G_false rfl (by with_reducible assumption) ?_) <;> apply T_nil) | (refine W_ops (id := 11) rfl ?_ <;> refine T_ch 2 rfl ?_ <;> (refine T_go rfl ?_; refine G_op (O_call rfl rfl rfl rfl ‹_›) ?_) <;> refine T_ch 2 rfl ?_ <;> (refine T_go rfl ?_; refine G_false rfl rfl ?_) <;> refine T_ch 3 rfl ?_ <;> apply T_nil) | refine W_region (id := 12) rfl rfl ?_ | refine W_region (id := 13) rfl rfl ?_ | (refine W_dops (id := 14) (bs := [0, 0, 1, 5, 15, 31]) rfl (by decide +kernel) (by decide +kernel) ?_ <;> (refine U_go rfl ?_; refine H_free (by decide +kernel) rfl rfl rfl rfl rfl ?_) <;> (refine U_go rfl ?_; refine H_free (by decide +kernel) rfl rfl rfl rfl rfl ?_) <;> (refine U_go rfl ?_; refine H_free (by decide +kernel) rfl rfl rfl rfl rfl ?_) <;> (refine U_go rfl ?_; refine H_near (by decide +kernel) rfl rfl ?_) <;> (refine U_go rfl ?_; refine H_op (by decide +kernel) rfl ?_) <;> (refine U_go rfl ?_; refine H_op (by decide +kernel) rfl ?_) <;> apply U_nil) | (refine W_ops (id := 15) rfl ?_ <;> refine T_ch 5 rfl ?_ <;> (refine T_go rfl ?_; refine G_op (O_call rfl rfl rfl rfl ‹_›) ?_) <;> (refine T_go rfl ?_; first | refine G_true rfl (by with_reducible assumption) ?_ | refine G_false rfl (by with_reducible assumption) ?_) <;> refine T_ch 6 rfl ?_ <;> (first | refine T_skip rfl ?_ | (refine T_go rfl ?_; refine G_op (O_call rfl rfl rfl rfl ‹_›) ?_)) <;> (first | refine T_skip rfl ?_ | (refine T_go rfl ?_; first | refine G_true rfl (by with_reducible assumption) ?_ | refine G_false rfl (by with_reducible assumption) ?_)) <;> refine T_ch 1 rfl ?_ <;> apply T_nil) | refine W_region (id := 16) rfl rfl ?_ | refine W_region (id := 17) rfl rfl ?_ | apply W_skip | apply W_ret | apply W_exit))
          all_goals exact ⟨.inl rfl, rfl⟩
    | some b =>
      obtain ⟨b2, n2, c2, a2⟩ := b
      cases hb1 : (x1 != 0) <;> cases hb2 : (x2 != 0) <;>
      · apply W_call Tryz.func40 rfl (Nat.le_of_ble_eq_true rfl) rfl rfl
        (repeat' (first | apply W_seq | refine W_false rfl rfl ?_ | refine W_region (id := 0) rfl rfl ?_ | (refine W_ops (id := 1) rfl ?_ <;> (refine T_go rfl ?_; refine G_op (O_loadH rfl rfl rfl ‹_› rfl rfl) ?_) <;> refine T_ch 3 rfl ?_ <;> apply T_nil) | refine W_region (id := 2) rfl rfl ?_ | (refine W_ops (id := 3) rfl ?_ <;> refine T_ch 2 rfl ?_ <;> (refine T_go rfl ?_; refine G_op (O_call rfl rfl rfl rfl ‹_›) ?_) <;> refine T_ch 2 rfl ?_ <;> (refine T_go rfl ?_; refine G_true rfl rfl ?_) <;> refine T_ch 3 rfl ?_ <;> apply T_nil) | refine W_region (id := 4) rfl rfl ?_ | refine W_region (id := 6) rfl rfl ?_ | apply W_skip | apply W_block))
        apply W_iterI (S := clS2 h (h ++ [HObj.cells 3 [.int .i64 low]] ++ [HObj.cells 26 [.vs 1 (intsC l1)]] ++ [HObj.cells 26 [.vs 1 (intsC l2)]]) (h ++ [HObj.cells 3 [.int .i64 low]] ++ [HObj.cells 26 [.vs 1 (intsC l1)]]).length w vs body low jd xs.length) (l := xs) (a0 := .mk b1o b1n b1c b1a) (fun _ rest a => rest.foldl bothE a = .mk Po Pn Pc Pl) (by omega) (by omega) rfl hpre.symm
        · intro i x rest a hi hd hil hJ
          have hlt : decide ((i : Int) < (xs.length : Int)) = true := decide_eq_true (by omega)
          have hpt := part_exs2 xs i x hi
          obtain ⟨xo, xn, xc, xl⟩ := x
          obtain ⟨ao, an, ac, al⟩ := a
          (repeat' (first | apply W_seq | refine W_true rfl rfl ?_ | (refine W_ops (id := 7) rfl ?_ <;> (refine T_go rfl ?_; refine G_true rfl (by with_reducible assumption) ?_) <;> apply T_nil) | (refine W_ops (id := 8) rfl ?_ <;> (refine T_go rfl ?_; refine G_op (O_indexH rfl rfl rfl rfl rfl ‹_› ‹_› ‹_›) ?_) <;> (refine T_go rfl ?_; refine G_op (O_loadH rfl rfl rfl ‹_› rfl ‹_›) ?_) <;> refine T_ch 2 rfl ?_ <;> apply T_nil) | refine W_region (id := 9) rfl rfl ?_ | refine W_region (id := 10) rfl rfl ?_ | apply W_skip | apply W_block))
          exact ⟨bothE (.mk ao an ac al) (.mk xo xn xc xl), rfl, hJ⟩
        · intro a hJ
          have ha : a = .mk Po Pn Pc Pl := hJ
          subst ha
          have hlt : decide ((xs.length : Int) < (xs.length : Int)) = false := decide_eq_false (by omega)
          clear hS1
          (repeat' (first | apply W_seq | refine W_true rfl rfl ?_ | refine W_false rfl rfl ?_ | (refine W_ops (id := 7) rfl ?_ <;> (refine T_go rfl ?_; refine G_false rfl (by with_reducible assumption) ?_) <;> apply T_nil) | (refine W_ops (id := 11) rfl ?_ <;> refine T_ch 2 rfl ?_ <;> (refine T_go rfl ?_; refine G_op (O_call rfl rfl rfl rfl ‹_›) ?_) <;> refine T_ch 2 rfl ?_ <;> (refine T_go rfl ?_; refine G_true rfl rfl ?_) <;> refine T_ch 3 rfl ?_ <;> apply T_nil) | refine W_region (id := 12) rfl rfl ?_ | (refine W_dops (id := 14) (bs := [0, 0, 1, 5, 15, 31]) rfl (by decide +kernel) (by decide +kernel) ?_ <;> (refine U_go rfl ?_; refine H_free (by decide +kernel) rfl rfl rfl rfl rfl ?_) <;> (refine U_go rfl ?_; refine H_free (by decide +kernel) rfl rfl rfl rfl rfl ?_) <;> (refine U_go rfl ?_; refine H_free (by decide +kernel) rfl rfl rfl rfl rfl ?_) <;> (refine U_go rfl ?_; refine H_near (by decide +kernel) rfl rfl ?_) <;> (refine U_go rfl ?_; refine H_op (by decide +kernel) rfl ?_) <;> (refine U_go rfl ?_; refine H_op (by decide +kernel) rfl ?_) <;> apply U_nil) | (refine W_ops (id := 15) rfl ?_ <;> refine T_ch 5 rfl ?_ <;> (refine T_go rfl ?_; refine G_op (O_call rfl rfl rfl rfl ‹_›) ?_) <;> (refine T_go rfl ?_; first | refine G_true rfl (by with_reducible assumption) ?_ | refine G_false rfl (by with_reducible assumption) ?_) <;> refine T_ch 6 rfl ?_ <;> (first | refine T_skip rfl ?_ | (refine T_go rfl ?_; refine G_op (O_call rfl rfl rfl rfl ‹_›) ?_)) <;> (first | refine T_skip rfl ?_ | (refine T_go rfl ?_; first | refine G_true rfl (by with_reducible assumption) ?_ | refine G_false rfl (by with_reducible assumption) ?_)) <;> refine T_ch 1 rfl ?_ <;> apply T_nil) | refine W_region (id := 16) rfl rfl ?_ | refine W_region (id := 17) rfl rfl ?_ | apply W_skip | apply W_ret | apply W_exit))
          all_goals exact ⟨.inl rfl, rfl⟩
/- Releases: prog.At. -/
def yldA (n : Int) (_ : Option Sm') (m : Int) (s : Sm') : Bool × Option Sm' := if m == n then (false, some s) else (true, none)
theorem yldA_ok (n : Int) : ∀ (x : Option Sm') (m : Int) (s : Sm'), x = none → (yldA n x m s).1 = true → (yldA n x m s).2 = none := by
  intro x m s _ h
  unfold yldA at h ⊢
  by_cases hc : (m == n) = true
  · rw [if_pos hc] at h; cases h
  · rw [if_neg hc]
def stC : Option Sm' → List AV
  | none => [.int .i64 0, .int .i64 0, .nils, .nils, .nils]
  | some s => smC s
def atF (p : Pr') (n : Int) : Option Sm' := (walkL (yldA n) p.body none 0).2.1
abbrev CN (n : Int) : HObj := .cells 3 [.int .i64 n]
abbrev CS (x : List AV) : HObj := .cells 64 x
abbrev CEr : HObj := .cells 34 [.int .i64 0]
abbrev X7 (h : Heap) (n : Int) (p : Pr') (S : List AV) (A : HObj) (tail : Heap) : Heap := h ++ [CN n] ++ [CS S] ++ [CEr] ++ [PO p] ++ [A] ++ tail
theorem at_loop (h : Heap) (n : Int) (rc : LoopA) (p : Pr') (hb : prB p) (k : Nat) (hk : smsK p.body + 80 ≤ k) (hkM : k ≤ 90000) (HH : Heap) (hHH : HH = h ++ [CN n] ++ [CS (stC none)] ++ [CEr] ++ [PO p])
    (hY : ∀ (k : Nat) (s : Sm') (m j : Int), smK s + 30 ≤ k → k ≤ 90000 → smB s → call Tryz.prog cfg k h.length (.yield HH.length) [.int .i64 m, .agg (smC s)] (X7 h n p (stC none) (.loop rc) [.cells 3 [.int .i64 j]]) = some (.bool (yldA n none m s).1, X7 h n p (stC (yldA n none m s).2) (.loop (stopL rc (yldA n none m s).2.isSome)) [.cells 3 [.int .i64 j]])) :
    call Tryz.prog cfg k h.length (.func 113) [.fn (.yield HH.length) [], .hp (h ++ [CN n] ++ [CS (stC none)] ++ [CEr]).length 3 0] (HH ++ [.loop rc]) = some (.tup [], X7 h n p (stC (atF p n)) (.loop (stopL rc (atF p n).isSome)) [.cells 3 [.int .i64 (walkL (yldA n) p.body none 0).2.2]]) := by
  subst hHH
  have := each1_runM (yldA n) (fun x => x = none) (yldA_ok n) (fun x => h ++ [CN n] ++ [CS (stC x)] ++ [CEr] ++ [PO p] ++ [HObj.loop (stopL rc x.isSome)]) (h.length + 5) h.length (fun x => by simp) (by omega) (.yield (h ++ [CN n] ++ [CS (stC none)] ++ [CEr] ++ [PO p]).length) 30 90000 p hb (h ++ [CN n] ++ [CS (stC none)] ++ [CEr]).length none rfl (by simp)
    (fun k s x m j h1 h2 h3 h4 => by subst h4; exact hY k s m j h1 h2 h3) (k - 1) (by omega) (by omega)
  rw [show k - 1 + 1 = k by omega] at this
  exact this
set_option maxHeartbeats 20000000 in
theorem at_run (p : Pr') (n : Int) (hok : okP p = true) (hK : smsK p.body ≤ 80000) (k : Nat) (hk : smsK p.body + 200 ≤ k) (hkM : k ≤ 90000) (hb : prB p) (h : Heap) (lo : Nat) :
    call Tryz.prog cfg (k + 1) lo (.func 30) [.agg (prC p), .int .i64 n] h = some (.tup [.agg (stC (atF p n)), .int .i64 (if (atF p n).isSome then 0 else 1)], h) := by
  have hC := checkP_run p (k - 1) (by omega) hb (h ++ [CN n] ++ [CS (stC none)] ++ [CEr]) h.length
  have hE := each_run p (k - 1) h.length (h ++ [CN n] ++ [CS (stC none)] ++ [CEr])
  rw [show k - 1 + 1 = k by omega] at hC hE
  rw [hok] at hC
  have hlo4 : h.length ≤ (h ++ [CN n]).length := by simp
  have hlo5 : h.length ≤ (h ++ [CN n] ++ [CS (stC none)]).length := by first | (simp; done) | (simp; omega)
  have hloL : h.length ≤ (h ++ [CN n] ++ [CS (stC none)] ++ [CEr] ++ [PO p]).length := by first | (simp; done) | (simp; omega)
  have gL : ∀ S A tl, (X7 h n p S A tl)[(h ++ [CN n] ++ [CS (stC none)] ++ [CEr] ++ [PO p]).length]? = some A := fun S A tl => by simp [X7]
  have gN : ∀ S A tl, (X7 h n p S A tl)[h.length]? = some (CN n) := fun S A tl => by simp [X7]
  have gS : ∀ S A tl, (X7 h n p S A tl)[(h ++ [CN n]).length]? = some (CS S) := fun S A tl => by simp [X7]
  have gE : ∀ S A tl, (X7 h n p S A tl)[(h ++ [CN n] ++ [CS (stC none)]).length]? = some CEr := fun S A tl => by simp [X7]
  have sL : ∀ S A tl Y, (X7 h n p S A tl).set (h ++ [CN n] ++ [CS (stC none)] ++ [CEr] ++ [PO p]).length Y = X7 h n p S Y tl := fun S A tl Y => by simp [X7, List.set_append]
  have sS : ∀ S A tl Y, (X7 h n p S A tl).set (h ++ [CN n]).length (CS Y) = X7 h n p Y A tl := fun S A tl Y => by simp [X7, List.set_append]
  have sE : ∀ S A tl, (X7 h n p S A tl).set (h ++ [CN n] ++ [CS (stC none)]).length CEr = X7 h n p S A tl := fun S A tl => by simp [X7, List.set_append]
  obtain ⟨w, vs, body⟩ := p
  apply W_call Tryz.func30 rfl (Nat.le_of_ble_eq_true rfl) rfl rfl
  (repeat' (first | apply W_seq | refine W_false rfl rfl ?_ | refine W_region (id := 0) rfl rfl ?_ | (refine W_ops (id := 1) rfl ?_ <;> refine T_ch 1 rfl ?_ <;> (refine T_go rfl ?_; refine G_op (O_call rfl rfl rfl rfl ‹_›) ?_) <;> (refine T_go rfl ?_; refine G_false rfl rfl ?_) <;> apply T_nil) | (refine W_ops (id := 3) rfl ?_ <;> refine T_ch 1 rfl ?_ <;> (refine T_go rfl ?_; refine G_op (O_call rfl rfl rfl rfl ‹_›) ?_) <;> apply T_nil) | apply W_skip | apply W_block))
  apply W_range
  case hg => rfl
  case hr => rfl
  case hlo => exact hloL
  case hK =>
    refine at_loop h n _ ⟨w, vs, body⟩ hb k (by omega) (by omega) _ rfl ?_
    intro k s m j hks hkM2 hbs
    cases k with
    | zero => omega
    | succ k =>
    obtain ⟨op, nn, a, t, e⟩ := s
    have hcp := fun H L => copiedP_run k (.mk op nn a t e) (by omega) (by omega) H L
    cases hmn : (m == n) with
    | true =>
      have hy : yldA n none m (.mk op nn a t e) = (false, some (.mk op nn a t e)) := by unfold yldA; rw [if_pos hmn]
      rw [hy]
      refine W_yield (gL _ _ _) hloL rfl rfl ?_
      (repeat' (first | apply W_seq | refine W_region (id := 4) rfl rfl ?_ | refine W_region (id := 5) rfl rfl ?_))
      refine ⟨_, gL _ _ _, rfl, ?_⟩
      generalize hHx : List.set _ _ (HObj.loop _) = Hx
      have hH2 := hHx.symm.trans (sL _ _ _ _)
      have hg1 : Hx[h.length]? = some (CN n) := by rw [hH2]; exact gN _ _ _
      have hg2 : Hx[(h ++ [CN n]).length]? = some (CS (stC none)) := by rw [hH2]; exact gS _ _ _
      have hg3 : (Hx.set (h ++ [CN n]).length (CS (smC (.mk op nn a t e))))[(h ++ [CN n] ++ [CS (stC none)]).length]? = some CEr := by rw [hH2, sS]; exact gE _ _ _
      have hcp1 := hcp Hx h.length
      have hH3 := congrArg (fun H : Heap => (H.set (h ++ [CN n]).length (CS (smC (.mk op nn a t e)))).set (h ++ [CN n] ++ [CS (stC none)]).length CEr) hH2
      dsimp only at hH3
      rw [sS, sE] at hH3
      clear hHx hcp
      (repeat' (first | apply W_seq | refine W_true rfl rfl ?_ | (refine W_ops (id := 6) rfl ?_ <;> refine T_ch 1 rfl ?_ <;> (refine T_go rfl ?_; refine G_op (O_loadH rfl rfl rfl ‹_› rfl rfl) ?_) <;> (refine T_go rfl ?_; refine G_true rfl (by with_reducible assumption) ?_) <;> apply T_nil) | (refine W_ops (id := 7) rfl ?_ <;> refine T_ch 1 rfl ?_ <;> (refine T_go rfl ?_; refine G_op (O_call rfl rfl rfl rfl ‹_›) ?_) <;> (refine T_go rfl ?_; refine G_op (O_storeH rfl rfl rfl rfl ‹_› ⟨by assumption, rfl, rfl, Nat.le_of_ble_eq_true rfl⟩) ?_) <;> (refine T_go rfl ?_; refine G_op (O_storeH rfl rfl rfl rfl ‹_› ⟨by assumption, rfl, rfl, Nat.le_of_ble_eq_true rfl⟩) ?_) <;> apply T_nil) | apply W_block | apply W_ret))
      exact ⟨_, (congrArg (fun H : Heap => H[_]?) hH3).trans (gL _ _ _), (congrArg (fun H : Heap => (AV.bool false, H)) ((congrArg (fun H : Heap => List.set H _ _) hH3).trans (sL _ _ _ _))).symm⟩
    | false =>
      have hy : yldA n none m (.mk op nn a t e) = (true, none) := by unfold yldA; rw [if_neg (by rw [hmn]; simp)]
      rw [hy]
      refine W_yield (gL _ _ _) hloL rfl rfl ?_
      (repeat' (first | apply W_seq | refine W_region (id := 4) rfl rfl ?_ | refine W_region (id := 5) rfl rfl ?_))
      refine ⟨_, gL _ _ _, rfl, ?_⟩
      generalize hHx : List.set _ _ (HObj.loop _) = Hx
      have hH2 := hHx.symm.trans (sL _ _ _ _)
      have hg1 : Hx[h.length]? = some (CN n) := by rw [hH2]; exact gN _ _ _
      clear hHx
      (repeat' (first | apply W_seq | refine W_false rfl rfl ?_ | (refine W_ops (id := 6) rfl ?_ <;> refine T_ch 1 rfl ?_ <;> (refine T_go rfl ?_; refine G_op (O_loadH rfl rfl rfl ‹_› rfl rfl) ?_) <;> (refine T_go rfl ?_; refine G_false rfl (by with_reducible assumption) ?_) <;> apply T_nil) | apply W_skip | apply W_block))
      exact ⟨_, (congrArg (fun H : Heap => H[_]?) hH2).trans (gL _ _ _), (congrArg (fun H : Heap => (AV.bool true, H)) ((congrArg (fun H : Heap => List.set H _ _) hH2).trans (sL _ _ _ _))).symm⟩
  case hl => exact gL _ _ _
  case hst => exact stopL_ne _ rfl _
  case k =>
    dsimp only
    generalize (walkL (yldA n) body none 0).2.2 = zz
    generalize atF ⟨w, vs, body⟩ n = r
    cases r with
    | some s =>
      obtain ⟨op, nn, a, t, e⟩ := s
      generalize hHx : List.set _ _ HObj.dead = Hx
      have hH2 := hHx.symm.trans (sL _ _ _ _)
      have hr2 : Hx[(h ++ [CN n]).length]? = some (CS (smC (.mk op nn a t e))) := by rw [hH2]; exact gS _ _ _
      have hr3 : Hx[(h ++ [CN n] ++ [CS (stC none)]).length]? = some CEr := by rw [hH2]; exact gE _ _ _
      clear hHx
      exact ⟨.inl rfl, finish_of (resultsOf_cons (resultOf_hp rfl rfl hr2 rfl rfl) (resultsOf_cons (resultOf_hp rfl rfl hr3 rfl rfl) rfl)) rfl⟩
    | none =>
      generalize hHx : List.set _ _ HObj.dead = Hx
      have hH2 := hHx.symm.trans (sL _ _ _ _)
      have hg2 : Hx[(h ++ [CN n]).length]? = some (CS (stC none)) := by rw [hH2]; exact gS _ _ _
      have hg3 : (Hx.set (h ++ [CN n]).length (CS (stC none)))[(h ++ [CN n] ++ [CS (stC none)]).length]? = some CEr := by rw [hH2, sS]; exact gE _ _ _
      have hr2 : ((Hx.set (h ++ [CN n]).length (CS (stC none))).set (h ++ [CN n] ++ [CS (stC none)]).length (.cells 34 [.int .i64 1]))[(h ++ [CN n]).length]? = some (CS (stC none)) := by
        rw [hH2, sS, List.getElem?_set_ne (by first | (simp; done) | (simp; omega))]; exact gS _ _ _
      have hr3 : ((Hx.set (h ++ [CN n]).length (CS (stC none))).set (h ++ [CN n] ++ [CS (stC none)]).length (.cells 34 [.int .i64 1]))[(h ++ [CN n] ++ [CS (stC none)]).length]? = some (.cells 34 [.int .i64 1]) := by
        rw [hH2, sS, List.getElem?_set_self (by first | (simp [X7]; done) | (simp [X7]; omega))]
      clear hHx
      (repeat' (first | apply W_seq | (refine W_ops (id := 8) rfl ?_ <;> refine T_ch 1 rfl ?_ <;> (refine T_go rfl ?_; refine G_op (O_storeH rfl rfl rfl rfl ‹_› ⟨by assumption, rfl, rfl, Nat.le_of_ble_eq_true rfl⟩) ?_) <;> (refine T_go rfl ?_; refine G_op (O_storeH rfl rfl rfl rfl ‹_› ⟨by assumption, rfl, rfl, Nat.le_of_ble_eq_true rfl⟩) ?_) <;> apply T_nil) | apply W_ret))
      exact ⟨.inl rfl, finish_of (resultsOf_cons (resultOf_hp rfl rfl hr2 rfl rfl) (resultsOf_cons (resultOf_hp rfl rfl hr3 rfl rfl) rfl)) rfl⟩
end Go.Proofs.YtelobnllkhnpaaaGreat.L
/- Releases: level.Released. -/
namespace Go.Proofs.YtelobnllkhnpaaaGreat.E
def frF (f r : Nat) : List Nat := match Nat.beq f 7 && Nat.beq r 23 with
  | true => [19]
  | false => []
/-- Ahead of the claim the last levels are frozen. -/
def cfgF : Cfg := { cfg with fr := frF }
end Go.Proofs.YtelobnllkhnpaaaGreat.E
namespace Go.Proofs.YtelobnllkhnpaaaGreat.L
theorem seeR_ok (r : RId) (low : Int) (at_ st : List Int) (m lo : Nat) (hlo : lo ≤ r.L17) (hat : at_.length ≤ 1000) : SeeOk (seeR r low at_ st) m lo 30010 where
  frame := by
    rintro b (x : Bool × List Ex') h O h' ⟨h1, h2, h3, h4⟩ hl hO
    exact ⟨h1, RId.fix_keep h2 fun i hi => hO i (RId.more_base h4 (by
      rcases hi with e | e | e | e
      · exact .inl e
      · exact .inr (.inl e)
      · exact .inr (.inr (.inl e))
      · exact .inr (.inr (.inr (.inl e))))), by rw [hO r.L17 (RId.more_base h4 (.inr (.inr (.inr (.inr (.inl rfl))))))]; exact h3, RId.more_keep h4 fun i hi _ => hO i hi⟩
  mono := by
    rintro b b' (x : Bool × List Ex') h O ⟨h1, h2⟩ hb
    exact ⟨by omega, h2⟩
  rng := by
    rintro b (x : Bool × List Ex') h O i ⟨h1, ⟨f1, f2, f3, f4⟩, h3, h4⟩ hi
    have hb : r.L18 < h.length → r.base i → i < h.length := fun h18 e => by
      rcases e with e | e | e | e | e | e
      · rw [e]; exact cells_lt f1
      · rw [e]; exact cells_lt f2
      · rw [e]; exact cells_lt f3
      · rw [e]; exact cells_lt f4
      · rw [e]; exact cells_lt h3
      · rw [e]; exact h18
    rcases h4 with ⟨_, q1, q2⟩ | ⟨id, _, _, q2, q3, q4⟩
    · exact hb (cells_lt q1) ((q2 i).1 hi)
    · rcases (q4 i).1 hi with e | e
      · exact hb (cells_lt q2) e
      · rw [e]; exact cells_lt q3
  run := by
    rintro k b (x : Bool × List Ex') H O id lv ar n s ⟨h1, h2, h3, h4⟩ hg hnO hlv hB har hk hbs hvm hloH
    obtain ⟨op, nn, a, t, e⟩ := s
    rw [smK] at hk
    rw [smB] at hbs
    rw [vm1] at hvm
    obtain ⟨⟨ha1, ha2⟩, _⟩ := hbs
    obtain ⟨k, rfl⟩ : ∃ k', k = k' + 1 := ⟨k - 1, by omega⟩
    by_cases o3 : op = 3
    · obtain ⟨a0, rfl⟩ := hvm.2.2.1 (.inr (.inr o3))
      have hm := exsK_mem [a0] 0 a0 rfl
      exact rel1_run r low at_ st m lo hlo hat k b x H O id lv ar n nn op a0 t e o3 h1 h2 h3 h4 hg hnO hlv hB (by omega) (by omega) ha2.1 hvm.1.1 hloH
    · have hu : updR low at_ st x n (.mk op nn a t e) lv ar = x := by unfold updR; dsimp only; rw [if_neg o3]
      have c3 : (op != 3) = true := by simpa using o3
      refine ⟨H, O, ?_, ?_, Fr.refl H O⟩
      · show call Tryz.prog cfg (k + 1) lo (.func 33) ([.int .i64 n, .agg (smC (.mk op nn a t e)), .sl id 1 0 m, .int .i64 ar] ++ (seeR r low at_ st).caps) H = some (.tup [], H)
        apply W_call Tryz.func33 rfl (Nat.le_of_ble_eq_true rfl) rfl rfl
        (repeat' (first | apply W_seq | refine W_true rfl rfl ?_ | refine W_region (id := 0) rfl rfl ?_ | (refine W_ops (id := 1) rfl ?_ <;> refine T_ch 2 rfl ?_ <;> (refine T_go rfl ?_; refine G_true rfl (by with_reducible assumption) ?_) <;> apply T_nil) | apply W_ret))
        exact ⟨.inl rfl, rfl⟩
      · show (updR low at_ st x n (.mk op nn a t e) lv ar).2.length + b ≤ 90000 ∧ r.fix low at_ st H ∧ H[r.L17]? = some (.cells 4 [.bool (updR low at_ st x n (.mk op nn a t e) lv ar).1]) ∧ r.more (updR low at_ st x n (.mk op nn a t e) lv ar).2 H O
        rw [hu]
        exact ⟨by omega, h2, h3, h4⟩
/-! ### What the callback comes to, whatever the set's order -/
def updQ (p : Pr') (low : Int) (at_ : List Int) (x : Bool × List Ex') (n : Int) (s : Sm') (lv : List Int) (ar : Int) : Bool × List Ex' :=
  match s with
  | .mk op nn a _ _ => if op = 3 then
      (if inB at_ n = true then (x.1 && (withinB ar nn && !changedB p (a0E a)), if withinB nn low = true then x.2 ++ [eqX (a0E a)] else x.2)
       else (x.1 && withinB (orI ar (ofE lv (a0E a))) nn, x.2))
    else x
theorem updR_Q {p : Pr'} (hN : smsN p.body ≤ 600) {l : List Int} (hl : ∀ v, v ∈ l ↔ ∃ k, (k, v) ∈ tgt p) (low : Int) (at_ : List Int) : updR low at_ l = updQ p low at_ := by
  funext x n s lv ar
  obtain ⟨op, nn, a, t, e⟩ := s
  unfold updR updQ
  dsimp only
  rw [changed_eq hN hl]
def relX (p : Pr') (low : Int) (at_ : List Int) : Bool × List Ex' := (spL putP ofH (updQ p low at_) p.body (levs p) 0 (true, []) 0).1
def relC (p : Pr') (low : Int) (xs : List Ex') : List AV × Int := clmM p.width p.vars low (levs p) (lastP p) xs
def relT (p : Pr') (low : Int) (at_ : List Int) : AV :=
  if (relX p low at_).1 = true then .tup [.agg (relC p low (relX p low at_).2).1, .bool ((relC p low (relX p low at_).2).2 == 0), .int .i64 (relC p low (relX p low at_).2).2]
  else .tup [.agg zC, .bool false, .int .i64 0]
/-- May these outputs be named: as the program asks. -/
def atsF (p : Pr') : Option Int → List Int → Bool
  | _, [] => true
  | pv, x :: r => (match atF p x with | none => false | some s => !(opOf s != 3)) && (match pv with | none => true | some y => !decide (x ≤ y)) && atsF p (some x) r
def relV (p : Pr') (low : Int) (at_ : List Int) : AV := if atsF p none at_ = true then relT p low at_ else .tup [.agg zC, .bool false, .int .i64 1]
theorem chunks_one (l : List Int) (m : Nat) (h : l.length = m) : chunks 1 m (ic l) = intsC l := by subst h; exact chunks_ic l
theorem frz_oneF {s : St} {t id sz len T : Nat} {xs : List AV} {rows : List (List AV)} (hl : Go.Ev.look s.env t = some (.v (.sl id sz 0 len))) (hh : s.heap[id]? = some (.cells T xs)) (hc : s.lo ≤ id ∧ 0 + len * sz = xs.length ∧ xs.all static = true ∧ chunks sz len xs = rows) :
    frzSlots [t] s = { s with env := (t, .v (.vs sz rows)) :: s.env, heap := s.heap.set id .dead } := by
  obtain ⟨c1, c2, c3, c4⟩ := hc
  rw [frzSlots, frzSlots]
  unfold frzSlot
  rw [hl]
  dsimp only
  rw [hh]
  dsimp only
  rw [if_pos ⟨c1, c2, c3⟩, List.drop_zero, c4]
end Go.Proofs.YtelobnllkhnpaaaGreat.L
