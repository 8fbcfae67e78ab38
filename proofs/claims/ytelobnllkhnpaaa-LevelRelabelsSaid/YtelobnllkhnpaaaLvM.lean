/- prog.Single. -/
import Derived.Test.YtelobnllkhnpaaaLvL
open Go Go.Proofs Go.Ev Go.Proofs.Ytelobnllkhnpaaa.E
namespace Go.Proofs.Ytelobnllkhnpaaa.L
set_option linter.unusedVariables false
set_option linter.unusedSimpArgs false
set_option maxRecDepth 100000

theorem each1_loop (HH : Heap) (rc : LoopA) (lo : Nat) (hlo : lo ≤ HH.length) (p : Pr') (hb : prB p) (idp : Nat) (hp : HH[idp]? = some (.cells 25 (prC p))) (k : Nat) (hk : smsK p.body + 22 ≤ k)
    (hY : ∀ (k : Nat) (s : Sm') (n m : Int), smK s + 20 ≤ k → smB s → call Try.prog cfg k lo (.yield HH.length) [.int .i64 n, .agg (smC s)] (HH ++ [.loop rc] ++ [.cells 3 [.int .i64 m]]) = some (.bool (yldS false n s).1, HH ++ [.loop (stopL rc (yldS false n s).2)] ++ [.cells 3 [.int .i64 m]])) :
    call Try.prog cfg (k + 1) lo (.func 132) [.fn (.yield HH.length) [], .hp idp 3 0] (HH ++ [.loop rc]) = some (.tup [], HH ++ [.loop (stopL rc (!lowSs p.body))] ++ [.cells 3 [.int .i64 (walkL yldS p.body false 0).2.2]]) := by
  have := each1_run yldS (fun x => x = false) yldS_ok (fun x => HH ++ [HObj.loop (stopL rc x)]) (HH.length + 1) lo (fun x => by simp) (by omega) (.yield HH.length) 20 p hb idp false rfl
    (by rw [List.getElem?_append_left (cells_lt hp)]; exact hp) (fun k s x n m h1 h2 h3 => by subst h3; exact hY k s n m h1 h2) k (by omega)
  rw [(walkL_low p.body 0).2] at this
  exact this
theorem stopL_ne (r : LoopA) (h : r.st = 0) (b : Bool) : (stopL r b).st ≠ 1 := by
  cases b
  · show r.st ≠ 1; rw [h]; simp
  · show (2 : Nat) ≠ 1; simp
def HHs (h : Heap) (p : Pr') : Heap := h ++ [.cells 4 [.bool false]] ++ [.cells 32 [.int .i64 0]] ++ [.cells 25 (prC p)]
def spS (h : Heap) (p : Pr') (vs : List Vr') (i : Int) (_ : Unit) : St :=
  { env := [(1, .p 1 0), (2, .v (.hp h.length 1 0)), (3, .v (.hp (h ++ [HObj.cells 4 [.bool false]]).length 1 0)), (12, .v (.vs 3 (vsC vs))), (13, .v (.int .i64 (vsC vs).length)), (14, .v (.int .i64 i))], loc := [(1, prC p)], heap := h ++ [.cells 4 [.bool false]] ++ [.cells 32 [.int .i64 0]], inRound := false, lo := h.length }
def singleP (p : Pr') : Bool := okP p && singleR p
set_option maxHeartbeats 1000000 in
theorem singleP_run (p : Pr') (k : Nat) (hk : smsK p.body + p.vars.length + 80 ≤ k) (hb : prB p) (h : Heap) (lo : Nat) : call Try.prog cfg (k + 2) lo (.func 81) [.agg (prC p)] h = some (.tup [.bool (singleP p), .int .i64 (errI 30 (okP p))], h) := by
  have hC := checkP_run p k (by omega) hb (h ++ [HObj.cells 4 [.bool false]] ++ [HObj.cells 32 [.int .i64 0]]) h.length
  have hE := each_run p k h.length (h ++ [HObj.cells 4 [.bool false]] ++ [HObj.cells 32 [.int .i64 0]])
  have hSr : singleR p = (p.vars.all (fun v => !decide (v.level > 15)) && lowSs p.body) := rfl
  have hSp : singleP p = (okP p && singleR p) := rfl
  generalize singleP p = sp at hSp
  generalize singleR p = sr at hSr hSp
  generalize okP p = ok at hC hSp
  have hlo : h.length ≤ h.length := Nat.le_refl _
  have hlo2 : h.length ≤ (h ++ [HObj.cells 4 [.bool false]]).length := by simp
  have hg1 : (h ++ [HObj.cells 4 [.bool false]] ++ [HObj.cells 32 [.int .i64 0]])[h.length]? = some (.cells 4 [.bool false]) := by simp
  have hg2 : ∀ X : HObj, ((h ++ [HObj.cells 4 [.bool false]] ++ [HObj.cells 32 [.int .i64 0]]).set h.length X)[(h ++ [HObj.cells 4 [.bool false]]).length]? = some (.cells 32 [.int .i64 0]) := fun X => by simp [List.getElem?_set, List.getElem?_append]
  have hr1 : ∀ X Y : HObj, (((h ++ [HObj.cells 4 [.bool false]] ++ [HObj.cells 32 [.int .i64 0]]).set h.length X).set (h ++ [HObj.cells 4 [.bool false]]).length Y)[h.length]? = some X := fun X Y => by simp [List.getElem?_set, List.getElem?_append]
  have hr2 : ∀ X Y : HObj, (((h ++ [HObj.cells 4 [.bool false]] ++ [HObj.cells 32 [.int .i64 0]]).set h.length X).set (h ++ [HObj.cells 4 [.bool false]]).length Y)[(h ++ [HObj.cells 4 [.bool false]]).length]? = some Y := fun X Y => by simp [List.getElem?_set, List.getElem?_append]
  have hgf := hg2 (.cells 4 [.bool false])
  have hgt := hg2 (.cells 4 [.bool true])
  obtain ⟨w, vs, body⟩ := p
  have hvl := vsC_len vs
  dsimp only at hSr hk
  apply W_call Try.func81 rfl (Nat.le_of_ble_eq_true rfl) rfl
  cases ok
  · rw [Bool.false_and] at hSp
    subst hSp
    (repeat' (first | apply W_seq | refine W_true rfl rfl ?_ | refine W_false rfl rfl ?_ | refine W_region (id := 0) rfl ?_ | (refine W_ops (id := 1) ?_ <;> refine T_ch 1 rfl ?_ <;> (refine T_go rfl ?_; refine G_op (O_call rfl rfl rfl rfl (by assumption)) ?_) <;> (refine T_go rfl ?_; first | refine G_true rfl rfl ?_ | refine G_false rfl rfl ?_ | refine G_true rfl (by with_reducible assumption) ?_ | refine G_false rfl (by with_reducible assumption) ?_ | refine G_true rfl (by assumption) ?_ | refine G_false rfl (by assumption) ?_ | refine G_split rfl (fun _ => ?_) (fun _ => ?_)) <;> apply T_nil) | (refine W_ops (id := 2) ?_ <;> (refine T_go rfl ?_; first | refine G_op (O_storeS rfl rfl rfl rfl rfl (by assumption) (by assumption) ⟨rfl, rfl, Nat.le_of_ble_eq_true rfl⟩ rfl) ?_ | refine G_op rfl ?_ | refine G_op (O_storeH rfl rfl rfl rfl (by assumption) ⟨by assumption, rfl, rfl, Nat.le_of_ble_eq_true rfl⟩) ?_ | refine G_op (O_storeH rfl rfl rfl rfl (by assumption) (by assumption)) ?_) <;> (refine T_go rfl ?_; first | refine G_op (O_storeS rfl rfl rfl rfl rfl (by assumption) (by assumption) ⟨rfl, rfl, Nat.le_of_ble_eq_true rfl⟩ rfl) ?_ | refine G_op rfl ?_ | refine G_op (O_storeH rfl rfl rfl rfl (by assumption) ⟨by assumption, rfl, rfl, Nat.le_of_ble_eq_true rfl⟩) ?_ | refine G_op (O_storeH rfl rfl rfl rfl (by assumption) (by assumption)) ?_) <;> apply T_nil) | apply W_skip | apply W_block | apply W_ret | apply W_exit | refine W_true rfl (by assumption) ?_ | refine W_false rfl (by assumption) ?_ | refine W_cond rfl (fun _ => ?_) (fun _ => ?_)))
    exact ⟨.inl rfl, finish_of (resultsOf_cons (resultOf_hp rfl rfl (hr1 _ _) rfl rfl) (resultsOf_cons (resultOf_hp rfl rfl (hr2 _ _) rfl rfl) rfl)) rfl⟩
  · rw [Bool.true_and] at hSp
    subst hSp
    (repeat' (first | apply W_seq | refine W_true rfl rfl ?_ | refine W_false rfl rfl ?_ | refine W_region (id := 0) rfl ?_ | (refine W_ops (id := 1) ?_ <;> refine T_ch 1 rfl ?_ <;> (refine T_go rfl ?_; refine G_op (O_call rfl rfl rfl rfl (by assumption)) ?_) <;> (refine T_go rfl ?_; first | refine G_true rfl rfl ?_ | refine G_false rfl rfl ?_ | refine G_true rfl (by with_reducible assumption) ?_ | refine G_false rfl (by with_reducible assumption) ?_ | refine G_true rfl (by assumption) ?_ | refine G_false rfl (by assumption) ?_ | refine G_split rfl (fun _ => ?_) (fun _ => ?_)) <;> apply T_nil) | (refine W_ops (id := 2) ?_ <;> (refine T_go rfl ?_; first | refine G_op (O_storeS rfl rfl rfl rfl rfl (by assumption) (by assumption) ⟨rfl, rfl, Nat.le_of_ble_eq_true rfl⟩ rfl) ?_ | refine G_op rfl ?_ | refine G_op (O_storeH rfl rfl rfl rfl (by assumption) ⟨by assumption, rfl, rfl, Nat.le_of_ble_eq_true rfl⟩) ?_ | refine G_op (O_storeH rfl rfl rfl rfl (by assumption) (by assumption)) ?_) <;> (refine T_go rfl ?_; first | refine G_op (O_storeS rfl rfl rfl rfl rfl (by assumption) (by assumption) ⟨rfl, rfl, Nat.le_of_ble_eq_true rfl⟩ rfl) ?_ | refine G_op rfl ?_ | refine G_op (O_storeH rfl rfl rfl rfl (by assumption) ⟨by assumption, rfl, rfl, Nat.le_of_ble_eq_true rfl⟩) ?_ | refine G_op (O_storeH rfl rfl rfl rfl (by assumption) (by assumption)) ?_) <;> apply T_nil) | refine W_region (id := 3) rfl ?_ | apply W_skip | apply W_block | apply W_ret | apply W_exit | refine W_true rfl (by assumption) ?_ | refine W_false rfl (by assumption) ?_ | refine W_cond rfl (fun _ => ?_) (fun _ => ?_)))
    apply W_iter (S := spS h ⟨w, vs, body⟩ vs) (l := vs) (a0 := ()) (fun rest _ => (rest.all (fun v => !decide (v.level > 15)) && lowSs body) = sp) hb.1.1 (by omega) rfl hSr.symm
    · intro i v rest _ hi hd hil hJ
      have hrow := vsC_get hi
      have hlt := lt_vsC hil
      rw [List.all_cons] at hJ
      obtain ⟨nm, level, cells⟩ := v
      dsimp only at hJ
      (repeat' (first | apply W_seq | refine W_true rfl rfl ?_ | refine W_false rfl rfl ?_ | (refine W_ops (id := 4) ?_ <;> (refine T_go rfl ?_; first | refine G_true rfl rfl ?_ | refine G_false rfl rfl ?_ | refine G_true rfl (by with_reducible assumption) ?_ | refine G_false rfl (by with_reducible assumption) ?_ | refine G_true rfl (by assumption) ?_ | refine G_false rfl (by assumption) ?_ | refine G_split rfl (fun _ => ?_) (fun _ => ?_)) <;> apply T_nil) | (refine W_ops (id := 5) ?_ <;> (refine T_go rfl ?_; first | refine G_op (O_index rfl rfl rfl rfl rfl (by assumption)) ?_ | refine G_op (O_indexI rfl rfl rfl rfl rfl (by assumption)) ?_ | refine G_op (O_indexH rfl rfl rfl rfl rfl (by assumption) (by assumption) (by assumption)) ?_ | refine G_op rfl ?_) <;> (refine T_go rfl ?_; first | refine G_op rfl ?_ | refine G_op (O_loadS rfl rfl rfl rfl (by assumption) rfl rfl) ?_ | refine G_op (O_loadH rfl rfl rfl (by assumption) rfl rfl) ?_) <;> refine T_ch 2 rfl ?_ <;> apply T_nil) | (refine W_ops (id := 6) ?_ <;> refine T_ch 2 rfl ?_ <;> (refine T_go rfl ?_; first | refine G_true rfl rfl ?_ | refine G_false rfl rfl ?_ | refine G_true rfl (by with_reducible assumption) ?_ | refine G_false rfl (by with_reducible assumption) ?_ | refine G_true rfl (by assumption) ?_ | refine G_false rfl (by assumption) ?_ | refine G_split rfl (fun _ => ?_) (fun _ => ?_)) <;> apply T_nil) | (refine W_ops (id := 7) ?_ <;> (refine T_go rfl ?_; first | refine G_op (O_storeS rfl rfl rfl rfl rfl (by assumption) (by assumption) ⟨rfl, rfl, Nat.le_of_ble_eq_true rfl⟩ rfl) ?_ | refine G_op rfl ?_ | refine G_op (O_storeH rfl rfl rfl rfl (by assumption) ⟨by assumption, rfl, rfl, Nat.le_of_ble_eq_true rfl⟩) ?_ | refine G_op (O_storeH rfl rfl rfl rfl (by assumption) (by assumption)) ?_) <;> (refine T_go rfl ?_; first | refine G_op (O_storeS rfl rfl rfl rfl rfl (by assumption) (by assumption) ⟨rfl, rfl, Nat.le_of_ble_eq_true rfl⟩ rfl) ?_ | refine G_op rfl ?_ | refine G_op (O_storeH rfl rfl rfl rfl (by assumption) ⟨by assumption, rfl, rfl, Nat.le_of_ble_eq_true rfl⟩) ?_ | refine G_op (O_storeH rfl rfl rfl rfl (by assumption) (by assumption)) ?_) <;> apply T_nil) | refine W_region (id := 8) rfl ?_ | apply W_skip | apply W_block | apply W_ret | apply W_exit | refine W_true rfl (by assumption) ?_ | refine W_false rfl (by assumption) ?_ | refine W_cond rfl (fun _ => ?_) (fun _ => ?_)))
      · rename_i hf
        rw [hf] at hJ
        simp only [Bool.not_true, Bool.false_and] at hJ
        subst hJ
        exact ⟨.inl rfl, finish_of (resultsOf_cons (resultOf_hp rfl rfl (hr1 _ _) rfl rfl) (resultsOf_cons (resultOf_hp rfl rfl (hr2 _ _) rfl rfl) rfl)) rfl⟩
      · rename_i hf; exact ⟨(), rfl, by rw [hf] at hJ; simpa using hJ⟩
    · intro _ hJ
      have hlt := ge_vsC (l := vs)
      rw [List.all_nil, Bool.true_and] at hJ
      (repeat' (first | apply W_seq | refine W_true rfl rfl ?_ | refine W_false rfl rfl ?_ | (refine W_ops (id := 4) ?_ <;> (refine T_go rfl ?_; first | refine G_true rfl rfl ?_ | refine G_false rfl rfl ?_ | refine G_true rfl (by with_reducible assumption) ?_ | refine G_false rfl (by with_reducible assumption) ?_ | refine G_true rfl (by assumption) ?_ | refine G_false rfl (by assumption) ?_ | refine G_split rfl (fun _ => ?_) (fun _ => ?_)) <;> apply T_nil) | (refine W_ops (id := 9) ?_ <;> refine T_ch 1 rfl ?_ <;> (refine T_go rfl ?_; refine G_op (O_call rfl rfl rfl rfl (by assumption)) ?_) <;> apply T_nil) | apply W_skip | apply W_block | apply W_ret | apply W_exit | refine W_true rfl (by assumption) ?_ | refine W_false rfl (by assumption) ?_ | refine W_cond rfl (fun _ => ?_) (fun _ => ?_)))
      generalize hA2 : HObj.cells 25 (prC ⟨w, vs, body⟩) = A2
      have hlo4 : h.length ≤ (h ++ [HObj.cells 4 [.bool false]] ++ [HObj.cells 32 [.int .i64 0]] ++ [A2]).length := by first | (simp; done) | (simp; omega)
      have ha : ∀ X c Y : HObj, ((h ++ [HObj.cells 4 [.bool false]] ++ [HObj.cells 32 [.int .i64 0]] ++ [A2] ++ [X] ++ [c]).set (h ++ [HObj.cells 4 [.bool false]] ++ [HObj.cells 32 [.int .i64 0]] ++ [A2]).length Y)[h.length]? = some (.cells 4 [.bool false]) := fun X c Y => by
        rw [List.getElem?_set_ne (by first | (simp; done) | (simp; omega))]; simp
      have hb' : ∀ X c Y Z : HObj, (((h ++ [HObj.cells 4 [.bool false]] ++ [HObj.cells 32 [.int .i64 0]] ++ [A2] ++ [X] ++ [c]).set (h ++ [HObj.cells 4 [.bool false]] ++ [HObj.cells 32 [.int .i64 0]] ++ [A2]).length Y).set h.length Z)[(h ++ [HObj.cells 4 [.bool false]]).length]? = some (.cells 32 [.int .i64 0]) := fun X c Y Z => by
        rw [List.getElem?_set_ne (by simp), List.getElem?_set_ne (by simp)]; simp
      have hc' : ∀ X c Y Z V : HObj, ((((h ++ [HObj.cells 4 [.bool false]] ++ [HObj.cells 32 [.int .i64 0]] ++ [A2] ++ [X] ++ [c]).set (h ++ [HObj.cells 4 [.bool false]] ++ [HObj.cells 32 [.int .i64 0]] ++ [A2]).length Y).set h.length Z).set (h ++ [HObj.cells 4 [.bool false]]).length V)[(h ++ [HObj.cells 4 [.bool false]] ++ [HObj.cells 32 [.int .i64 0]] ++ [A2]).length]? = some Y := fun X c Y Z V => by
        rw [List.getElem?_set_ne (by simp), List.getElem?_set_ne (by first | (simp; done) | (simp; omega)), List.getElem?_set_self (by first | (simp; done) | (simp; omega))]
      have hd' : ∀ X c Y Y' : HObj, ((((h ++ [HObj.cells 4 [.bool false]] ++ [HObj.cells 32 [.int .i64 0]] ++ [A2] ++ [X] ++ [c]).set (h ++ [HObj.cells 4 [.bool false]] ++ [HObj.cells 32 [.int .i64 0]] ++ [A2]).length Y).set h.length (.cells 4 [.bool false])).set (h ++ [HObj.cells 4 [.bool false]]).length (.cells 32 [.int .i64 0])).set (h ++ [HObj.cells 4 [.bool false]] ++ [HObj.cells 32 [.int .i64 0]] ++ [A2]).length Y' = h ++ [HObj.cells 4 [.bool false]] ++ [HObj.cells 32 [.int .i64 0]] ++ [A2] ++ [Y'] ++ [c] := fun X c Y Y' => by
        simp [List.set_append]
      have he' : ∀ X c Y Y' : HObj, (((h ++ [HObj.cells 4 [.bool false]] ++ [HObj.cells 32 [.int .i64 0]] ++ [A2] ++ [X] ++ [c]).set (h ++ [HObj.cells 4 [.bool false]] ++ [HObj.cells 32 [.int .i64 0]] ++ [A2]).length Y)).set (h ++ [HObj.cells 4 [.bool false]] ++ [HObj.cells 32 [.int .i64 0]] ++ [A2]).length Y' = h ++ [HObj.cells 4 [.bool false]] ++ [HObj.cells 32 [.int .i64 0]] ++ [A2] ++ [Y'] ++ [c] := fun X c Y Y' => by
        rw [List.set_set]; simp
      have hf0 : ∀ X c Y : HObj, (((h ++ [HObj.cells 4 [.bool false]] ++ [HObj.cells 32 [.int .i64 0]] ++ [A2]) ++ [X] ++ [c]).set (h ++ [HObj.cells 4 [.bool false]] ++ [HObj.cells 32 [.int .i64 0]] ++ [A2]).length Y)[(h ++ [HObj.cells 4 [.bool false]]).length]? = some (.cells 32 [.int .i64 0]) := fun X c Y => by
        rw [List.getElem?_set_ne (by first | (simp; done) | (simp; omega))]; simp
      have hf1 : ∀ X c Y Z V : HObj, (((((h ++ [HObj.cells 4 [.bool false]] ++ [HObj.cells 32 [.int .i64 0]] ++ [A2]) ++ [X] ++ [c]).set (h ++ [HObj.cells 4 [.bool false]] ++ [HObj.cells 32 [.int .i64 0]] ++ [A2]).length Y).set h.length Z).set (h ++ [HObj.cells 4 [.bool false]]).length V)[h.length]? = some Z := fun X c Y Z V => by
        rw [List.getElem?_set_ne (by simp), List.getElem?_set_self (by first | (simp; done) | (simp; omega))]
      have hf2 : ∀ X c Y Z V : HObj, (((((h ++ [HObj.cells 4 [.bool false]] ++ [HObj.cells 32 [.int .i64 0]] ++ [A2]) ++ [X] ++ [c]).set (h ++ [HObj.cells 4 [.bool false]] ++ [HObj.cells 32 [.int .i64 0]] ++ [A2]).length Y).set h.length Z).set (h ++ [HObj.cells 4 [.bool false]]).length V)[(h ++ [HObj.cells 4 [.bool false]]).length]? = some V := fun X c Y Z V => by
        rw [List.getElem?_set_self (by first | (simp; done) | (simp; omega))]
      have hmid : ∀ (A : Heap) (X c : HObj), (A ++ [X] ++ [c])[A.length]? = some X := fun A X c => by simp
      have hself : ∀ (A : Heap) (X c Y : HObj), ((A ++ [X] ++ [c]).set A.length Y)[A.length]? = some Y := fun A X c Y => List.getElem?_set_self (by first | (simp; done) | (simp; omega))
      subst hA2
      apply W_range
      case hg => rfl
      case hr => rfl
      case hlo => exact hlo4
      case hK =>
        refine each1_loop _ _ h.length hlo4 ⟨w, vs, body⟩ hb _ (List.getElem?_concat_length ..) k (by dsimp only; omega) ?_
        intro k s n m hks hbs
        cases k with
        | zero => omega
        | succ k =>
        obtain ⟨op, nn, a, t, e⟩ := s
        refine W_yield (hmid _ _ _) hlo4 rfl rfl ?_
        (repeat' (first | apply W_seq | refine W_true rfl rfl ?_ | refine W_false rfl rfl ?_ | refine W_region (id := 10) rfl ?_ | apply W_skip | apply W_block | apply W_ret | apply W_exit | refine W_true rfl (by assumption) ?_ | refine W_false rfl (by assumption) ?_ | refine W_cond rfl (fun _ => ?_) (fun _ => ?_)))
        refine ⟨_, hmid _ _ _, rfl, ?_⟩
        cases hc : (op == 3 && decide (nn > 15)) with
        | false =>
          have hy : yldS false n (.mk op nn a t e) = (true, false) := by unfold yldS; dsimp only; rw [hc]; rfl
          rw [hy]
          (repeat' (first | apply W_seq | refine W_true rfl rfl ?_ | refine W_false rfl rfl ?_ | (refine W_ops (id := 11) ?_ <;> refine T_ch 2 rfl ?_ <;> (refine T_go rfl ?_; first | refine G_true rfl rfl ?_ | refine G_false rfl rfl ?_ | refine G_true rfl (by with_reducible assumption) ?_ | refine G_false rfl (by with_reducible assumption) ?_ | refine G_true rfl (by assumption) ?_ | refine G_false rfl (by assumption) ?_ | refine G_split rfl (fun _ => ?_) (fun _ => ?_)) <;> refine T_ch 3 rfl ?_ <;> (first | refine T_skip rfl ?_ | (refine T_go rfl ?_; first | refine G_true rfl rfl ?_ | refine G_false rfl rfl ?_ | refine G_true rfl (by with_reducible assumption) ?_ | refine G_false rfl (by with_reducible assumption) ?_ | refine G_true rfl (by assumption) ?_ | refine G_false rfl (by assumption) ?_ | refine G_split rfl (fun _ => ?_) (fun _ => ?_))) <;> refine T_ch 1 rfl ?_ <;> apply T_nil) | apply W_skip | apply W_block | apply W_ret | apply W_exit | refine W_true rfl (by assumption) ?_ | refine W_false rfl (by assumption) ?_ | refine W_cond rfl (fun _ => ?_) (fun _ => ?_)))
          all_goals first
            | (exfalso; clear ha hb' hc' hd' he' hmid hself hf0 hf1 hf2; simp_all; done)
            | exact ⟨_, hself _ _ _ _, (by rw [← he' _ _ _ _]; rfl)⟩
        | true =>
          have hy : yldS false n (.mk op nn a t e) = (false, true) := by unfold yldS; dsimp only; rw [hc]; rfl
          rw [hy]
          simp only [Bool.and_eq_true] at hc
          obtain ⟨hc1, hc2⟩ := hc
          (repeat' (first | apply W_seq | refine W_true rfl rfl ?_ | refine W_false rfl rfl ?_ | (refine W_ops (id := 11) ?_ <;> refine T_ch 2 rfl ?_ <;> (refine T_go rfl ?_; first | refine G_true rfl rfl ?_ | refine G_false rfl rfl ?_ | refine G_true rfl (by with_reducible assumption) ?_ | refine G_false rfl (by with_reducible assumption) ?_ | refine G_true rfl (by assumption) ?_ | refine G_false rfl (by assumption) ?_ | refine G_split rfl (fun _ => ?_) (fun _ => ?_)) <;> refine T_ch 3 rfl ?_ <;> (first | refine T_skip rfl ?_ | (refine T_go rfl ?_; first | refine G_true rfl rfl ?_ | refine G_false rfl rfl ?_ | refine G_true rfl (by with_reducible assumption) ?_ | refine G_false rfl (by with_reducible assumption) ?_ | refine G_true rfl (by assumption) ?_ | refine G_false rfl (by assumption) ?_ | refine G_split rfl (fun _ => ?_) (fun _ => ?_))) <;> refine T_ch 1 rfl ?_ <;> apply T_nil) | apply W_skip | apply W_block | apply W_ret | apply W_exit | refine W_true rfl (by assumption) ?_ | refine W_false rfl (by assumption) ?_ | refine W_cond rfl (fun _ => ?_) (fun _ => ?_)))
          refine W_ops ?_
          refine T_go rfl (G_op (O_storeH rfl rfl rfl rfl (ha _ _ _) ⟨hlo, rfl, rfl, Nat.le_of_ble_eq_true rfl⟩) ?_)
          refine T_go rfl (G_op (O_storeH rfl rfl rfl rfl (hb' _ _ _ _) ⟨hlo2, rfl, rfl, Nat.le_of_ble_eq_true rfl⟩) ?_)
          apply T_nil
          apply W_ret
          exact ⟨_, hc' _ _ _ _ _, (by rw [← hd' _ _ _ _]; rfl)⟩
      case hl => exact hmid _ _ _
      case hst => exact stopL_ne _ rfl _
      case k =>
        dsimp only
        cases hls : lowSs body with
        | false =>
          rw [hls] at hJ
          subst hJ
          exact ⟨.inl rfl, finish_of (resultsOf_cons (resultOf_hp rfl rfl (ha _ _ _) rfl rfl) (resultsOf_cons (resultOf_hp rfl rfl (hf0 _ _ _) rfl rfl) rfl)) rfl⟩
        | true =>
          rw [hls] at hJ
          subst hJ
          apply W_seq
          refine W_ops ?_
          refine T_go rfl (G_op (O_storeH rfl rfl rfl rfl (ha _ _ _) ⟨hlo, rfl, rfl, Nat.le_of_ble_eq_true rfl⟩) ?_)
          refine T_go rfl (G_op (O_storeH rfl rfl rfl rfl (hb' _ _ _ _) ⟨hlo2, rfl, rfl, Nat.le_of_ble_eq_true rfl⟩) ?_)
          apply T_nil
          apply W_ret
          exact ⟨.inl rfl, finish_of (resultsOf_cons (resultOf_hp rfl rfl (hf1 _ _ _ _ _) rfl rfl) (resultsOf_cons (resultOf_hp rfl rfl (hf2 _ _ _ _ _) rfl rfl) rfl)) rfl⟩
end Go.Proofs.Ytelobnllkhnpaaa.L
