/- Copies: the statements and expressions in memory of their own are the same ones. -/
import Derived.Test.YtelobnllkhnpaaaLvAcc
import Derived.Test.YtelobnllkhnpaaaLvG
open Go Go.Proofs Go.Ev Go.Proofs.Ytelobnllkhnpaaa.E
namespace Go.Proofs.Ytelobnllkhnpaaa.L
set_option linter.unusedVariables false
set_option linter.unusedSimpArgs false
set_option maxRecDepth 100000

/-- What a list that has grown is, handed back and shown as rows. -/
theorem acc_fin {h : Heap} {e sz : Nat} (row : List Nat) (hsz : sz ≠ 0) (rows : List (List AV)) (hr : ∀ r, r ∈ rows → r.length = sz ∧ ∀ x, x ∈ r → static x = true) : handF (some ⟨sz, row⟩) true h (accA h sz rows) (accH h e rows) = some (.vs sz (rows.map (nilzL row)), h) := by
  unfold handF
  dsimp only
  rw [acc_frz rows hr]
  dsimp only
  cases rows with
  | nil => simp [accV, nzA, nilz, hsz]
  | cons r l => rfl
theorem nilzL_nil : nilzL [] = id := by funext l; cases l <;> rfl
theorem acc_fin0 {h : Heap} {e sz : Nat} (hsz : sz ≠ 0) (rows : List (List AV)) (hr : ∀ r, r ∈ rows → r.length = sz ∧ ∀ x, x ∈ r → static x = true) : handF (some ⟨sz, []⟩) true h (accA h sz rows) (accH h e rows) = some (.vs sz rows, h) := by
  rw [acc_fin [] hsz rows hr, nilzL_nil, List.map_id]
theorem exC_row (e : Ex') : (exC e).length = 4 ∧ ∀ x, x ∈ exC e → static x = true := by
  obtain ⟨op, n, c, l⟩ := e
  rw [exC]
  refine ⟨rfl, fun x hx => ?_⟩
  simp only [List.mem_cons, List.not_mem_nil, or_false] at hx
  rcases hx with rfl | rfl | rfl | rfl <;> rfl
theorem exsC_mp : ∀ l : List Ex', exsC l = l.map exC
  | [] => rfl
  | e :: l => by rw [exsC, exsC_mp l]; rfl
theorem exsC_row (l : List Ex') : ∀ r, r ∈ exsC l → r.length = 4 ∧ ∀ x, x ∈ r → static x = true := by
  intro r hr
  rw [exsC_mp] at hr
  obtain ⟨e, _, rfl⟩ := List.mem_map.1 hr
  exact exC_row e
theorem ex_append (h : Heap) (l : List Ex') (e : Ex') (hl : l.length < 1000000) : append cfg.tab h.length (accH h 28 (exsC l)) 26 (accA h 4 (exsC l)) (.vs 4 [exC e]) = some (accA h 4 (exsC (l ++ [e])), accH h 28 (exsC (l ++ [e]))) := by
  have := acc_append (tab := cfg.tab) (lo := h.length) (h := h) (t := 26) (e := 28) rfl rfl (by decide) (Nat.le_refl _) (exsC l) [exC e] (fun r hr => (exsC_row l r hr).1) (by rw [exsC_len]; simp only [List.length_cons, List.length_nil, room]; show (l.length + (0 + 1)) * 48 ≤ _; omega) (by rw [exsC_len]; simp [room]; omega)
  rw [this]
  simp [exsC_mp]

def ceS (h : Heap) (l : List Ex') (i : Int) (a : List Ex') : St :=
  { env := [(3, .v (accA h 4 (exsC a))), (6, .v (.vs 4 (exsC l))), (7, .v (.int .i64 (exsC l).length)), (8, .v (.int .i64 i))], loc := [], heap := accH h 28 (exsC a), inRound := false, lo := h.length }
theorem copiedEs_run : ∀ (k : Nat) (l : List Ex'), exsK l + 1 ≤ k → exsK l ≤ 1000000 → ∀ (h : Heap) (lo : Nat), call Try.prog cfg k lo (.func 96) [.vs 4 (exsC l)] h = some (.vs 4 (exsC l), h)
  | 0, l, hk, _, _, _ => by have := exsK_pos l; omega
  | k + 1, l, hk, hK, h, lo => by
    have hlen := exsK_len l
    have hfin := acc_fin0 (h := h) (e := 28) (sz := 4) (by decide) (exsC l) (exsC_row l)
    apply W_call Try.func96 rfl (Nat.le_of_ble_eq_true rfl) rfl
    (repeat' (first | apply W_seq | refine W_true rfl rfl ?_ | refine W_false rfl rfl ?_ | refine W_region (id := 0) rfl ?_ | refine W_region (id := 1) rfl ?_ | refine W_region (id := 2) rfl ?_ | apply W_skip | apply W_block | apply W_ret | apply W_exit | refine W_true rfl (by assumption) ?_ | refine W_false rfl (by assumption) ?_ | refine W_cond rfl (fun _ => ?_) (fun _ => ?_)))
    apply W_iterI (S := ceS h l) (l := l) (a0 := []) (fun i rest a => a ++ rest = l ∧ a.length = i) (by omega) (by omega) rfl ⟨rfl, rfl⟩
    · intro i e rest a hi hd hil hJ
      have hrow := exsC_get _ _ _ hi
      have hlt := lt_exs hil
      have hap := ex_append h a e (by omega)
      have hm := exsK_mem1 l i _ hi
      obtain ⟨op, n, c, es⟩ := e
      rw [exK] at hm
      have ih := copiedEs_run k es (by omega) (by omega) (accH h 28 (exsC a)) h.length
      (repeat' (first | apply W_seq | refine W_true rfl rfl ?_ | refine W_false rfl rfl ?_ | (refine W_ops (id := 3) ?_ <;> (refine T_go rfl ?_; first | refine G_true rfl rfl ?_ | refine G_false rfl rfl ?_ | refine G_true rfl (by with_reducible assumption) ?_ | refine G_false rfl (by with_reducible assumption) ?_ | refine G_true rfl (by assumption) ?_ | refine G_false rfl (by assumption) ?_ | refine G_split rfl (fun _ => ?_) (fun _ => ?_)) <;> apply T_nil) | (refine W_ops (id := 4) ?_ <;> (refine T_go rfl ?_; first | refine G_op (O_index rfl rfl rfl rfl rfl (by assumption)) ?_ | refine G_op (O_indexI rfl rfl rfl rfl rfl (by assumption)) ?_ | refine G_op (O_indexH rfl rfl rfl rfl rfl (by assumption) (by assumption) (by assumption)) ?_ | refine G_op rfl ?_) <;> (refine T_go rfl ?_; first | refine G_op rfl ?_ | refine G_op (O_loadS rfl rfl rfl rfl (by assumption) rfl rfl) ?_ | refine G_op (O_loadH rfl rfl rfl (by assumption) rfl rfl) ?_) <;> refine T_ch 2 rfl ?_ <;> apply T_nil) | (refine W_ops (id := 5) ?_ <;> refine T_ch 2 rfl ?_ <;> (refine T_go rfl ?_; refine G_op (O_call rfl rfl rfl rfl (by assumption)) ?_) <;> refine T_ch 2 rfl ?_ <;> apply T_nil) | (refine W_ops (id := 6) ?_ <;> refine T_ch 3 rfl ?_ <;> (refine T_go rfl ?_; first | refine G_op (O_append rfl rfl rfl rfl rfl (by assumption)) ?_ | refine G_op rfl ?_) <;> refine T_ch 1 rfl ?_ <;> apply T_nil) | refine W_region (id := 7) rfl ?_ | apply W_skip | apply W_block | apply W_ret | apply W_exit | refine W_true rfl (by assumption) ?_ | refine W_false rfl (by assumption) ?_ | refine W_cond rfl (fun _ => ?_) (fun _ => ?_)))
      exact ⟨a ++ [.mk op n c es], rfl, by rw [← hJ.1]; simp, by simp [hJ.2]⟩
    · intro a hJ
      have hlt := ge_exs (l := l)
      (repeat' (first | apply W_seq | refine W_true rfl rfl ?_ | refine W_false rfl rfl ?_ | (refine W_ops (id := 3) ?_ <;> (refine T_go rfl ?_; first | refine G_true rfl rfl ?_ | refine G_false rfl rfl ?_ | refine G_true rfl (by with_reducible assumption) ?_ | refine G_false rfl (by with_reducible assumption) ?_ | refine G_true rfl (by assumption) ?_ | refine G_false rfl (by assumption) ?_ | refine G_split rfl (fun _ => ?_) (fun _ => ?_)) <;> apply T_nil) | refine W_region (id := 8) rfl ?_ | apply W_skip | apply W_block | apply W_ret | apply W_exit | refine W_true rfl (by assumption) ?_ | refine W_false rfl (by assumption) ?_ | refine W_cond rfl (fun _ => ?_) (fun _ => ?_)))
      have : a = l := by simpa using hJ.1
      subst this
      exact ⟨.inl rfl, hfin⟩
theorem acc_frz1 {h : Heap} {e sz : Nat} (rows : List (List AV)) (hr : ∀ r, r ∈ rows → r.length = sz ∧ ∀ x, x ∈ r → static x = true) : frz1 (accH h e rows) h.length (accA h sz rows) = some (accV sz rows) := by
  cases rows with
  | nil => rfl
  | cons r l =>
    have := acc_frz (h := h) (e := e) (r :: l) hr
    unfold hand at this
    rw [if_pos rfl] at this
    have h2 : frz (accH h e (r :: l)) h.length (accA h sz (r :: l)) = frz1 (accH h e (r :: l)) h.length (accA h sz (r :: l)) := rfl
    rw [h2] at this
    cases hf : frz1 (accH h e (r :: l)) h.length (accA h sz (r :: l)) with
    | none => rw [hf] at this; cases this
    | some b =>
      rw [hf] at this
      injection this with this
      injection this with this _
      rw [this]
theorem nilz_acc {sz : Nat} (hsz : sz ≠ 0) (rows : List (List AV)) : nilz sz (accV sz rows) = .vs sz rows := by
  cases rows with
  | nil => simp [accV, nilz, hsz]
  | cons r l => rfl
theorem ecopy_fin (h : Heap) (op n c : Int) (l : List Ex') : handF (some ⟨0, [0, 0, 0, 4]⟩) true h (.agg [.int .i64 op, .int .i64 n, .int .i64 c, accA h 4 (exsC l)]) (accH h 28 (exsC l)) = some (.agg (exC (.mk op n c l)), h) := by
  have h1 := acc_frz1 (h := h) (e := 28) (exsC l) (exsC_row l)
  have hi : ∀ (H : Heap) (z : Int), frz1 H h.length (.int .i64 z) = some (.int .i64 z) := fun _ _ => rfl
  have h2 : frz (accH h 28 (exsC l)) h.length (.agg [.int .i64 op, .int .i64 n, .int .i64 c, accA h 4 (exsC l)]) = some (.agg [.int .i64 op, .int .i64 n, .int .i64 c, accV 4 (exsC l)]) := by
    simp only [frz, frz2, frzL, hi, h1]
  unfold handF hand
  simp only [if_true, h2, nzA, nilzL, nilz_acc (show (4 : Nat) ≠ 0 by decide), exC]
  rfl
def ecS (h : Heap) (op n c : Int) (l : List Ex') (i : Int) (a : List Ex') : St :=
  { env := [(1, .p 1 0), (2, .p 2 0), (3, .p 3 0), (4, .v (.int .i64 i))], loc := [(1, exC (.mk op n c l)), (2, [.int .i64 0, .int .i64 0, .int .i64 0, .nils]), (3, [.int .i64 op, .int .i64 n, .int .i64 c, accA h 4 (exsC a)])], heap := accH h 28 (exsC a), inRound := false, lo := h.length }
theorem ecopy_run : ∀ (k : Nat) (e : Ex'), exK e + 1 ≤ k → exK e ≤ 1000000 → ∀ (h : Heap) (lo : Nat), call Try.prog cfg k lo (.func 125) [.agg (exC e)] h = some (.agg (exC e), h)
  | 0, e, hk, _, _, _ => by have := exK_pos e; omega
  | k + 1, .mk op n c l, hk, hK, h, lo => by
    rw [exK] at hk hK
    have hlen := exsK_len l
    have hfin := ecopy_fin h op n c l
    apply W_call Try.func125 rfl (Nat.le_of_ble_eq_true rfl) rfl
    (repeat' (first | apply W_seq | refine W_true rfl rfl ?_ | refine W_false rfl rfl ?_ | refine W_region (id := 0) rfl ?_ | refine W_region (id := 1) rfl ?_ | refine W_region (id := 2) rfl ?_ | apply W_skip | apply W_block | apply W_ret | apply W_exit | refine W_true rfl (by assumption) ?_ | refine W_false rfl (by assumption) ?_ | refine W_cond rfl (fun _ => ?_) (fun _ => ?_)))
    apply W_iterI (S := ecS h op n c l) (l := l) (a0 := []) (fun i rest a => a ++ rest = l ∧ a.length = i) (by omega) (by omega) rfl ⟨rfl, rfl⟩
    · intro i e rest a hi hd hil hJ
      have hrow := exsC_get _ _ _ hi
      have hlt := lt_exs hil
      have hap := ex_append h a e (by omega)
      have hm := exsK_mem1 l i _ hi
      have ih := ecopy_run k e (by omega) (by omega) (accH h 28 (exsC a)) (accH h 28 (exsC a)).length
      obtain ⟨y, ys, hy⟩ : ∃ y ys, a ++ [e] = y :: ys := by cases a <;> exact ⟨_, _, rfl⟩
      rw [hy] at hap
      obtain ⟨op', n', c', es⟩ := e
      (repeat' (first | apply W_seq | refine W_true rfl rfl ?_ | refine W_false rfl rfl ?_ | (refine W_ops (id := 3) ?_ <;> refine T_ch 4 rfl ?_ <;> (refine T_go rfl ?_; first | refine G_true rfl rfl ?_ | refine G_false rfl rfl ?_ | refine G_true rfl (by with_reducible assumption) ?_ | refine G_false rfl (by with_reducible assumption) ?_ | refine G_true rfl (by assumption) ?_ | refine G_false rfl (by assumption) ?_ | refine G_split rfl (fun _ => ?_) (fun _ => ?_)) <;> apply T_nil) | refine W_region (id := 4) rfl ?_ | (refine W_dops (id := 5) (bs := [0, 1, 0, 4, 0, 28, 60, 124, 252, 511, 1023, 2047]) (by decide +kernel) ?_ <;> (refine U_go rfl ?_; refine H_free (by decide +kernel) rfl rfl rfl rfl rfl ?_) <;> (refine U_go rfl ?_; refine H_free (by decide +kernel) rfl rfl rfl rfl rfl ?_) <;> (refine U_go rfl ?_; refine H_free (by decide +kernel) rfl rfl rfl rfl rfl ?_) <;> (refine U_go rfl ?_; refine H_free (by decide +kernel) rfl rfl rfl rfl rfl ?_) <;> (refine U_go rfl ?_; refine H_free (by decide +kernel) rfl rfl rfl rfl rfl ?_) <;> (refine U_go rfl ?_; first | refine H_free (by decide +kernel) rfl (O_index rfl rfl rfl rfl rfl (by assumption)) rfl rfl rfl ?_ | refine H_free (by decide +kernel) rfl (O_indexI rfl rfl rfl rfl rfl (by assumption)) rfl rfl rfl ?_ | refine H_free (by decide +kernel) rfl (O_indexH rfl rfl rfl rfl rfl (by assumption) (by assumption) (by assumption)) rfl rfl rfl ?_ | refine H_free (by decide +kernel) rfl rfl rfl rfl rfl ?_) <;> (refine U_go rfl ?_; first | refine H_free (by decide +kernel) rfl rfl rfl rfl rfl ?_ | refine H_free (by decide +kernel) rfl (O_loadS rfl rfl rfl rfl (by assumption) rfl rfl) rfl rfl rfl ?_ | refine H_free (by decide +kernel) rfl (O_loadH rfl rfl rfl (by assumption) rfl rfl) rfl rfl rfl ?_) <;> (refine U_go rfl ?_; first | refine H_free (by decide +kernel) rfl (O_call rfl rfl rfl rfl (by assumption)) rfl rfl rfl ?_ | refine H_make (by decide +kernel) rfl (O_call rfl rfl rfl rfl (by assumption)) rfl rfl rfl ?_) <;> (refine U_go rfl ?_; first | refine H_free (by decide +kernel) rfl rfl rfl rfl rfl ?_ | refine H_make (by decide +kernel) rfl rfl rfl rfl rfl ?_) <;> (refine U_go rfl ?_; first | refine H_op (by decide +kernel) (O_append rfl rfl rfl rfl rfl (by assumption)) ?_ | refine H_op (by decide +kernel) rfl ?_) <;> (refine U_go rfl ?_; refine H_op (by decide +kernel) rfl ?_) <;> (refine U_go rfl ?_; refine H_op (by decide +kernel) rfl ?_) <;> apply U_nil) | apply W_skip | apply W_block | apply W_ret | apply W_exit | refine W_true rfl (by assumption) ?_ | refine W_false rfl (by assumption) ?_ | refine W_cond rfl (fun _ => ?_) (fun _ => ?_)))
      exact ⟨y :: ys, rfl, by rw [← hJ.1, ← hy]; simp, by rw [← hy]; simp [hJ.2]⟩
    · intro a hJ
      have hlt := ge_exs (l := l)
      (repeat' (first | apply W_seq | refine W_true rfl rfl ?_ | refine W_false rfl rfl ?_ | (refine W_ops (id := 3) ?_ <;> refine T_ch 4 rfl ?_ <;> (refine T_go rfl ?_; first | refine G_true rfl rfl ?_ | refine G_false rfl rfl ?_ | refine G_true rfl (by with_reducible assumption) ?_ | refine G_false rfl (by with_reducible assumption) ?_ | refine G_true rfl (by assumption) ?_ | refine G_false rfl (by assumption) ?_ | refine G_split rfl (fun _ => ?_) (fun _ => ?_)) <;> apply T_nil) | refine W_region (id := 6) rfl ?_ | apply W_skip | apply W_block | apply W_ret | apply W_exit | refine W_true rfl (by assumption) ?_ | refine W_false rfl (by assumption) ?_ | refine W_cond rfl (fun _ => ?_) (fun _ => ?_)))
      have : a = l := by simpa using hJ.1
      subst this
      exact ⟨.inl rfl, hfin⟩

theorem smC_row (s : Sm') : (smC s).length = 5 ∧ ∀ x, x ∈ smC s → static x = true := by
  obtain ⟨op, n, a, t, e⟩ := s
  rw [smC]
  refine ⟨rfl, fun x hx => ?_⟩
  simp only [List.mem_cons, List.not_mem_nil, or_false] at hx
  rcases hx with rfl | rfl | rfl | rfl | rfl <;> rfl
theorem smsC_mp : ∀ l : List Sm', smsC l = l.map smC
  | [] => rfl
  | s :: l => by rw [smsC, smsC_mp l]; rfl
theorem smsC_row (l : List Sm') : ∀ r, r ∈ smsC l → r.length = 5 ∧ ∀ x, x ∈ r → static x = true := by
  intro r hr
  rw [smsC_mp] at hr
  obtain ⟨s, _, rfl⟩ := List.mem_map.1 hr
  exact smC_row s
theorem sm_append (h : Heap) (l : List Sm') (s : Sm') (hl : l.length < 1000000) : append cfg.tab h.length (accH h 86 (smsC l)) 23 (accA h 5 (smsC l)) (.vs 5 [smC s]) = some (accA h 5 (smsC (l ++ [s])), accH h 86 (smsC (l ++ [s]))) := by
  have := acc_append (tab := cfg.tab) (lo := h.length) (h := h) (t := 23) (e := 86) rfl rfl (by decide) (Nat.le_refl _) (smsC l) [smC s] (fun r hr => (smsC_row l r hr).1) (by rw [smsC_len]; simp only [List.length_cons, List.length_nil, room]; show (l.length + (0 + 1)) * 88 ≤ _; omega) (by rw [smsC_len]; simp [room]; omega)
  rw [this]
  simp [smsC_mp]
def csS (h : Heap) (l : List Sm') (i : Int) (a : List Sm') : St :=
  { env := [(3, .v (accA h 5 (smsC a))), (6, .v (.vs 5 (smsC l))), (7, .v (.int .i64 (smsC l).length)), (8, .v (.int .i64 i))], loc := [], heap := accH h 86 (smsC a), inRound := false, lo := h.length }
theorem copied_run : ∀ (k : Nat) (l : List Sm'), smsK l + 1 ≤ k → smsK l ≤ 1000000 → ∀ (h : Heap) (lo : Nat), call Try.prog cfg k lo (.func 67) [.vs 5 (smsC l)] h = some (.vs 5 (smsC l), h)
  | 0, l, hk, _, _, _ => by omega
  | k + 1, l, hk, hK, h, lo => by
    have hlen := smsK_len l
    have hfin := acc_fin0 (h := h) (e := 86) (sz := 5) (by decide) (smsC l) (smsC_row l)
    apply W_call Try.func67 rfl (Nat.le_of_ble_eq_true rfl) rfl
    (repeat' (first | apply W_seq | refine W_true rfl rfl ?_ | refine W_false rfl rfl ?_ | refine W_region (id := 0) rfl ?_ | refine W_region (id := 1) rfl ?_ | refine W_region (id := 2) rfl ?_ | apply W_skip | apply W_block | apply W_ret | apply W_exit | refine W_true rfl (by assumption) ?_ | refine W_false rfl (by assumption) ?_ | refine W_cond rfl (fun _ => ?_) (fun _ => ?_)))
    apply W_iterI (S := csS h l) (l := l) (a0 := []) (fun i rest a => a ++ rest = l ∧ a.length = i) (by omega) (by omega) rfl ⟨rfl, rfl⟩
    · intro i s rest a hi hd hil hJ
      have hrow := smsC_get _ _ _ hi
      have hlt := lt_sms hil
      have hap := sm_append h a s (by omega)
      have hm := smsK_mem l i _ hi
      obtain ⟨op, n, ar, t, e⟩ := s
      rw [smK] at hm
      have hp1 := exsK_pos ar
      have hp2 := smsK_pos t
      have hp3 := smsK_pos e
      have ih1 := copiedEs_run k ar (by omega) (by omega) (accH h 86 (smsC a)) (accH h 86 (smsC a)).length
      have ih2 := copied_run k t (by omega) (by omega) (accH h 86 (smsC a)) (accH h 86 (smsC a)).length
      have ih3 := copied_run k e (by omega) (by omega) (accH h 86 (smsC a)) (accH h 86 (smsC a)).length
      (repeat' (first | apply W_seq | refine W_true rfl rfl ?_ | refine W_false rfl rfl ?_ | (refine W_ops (id := 3) ?_ <;> (refine T_go rfl ?_; first | refine G_true rfl rfl ?_ | refine G_false rfl rfl ?_ | refine G_true rfl (by with_reducible assumption) ?_ | refine G_false rfl (by with_reducible assumption) ?_ | refine G_true rfl (by assumption) ?_ | refine G_false rfl (by assumption) ?_ | refine G_split rfl (fun _ => ?_) (fun _ => ?_)) <;> apply T_nil) | (refine W_ops (id := 4) ?_ <;> (refine T_go rfl ?_; first | refine G_op (O_index rfl rfl rfl rfl rfl (by assumption)) ?_ | refine G_op (O_indexI rfl rfl rfl rfl rfl (by assumption)) ?_ | refine G_op (O_indexH rfl rfl rfl rfl rfl (by assumption) (by assumption) (by assumption)) ?_ | refine G_op rfl ?_) <;> (refine T_go rfl ?_; first | refine G_op rfl ?_ | refine G_op (O_loadS rfl rfl rfl rfl (by assumption) rfl rfl) ?_ | refine G_op (O_loadH rfl rfl rfl (by assumption) rfl rfl) ?_) <;> refine T_ch 2 rfl ?_ <;> apply T_nil) | (refine W_dops (id := 5) (bs := [0, 1, 3, 0, 8, 31, 0, 64, 255, 223, 1023, 2047, 4095, 8191, 16383]) (by decide +kernel) ?_ <;> (refine U_go rfl ?_; refine H_free (by decide +kernel) rfl rfl rfl rfl rfl ?_) <;> (refine U_go rfl ?_; refine H_free (by decide +kernel) rfl rfl rfl rfl rfl ?_) <;> (refine U_go rfl ?_; first | refine H_free (by decide +kernel) rfl (O_call rfl rfl rfl rfl (by assumption)) rfl rfl rfl ?_ | refine H_make (by decide +kernel) rfl (O_call rfl rfl rfl rfl (by assumption)) rfl rfl rfl ?_) <;> (refine U_go rfl ?_; refine H_free (by decide +kernel) rfl rfl rfl rfl rfl ?_) <;> (refine U_go rfl ?_; refine H_free (by decide +kernel) rfl rfl rfl rfl rfl ?_) <;> (refine U_go rfl ?_; first | refine H_free (by decide +kernel) rfl (O_call rfl rfl rfl rfl (by assumption)) rfl rfl rfl ?_ | refine H_make (by decide +kernel) rfl (O_call rfl rfl rfl rfl (by assumption)) rfl rfl rfl ?_) <;> (refine U_go rfl ?_; refine H_free (by decide +kernel) rfl rfl rfl rfl rfl ?_) <;> (refine U_go rfl ?_; refine H_free (by decide +kernel) rfl rfl rfl rfl rfl ?_) <;> (refine U_go rfl ?_; first | refine H_free (by decide +kernel) rfl (O_call rfl rfl rfl rfl (by assumption)) rfl rfl rfl ?_ | refine H_make (by decide +kernel) rfl (O_call rfl rfl rfl rfl (by assumption)) rfl rfl rfl ?_) <;> (refine U_go rfl ?_; refine H_free (by decide +kernel) rfl rfl rfl rfl rfl ?_) <;> (refine U_go rfl ?_; refine H_op (by decide +kernel) rfl ?_) <;> (refine U_go rfl ?_; refine H_op (by decide +kernel) rfl ?_) <;> (refine U_go rfl ?_; refine H_op (by decide +kernel) rfl ?_) <;> (refine U_go rfl ?_; refine H_op (by decide +kernel) rfl ?_) <;> (refine U_go rfl ?_; refine H_op (by decide +kernel) rfl ?_) <;> apply U_nil) | (refine W_ops (id := 6) ?_ <;> refine T_ch 3 rfl ?_ <;> (refine T_go rfl ?_; first | refine G_op (O_append rfl rfl rfl rfl rfl (by assumption)) ?_ | refine G_op rfl ?_) <;> refine T_ch 1 rfl ?_ <;> apply T_nil) | refine W_region (id := 7) rfl ?_ | apply W_skip | apply W_block | apply W_ret | apply W_exit | refine W_true rfl (by assumption) ?_ | refine W_false rfl (by assumption) ?_ | refine W_cond rfl (fun _ => ?_) (fun _ => ?_)))
      exact ⟨a ++ [.mk op n ar t e], rfl, by rw [← hJ.1]; simp, by simp [hJ.2]⟩
    · intro a hJ
      have hlt := ge_sms (l := l)
      (repeat' (first | apply W_seq | refine W_true rfl rfl ?_ | refine W_false rfl rfl ?_ | (refine W_ops (id := 3) ?_ <;> (refine T_go rfl ?_; first | refine G_true rfl rfl ?_ | refine G_false rfl rfl ?_ | refine G_true rfl (by with_reducible assumption) ?_ | refine G_false rfl (by with_reducible assumption) ?_ | refine G_true rfl (by assumption) ?_ | refine G_false rfl (by assumption) ?_ | refine G_split rfl (fun _ => ?_) (fun _ => ?_)) <;> apply T_nil) | refine W_region (id := 8) rfl ?_ | apply W_skip | apply W_block | apply W_ret | apply W_exit | refine W_true rfl (by assumption) ?_ | refine W_false rfl (by assumption) ?_ | refine W_cond rfl (fun _ => ?_) (fun _ => ?_)))
      have : a = l := by simpa using hJ.1
      subst this
      exact ⟨.inl rfl, hfin⟩
end Go.Proofs.Ytelobnllkhnpaaa.L
/- The reference says that what is the same is the same: ref02.Same, ref03.exprs, SameStmt, SameRows, SameVars, Same. -/
open Go Go.Proofs Go.Ev Go.Proofs.Ytelobnllkhnpaaa.E
namespace Go.Proofs.Ytelobnllkhnpaaa.L
set_option linter.unusedVariables false
set_option linter.unusedSimpArgs false
set_option maxRecDepth 100000

theorem ne_self (z : Int) : (z != z) = false := by simp
theorem eq_self' (z : Int) : (z == z) = true := by simp
def seS (h : Heap) (e : Ex') (i : Int) (_ : Unit) : St :=
  { env := [(2, .p 2 0), (3, .p 3 0), (5, .v (.int .i64 i))], loc := [(2, exC e), (3, exC e)], heap := h, inRound := false, lo := h.length }
theorem sameE_run : ∀ (k : Nat) (e : Ex'), exK e + 1 ≤ k → exB e → ∀ (h : Heap) (lo : Nat), call Try.prog cfg k lo (.func 76) [.agg (exC e), .agg (exC e)] h = some (.bool true, h)
  | 0, e, hk, _, _, _ => by have := exK_pos e; omega
  | k + 1, .mk op n c l, hk, hb, h, lo => by
    rw [exK] at hk
    rw [exB] at hb
    have hlen := exsK_len l
    have h1 := ne_self op
    have h2 := ne_self n
    have h3 := ne_self c
    have h4 := ne_self ((exsC l).length : Int)
    apply W_call Try.func76 rfl (Nat.le_of_ble_eq_true rfl) rfl
    (repeat' (first | apply W_seq | refine W_true rfl rfl ?_ | refine W_false rfl rfl ?_ | refine W_region (id := 0) rfl ?_ | (refine W_ops (id := 1) ?_ <;> refine T_ch 4 rfl ?_ <;> (refine T_go rfl ?_; first | refine G_true rfl rfl ?_ | refine G_false rfl rfl ?_ | refine G_true rfl (by with_reducible assumption) ?_ | refine G_false rfl (by with_reducible assumption) ?_ | refine G_true rfl (by assumption) ?_ | refine G_false rfl (by assumption) ?_ | refine G_split rfl (fun _ => ?_) (fun _ => ?_)) <;> refine T_ch 5 rfl ?_ <;> (first | refine T_skip rfl ?_ | (refine T_go rfl ?_; first | refine G_true rfl rfl ?_ | refine G_false rfl rfl ?_ | refine G_true rfl (by with_reducible assumption) ?_ | refine G_false rfl (by with_reducible assumption) ?_ | refine G_true rfl (by assumption) ?_ | refine G_false rfl (by assumption) ?_ | refine G_split rfl (fun _ => ?_) (fun _ => ?_))) <;> refine T_ch 6 rfl ?_ <;> (first | refine T_skip rfl ?_ | (refine T_go rfl ?_; first | refine G_true rfl rfl ?_ | refine G_false rfl rfl ?_ | refine G_true rfl (by with_reducible assumption) ?_ | refine G_false rfl (by with_reducible assumption) ?_ | refine G_true rfl (by assumption) ?_ | refine G_false rfl (by assumption) ?_ | refine G_split rfl (fun _ => ?_) (fun _ => ?_))) <;> refine T_ch 8 rfl ?_ <;> (first | refine T_skip rfl ?_ | (refine T_go rfl ?_; first | refine G_true rfl rfl ?_ | refine G_false rfl rfl ?_ | refine G_true rfl (by with_reducible assumption) ?_ | refine G_false rfl (by with_reducible assumption) ?_ | refine G_true rfl (by assumption) ?_ | refine G_false rfl (by assumption) ?_ | refine G_split rfl (fun _ => ?_) (fun _ => ?_))) <;> refine T_ch 1 rfl ?_ <;> apply T_nil) | refine W_region (id := 2) rfl ?_ | refine W_region (id := 3) rfl ?_ | apply W_skip | apply W_block | apply W_ret | apply W_exit | refine W_true rfl (by assumption) ?_ | refine W_false rfl (by assumption) ?_ | refine W_cond rfl (fun _ => ?_) (fun _ => ?_)))
    apply W_iter (S := seS h (.mk op n c l)) (l := l) (a0 := ()) (fun _ _ => True) hb.1 (by omega) rfl trivial
    · intro i e rest a hi hd hil hJ
      have hrow := exsC_get _ _ _ hi
      have hlt := lt_exs hil
      have hm := exsK_mem1 l i _ hi
      have ih := sameE_run k e (by omega) (exsB_mem l i _ hb.2 hi) h h.length
      obtain ⟨op', n', c', es⟩ := e
      (repeat' (first | apply W_seq | refine W_true rfl rfl ?_ | refine W_false rfl rfl ?_ | (refine W_ops (id := 4) ?_ <;> refine T_ch 4 rfl ?_ <;> (refine T_go rfl ?_; first | refine G_true rfl rfl ?_ | refine G_false rfl rfl ?_ | refine G_true rfl (by with_reducible assumption) ?_ | refine G_false rfl (by with_reducible assumption) ?_ | refine G_true rfl (by assumption) ?_ | refine G_false rfl (by assumption) ?_ | refine G_split rfl (fun _ => ?_) (fun _ => ?_)) <;> apply T_nil) | refine W_region (id := 5) rfl ?_ | (refine W_dops (id := 6) (bs := [0, 1, 0, 7, 15, 0, 32, 0, 224, 480, 1023, 2047]) (by decide +kernel) ?_ <;> (refine U_go rfl ?_; refine H_free (by decide +kernel) rfl rfl rfl rfl rfl ?_) <;> (refine U_go rfl ?_; refine H_free (by decide +kernel) rfl rfl rfl rfl rfl ?_) <;> (refine U_go rfl ?_; refine H_free (by decide +kernel) rfl rfl rfl rfl rfl ?_) <;> (refine U_go rfl ?_; first | refine H_free (by decide +kernel) rfl (O_index rfl rfl rfl rfl rfl (by assumption)) rfl rfl rfl ?_ | refine H_free (by decide +kernel) rfl (O_indexI rfl rfl rfl rfl rfl (by assumption)) rfl rfl rfl ?_ | refine H_free (by decide +kernel) rfl (O_indexH rfl rfl rfl rfl rfl (by assumption) (by assumption) (by assumption)) rfl rfl rfl ?_ | refine H_free (by decide +kernel) rfl rfl rfl rfl rfl ?_) <;> (refine U_go rfl ?_; first | refine H_free (by decide +kernel) rfl rfl rfl rfl rfl ?_ | refine H_free (by decide +kernel) rfl (O_loadS rfl rfl rfl rfl (by assumption) rfl rfl) rfl rfl rfl ?_ | refine H_free (by decide +kernel) rfl (O_loadH rfl rfl rfl (by assumption) rfl rfl) rfl rfl rfl ?_) <;> (refine U_go rfl ?_; refine H_free (by decide +kernel) rfl rfl rfl rfl rfl ?_) <;> (refine U_go rfl ?_; refine H_free (by decide +kernel) rfl rfl rfl rfl rfl ?_) <;> (refine U_go rfl ?_; refine H_free (by decide +kernel) rfl rfl rfl rfl rfl ?_) <;> (refine U_go rfl ?_; first | refine H_free (by decide +kernel) rfl (O_index rfl rfl rfl rfl rfl (by assumption)) rfl rfl rfl ?_ | refine H_free (by decide +kernel) rfl (O_indexI rfl rfl rfl rfl rfl (by assumption)) rfl rfl rfl ?_ | refine H_free (by decide +kernel) rfl (O_indexH rfl rfl rfl rfl rfl (by assumption) (by assumption) (by assumption)) rfl rfl rfl ?_ | refine H_free (by decide +kernel) rfl rfl rfl rfl rfl ?_) <;> (refine U_go rfl ?_; first | refine H_free (by decide +kernel) rfl rfl rfl rfl rfl ?_ | refine H_free (by decide +kernel) rfl (O_loadS rfl rfl rfl rfl (by assumption) rfl rfl) rfl rfl rfl ?_ | refine H_free (by decide +kernel) rfl (O_loadH rfl rfl rfl (by assumption) rfl rfl) rfl rfl rfl ?_) <;> (refine U_go rfl ?_; first | refine H_true (by decide +kernel) (O_call rfl rfl rfl rfl (by assumption)) rfl ?_ | refine H_false (by decide +kernel) (O_call rfl rfl rfl rfl (by assumption)) rfl ?_ | refine H_true (by decide +kernel) (O_call rfl rfl rfl rfl (by assumption)) (by with_reducible assumption) ?_ | refine H_false (by decide +kernel) (O_call rfl rfl rfl rfl (by assumption)) (by with_reducible assumption) ?_ | refine H_true (by decide +kernel) (O_call rfl rfl rfl rfl (by assumption)) (by assumption) ?_ | refine H_false (by decide +kernel) (O_call rfl rfl rfl rfl (by assumption)) (by assumption) ?_ | refine H_split (by decide +kernel) (O_call rfl rfl rfl rfl (by assumption)) (fun _ => ?_) (fun _ => ?_)) <;> (refine U_go rfl ?_; refine H_op (by decide +kernel) rfl ?_) <;> apply U_nil) | refine W_region (id := 7) rfl ?_ | apply W_skip | apply W_block | apply W_ret | apply W_exit | refine W_true rfl (by assumption) ?_ | refine W_false rfl (by assumption) ?_ | refine W_cond rfl (fun _ => ?_) (fun _ => ?_)))
      exact ⟨(), rfl, trivial⟩
    · intro a hJ
      have hlt := ge_exs (l := l)
      (repeat' (first | apply W_seq | refine W_true rfl rfl ?_ | refine W_false rfl rfl ?_ | (refine W_ops (id := 4) ?_ <;> refine T_ch 4 rfl ?_ <;> (refine T_go rfl ?_; first | refine G_true rfl rfl ?_ | refine G_false rfl rfl ?_ | refine G_true rfl (by with_reducible assumption) ?_ | refine G_false rfl (by with_reducible assumption) ?_ | refine G_true rfl (by assumption) ?_ | refine G_false rfl (by assumption) ?_ | refine G_split rfl (fun _ => ?_) (fun _ => ?_)) <;> apply T_nil) | refine W_region (id := 8) rfl ?_ | apply W_skip | apply W_block | apply W_ret | apply W_exit | refine W_true rfl (by assumption) ?_ | refine W_false rfl (by assumption) ?_ | refine W_cond rfl (fun _ => ?_) (fun _ => ?_)))
      exact ⟨.inl rfl, rfl⟩
def sxS (h : Heap) (l : List Ex') (i : Int) (_ : Unit) : St :=
  { env := [(0, .v (.vs 4 (exsC l))), (1, .v (.vs 4 (exsC l))), (5, .v (.int .i64 i))], loc := [], heap := h, inRound := false, lo := h.length }
theorem sameEs_run (k : Nat) (l : List Ex') (hk : exsK l + 1 ≤ k) (hl : l.length < 9223372036854775808) (hb : exsB l) (h : Heap) (lo : Nat) : call Try.prog cfg (k + 1) lo (.func 124) [.vs 4 (exsC l), .vs 4 (exsC l)] h = some (.bool true, h) := by
  have hlen := exsK_len l
  have h4 := ne_self ((exsC l).length : Int)
  apply W_call Try.func124 rfl (Nat.le_of_ble_eq_true rfl) rfl
  (repeat' (first | apply W_seq | refine W_true rfl rfl ?_ | refine W_false rfl rfl ?_ | refine W_region (id := 0) rfl ?_ | (refine W_ops (id := 1) ?_ <;> refine T_ch 4 rfl ?_ <;> (refine T_go rfl ?_; first | refine G_true rfl rfl ?_ | refine G_false rfl rfl ?_ | refine G_true rfl (by with_reducible assumption) ?_ | refine G_false rfl (by with_reducible assumption) ?_ | refine G_true rfl (by assumption) ?_ | refine G_false rfl (by assumption) ?_ | refine G_split rfl (fun _ => ?_) (fun _ => ?_)) <;> apply T_nil) | refine W_region (id := 2) rfl ?_ | refine W_region (id := 3) rfl ?_ | apply W_skip | apply W_block | apply W_ret | apply W_exit | refine W_true rfl (by assumption) ?_ | refine W_false rfl (by assumption) ?_ | refine W_cond rfl (fun _ => ?_) (fun _ => ?_)))
  apply W_iter (S := sxS h l) (l := l) (a0 := ()) (fun _ _ => True) hl (by omega) rfl trivial
  · intro i e rest a hi hd hil hJ
    have hrow := exsC_get _ _ _ hi
    have hlt := lt_exs hil
    have hm := exsK_mem l i _ hi
    have ih := sameE_run k e (by omega) (exsB_mem l i _ hb hi) h h.length
    obtain ⟨op', n', c', es⟩ := e
    (repeat' (first | apply W_seq | refine W_true rfl rfl ?_ | refine W_false rfl rfl ?_ | (refine W_ops (id := 4) ?_ <;> refine T_ch 3 rfl ?_ <;> (refine T_go rfl ?_; first | refine G_true rfl rfl ?_ | refine G_false rfl rfl ?_ | refine G_true rfl (by with_reducible assumption) ?_ | refine G_false rfl (by with_reducible assumption) ?_ | refine G_true rfl (by assumption) ?_ | refine G_false rfl (by assumption) ?_ | refine G_split rfl (fun _ => ?_) (fun _ => ?_)) <;> apply T_nil) | refine W_region (id := 5) rfl ?_ | (refine W_dops (id := 6) (bs := [0, 0, 3, 7, 0, 0, 48, 112, 255, 511]) (by decide +kernel) ?_ <;> (refine U_go rfl ?_; refine H_free (by decide +kernel) rfl rfl rfl rfl rfl ?_) <;> (refine U_go rfl ?_; refine H_free (by decide +kernel) rfl rfl rfl rfl rfl ?_) <;> (refine U_go rfl ?_; first | refine H_free (by decide +kernel) rfl (O_index rfl rfl rfl rfl rfl (by assumption)) rfl rfl rfl ?_ | refine H_free (by decide +kernel) rfl (O_indexI rfl rfl rfl rfl rfl (by assumption)) rfl rfl rfl ?_ | refine H_free (by decide +kernel) rfl (O_indexH rfl rfl rfl rfl rfl (by assumption) (by assumption) (by assumption)) rfl rfl rfl ?_ | refine H_free (by decide +kernel) rfl rfl rfl rfl rfl ?_) <;> (refine U_go rfl ?_; first | refine H_free (by decide +kernel) rfl rfl rfl rfl rfl ?_ | refine H_free (by decide +kernel) rfl (O_loadS rfl rfl rfl rfl (by assumption) rfl rfl) rfl rfl rfl ?_ | refine H_free (by decide +kernel) rfl (O_loadH rfl rfl rfl (by assumption) rfl rfl) rfl rfl rfl ?_) <;> (refine U_go rfl ?_; refine H_free (by decide +kernel) rfl rfl rfl rfl rfl ?_) <;> (refine U_go rfl ?_; refine H_free (by decide +kernel) rfl rfl rfl rfl rfl ?_) <;> (refine U_go rfl ?_; first | refine H_free (by decide +kernel) rfl (O_index rfl rfl rfl rfl rfl (by assumption)) rfl rfl rfl ?_ | refine H_free (by decide +kernel) rfl (O_indexI rfl rfl rfl rfl rfl (by assumption)) rfl rfl rfl ?_ | refine H_free (by decide +kernel) rfl (O_indexH rfl rfl rfl rfl rfl (by assumption) (by assumption) (by assumption)) rfl rfl rfl ?_ | refine H_free (by decide +kernel) rfl rfl rfl rfl rfl ?_) <;> (refine U_go rfl ?_; first | refine H_free (by decide +kernel) rfl rfl rfl rfl rfl ?_ | refine H_free (by decide +kernel) rfl (O_loadS rfl rfl rfl rfl (by assumption) rfl rfl) rfl rfl rfl ?_ | refine H_free (by decide +kernel) rfl (O_loadH rfl rfl rfl (by assumption) rfl rfl) rfl rfl rfl ?_) <;> (refine U_go rfl ?_; first | refine H_true (by decide +kernel) (O_call rfl rfl rfl rfl (by assumption)) rfl ?_ | refine H_false (by decide +kernel) (O_call rfl rfl rfl rfl (by assumption)) rfl ?_ | refine H_true (by decide +kernel) (O_call rfl rfl rfl rfl (by assumption)) (by with_reducible assumption) ?_ | refine H_false (by decide +kernel) (O_call rfl rfl rfl rfl (by assumption)) (by with_reducible assumption) ?_ | refine H_true (by decide +kernel) (O_call rfl rfl rfl rfl (by assumption)) (by assumption) ?_ | refine H_false (by decide +kernel) (O_call rfl rfl rfl rfl (by assumption)) (by assumption) ?_ | refine H_split (by decide +kernel) (O_call rfl rfl rfl rfl (by assumption)) (fun _ => ?_) (fun _ => ?_)) <;> (refine U_go rfl ?_; refine H_op (by decide +kernel) rfl ?_) <;> apply U_nil) | refine W_region (id := 7) rfl ?_ | apply W_skip | apply W_block | apply W_ret | apply W_exit | refine W_true rfl (by assumption) ?_ | refine W_false rfl (by assumption) ?_ | refine W_cond rfl (fun _ => ?_) (fun _ => ?_)))
    exact ⟨(), rfl, trivial⟩
  · intro a hJ
    have hlt := ge_exs (l := l)
    (repeat' (first | apply W_seq | refine W_true rfl rfl ?_ | refine W_false rfl rfl ?_ | (refine W_ops (id := 4) ?_ <;> refine T_ch 3 rfl ?_ <;> (refine T_go rfl ?_; first | refine G_true rfl rfl ?_ | refine G_false rfl rfl ?_ | refine G_true rfl (by with_reducible assumption) ?_ | refine G_false rfl (by with_reducible assumption) ?_ | refine G_true rfl (by assumption) ?_ | refine G_false rfl (by assumption) ?_ | refine G_split rfl (fun _ => ?_) (fun _ => ?_)) <;> apply T_nil) | refine W_region (id := 8) rfl ?_ | apply W_skip | apply W_block | apply W_ret | apply W_exit | refine W_true rfl (by assumption) ?_ | refine W_false rfl (by assumption) ?_ | refine W_cond rfl (fun _ => ?_) (fun _ => ?_)))
    exact ⟨.inl rfl, rfl⟩
def ssS (h : Heap) (l : List Sm') (i : Int) (_ : Unit) : St :=
  { env := [(0, .v (.vs 5 (smsC l))), (1, .v (.vs 5 (smsC l))), (5, .v (.int .i64 i))], loc := [], heap := h, inRound := false, lo := h.length }
theorem sameS_run : ∀ (k : Nat), (∀ s : Sm', smK s + 1 ≤ k → smB s → ∀ (h : Heap) (lo : Nat), call Try.prog cfg k lo (.func 97) [.agg (smC s), .agg (smC s)] h = some (.bool true, h)) ∧
    ∀ l : List Sm', smsK l + 1 ≤ k → l.length < 9223372036854775808 → smsB l → ∀ (h : Heap) (lo : Nat), call Try.prog cfg k lo (.func 69) [.vs 5 (smsC l), .vs 5 (smsC l)] h = some (.bool true, h)
  | 0 => ⟨fun s hk => by omega, fun l hk => by omega⟩
  | k + 1 => by
    obtain ⟨ihs, ihl⟩ := sameS_run k
    constructor
    · intro s hk hb h lo
      obtain ⟨op, n, ar, t, e⟩ := s
      rw [smK] at hk
      rw [smB] at hb
      obtain ⟨⟨ha1, ha2⟩, ⟨ht1, ht2⟩, he1, he2⟩ := hb
      have hp1 := exsK_pos ar
      have hp2 := smsK_pos t
      have hp3 := smsK_pos e
      have h1 := eq_self' op
      have h2 := eq_self' n
      have hA := sameEs_run (k - 1) ar (by omega) ha1 ha2 h h.length
      rw [show k - 1 + 1 = k by omega] at hA
      have hT := ihl t (by omega) ht1 ht2 h h.length
      have hE := ihl e (by omega) he1 he2 h h.length
      apply W_call Try.func97 rfl (Nat.le_of_ble_eq_true rfl) rfl
      (repeat' (first | apply W_seq | refine W_true rfl rfl ?_ | refine W_false rfl rfl ?_ | refine W_region (id := 0) rfl ?_ | (refine W_ops (id := 1) ?_ <;> refine T_ch 4 rfl ?_ <;> (refine T_go rfl ?_; first | refine G_true rfl rfl ?_ | refine G_false rfl rfl ?_ | refine G_true rfl (by with_reducible assumption) ?_ | refine G_false rfl (by with_reducible assumption) ?_ | refine G_true rfl (by assumption) ?_ | refine G_false rfl (by assumption) ?_ | refine G_split rfl (fun _ => ?_) (fun _ => ?_)) <;> refine T_ch 5 rfl ?_ <;> (first | refine T_skip rfl ?_ | (refine T_go rfl ?_; first | refine G_true rfl rfl ?_ | refine G_false rfl rfl ?_ | refine G_true rfl (by with_reducible assumption) ?_ | refine G_false rfl (by with_reducible assumption) ?_ | refine G_true rfl (by assumption) ?_ | refine G_false rfl (by assumption) ?_ | refine G_split rfl (fun _ => ?_) (fun _ => ?_))) <;> refine T_ch 6 rfl ?_ <;> (first | refine T_skip rfl ?_ | (refine T_go rfl ?_; first | refine G_true (O_call rfl rfl rfl rfl (by assumption)) rfl ?_ | refine G_false (O_call rfl rfl rfl rfl (by assumption)) rfl ?_ | refine G_true (O_call rfl rfl rfl rfl (by assumption)) (by with_reducible assumption) ?_ | refine G_false (O_call rfl rfl rfl rfl (by assumption)) (by with_reducible assumption) ?_ | refine G_true (O_call rfl rfl rfl rfl (by assumption)) (by assumption) ?_ | refine G_false (O_call rfl rfl rfl rfl (by assumption)) (by assumption) ?_ | refine G_split (O_call rfl rfl rfl rfl (by assumption)) (fun _ => ?_) (fun _ => ?_))) <;> refine T_ch 6 rfl ?_ <;> (first | refine T_skip rfl ?_ | (refine T_go rfl ?_; first | refine G_true (O_call rfl rfl rfl rfl (by assumption)) rfl ?_ | refine G_false (O_call rfl rfl rfl rfl (by assumption)) rfl ?_ | refine G_true (O_call rfl rfl rfl rfl (by assumption)) (by with_reducible assumption) ?_ | refine G_false (O_call rfl rfl rfl rfl (by assumption)) (by with_reducible assumption) ?_ | refine G_true (O_call rfl rfl rfl rfl (by assumption)) (by assumption) ?_ | refine G_false (O_call rfl rfl rfl rfl (by assumption)) (by assumption) ?_ | refine G_split (O_call rfl rfl rfl rfl (by assumption)) (fun _ => ?_) (fun _ => ?_))) <;> refine T_ch 6 rfl ?_ <;> (first | refine T_skip rfl ?_ | (refine T_go rfl ?_; first | refine G_true (O_call rfl rfl rfl rfl (by assumption)) rfl ?_ | refine G_false (O_call rfl rfl rfl rfl (by assumption)) rfl ?_ | refine G_true (O_call rfl rfl rfl rfl (by assumption)) (by with_reducible assumption) ?_ | refine G_false (O_call rfl rfl rfl rfl (by assumption)) (by with_reducible assumption) ?_ | refine G_true (O_call rfl rfl rfl rfl (by assumption)) (by assumption) ?_ | refine G_false (O_call rfl rfl rfl rfl (by assumption)) (by assumption) ?_ | refine G_split (O_call rfl rfl rfl rfl (by assumption)) (fun _ => ?_) (fun _ => ?_))) <;> refine T_ch 2 rfl ?_ <;> apply T_nil) | apply W_skip | apply W_block | apply W_ret | apply W_exit | refine W_true rfl (by assumption) ?_ | refine W_false rfl (by assumption) ?_ | refine W_cond rfl (fun _ => ?_) (fun _ => ?_)))
      exact ⟨.inl rfl, rfl⟩
    · intro l hk hl hb h lo
      have hlen := smsK_len l
      have h4 := ne_self ((smsC l).length : Int)
      apply W_call Try.func69 rfl (Nat.le_of_ble_eq_true rfl) rfl
      (repeat' (first | apply W_seq | refine W_true rfl rfl ?_ | refine W_false rfl rfl ?_ | refine W_region (id := 0) rfl ?_ | (refine W_ops (id := 1) ?_ <;> refine T_ch 4 rfl ?_ <;> (refine T_go rfl ?_; first | refine G_true rfl rfl ?_ | refine G_false rfl rfl ?_ | refine G_true rfl (by with_reducible assumption) ?_ | refine G_false rfl (by with_reducible assumption) ?_ | refine G_true rfl (by assumption) ?_ | refine G_false rfl (by assumption) ?_ | refine G_split rfl (fun _ => ?_) (fun _ => ?_)) <;> apply T_nil) | refine W_region (id := 2) rfl ?_ | refine W_region (id := 3) rfl ?_ | apply W_skip | apply W_block | apply W_ret | apply W_exit | refine W_true rfl (by assumption) ?_ | refine W_false rfl (by assumption) ?_ | refine W_cond rfl (fun _ => ?_) (fun _ => ?_)))
      apply W_iter (S := ssS h l) (l := l) (a0 := ()) (fun _ _ => True) hl (by omega) rfl trivial
      · intro i s rest a hi hd hil hJ
        have hrow := smsC_get _ _ _ hi
        have hlt := lt_sms hil
        have hm := smsK_mem2 l i _ hi
        have ih := ihs s (by omega) (smsB_mem l i _ hb hi) h h.length
        obtain ⟨op', n', ar', t', e'⟩ := s
        (repeat' (first | apply W_seq | refine W_true rfl rfl ?_ | refine W_false rfl rfl ?_ | (refine W_ops (id := 4) ?_ <;> refine T_ch 3 rfl ?_ <;> (refine T_go rfl ?_; first | refine G_true rfl rfl ?_ | refine G_false rfl rfl ?_ | refine G_true rfl (by with_reducible assumption) ?_ | refine G_false rfl (by with_reducible assumption) ?_ | refine G_true rfl (by assumption) ?_ | refine G_false rfl (by assumption) ?_ | refine G_split rfl (fun _ => ?_) (fun _ => ?_)) <;> apply T_nil) | refine W_region (id := 5) rfl ?_ | (refine W_dops (id := 6) (bs := [0, 0, 3, 7, 0, 0, 48, 112, 255, 511]) (by decide +kernel) ?_ <;> (refine U_go rfl ?_; refine H_free (by decide +kernel) rfl rfl rfl rfl rfl ?_) <;> (refine U_go rfl ?_; refine H_free (by decide +kernel) rfl rfl rfl rfl rfl ?_) <;> (refine U_go rfl ?_; first | refine H_free (by decide +kernel) rfl (O_index rfl rfl rfl rfl rfl (by assumption)) rfl rfl rfl ?_ | refine H_free (by decide +kernel) rfl (O_indexI rfl rfl rfl rfl rfl (by assumption)) rfl rfl rfl ?_ | refine H_free (by decide +kernel) rfl (O_indexH rfl rfl rfl rfl rfl (by assumption) (by assumption) (by assumption)) rfl rfl rfl ?_ | refine H_free (by decide +kernel) rfl rfl rfl rfl rfl ?_) <;> (refine U_go rfl ?_; first | refine H_free (by decide +kernel) rfl rfl rfl rfl rfl ?_ | refine H_free (by decide +kernel) rfl (O_loadS rfl rfl rfl rfl (by assumption) rfl rfl) rfl rfl rfl ?_ | refine H_free (by decide +kernel) rfl (O_loadH rfl rfl rfl (by assumption) rfl rfl) rfl rfl rfl ?_) <;> (refine U_go rfl ?_; refine H_free (by decide +kernel) rfl rfl rfl rfl rfl ?_) <;> (refine U_go rfl ?_; refine H_free (by decide +kernel) rfl rfl rfl rfl rfl ?_) <;> (refine U_go rfl ?_; first | refine H_free (by decide +kernel) rfl (O_index rfl rfl rfl rfl rfl (by assumption)) rfl rfl rfl ?_ | refine H_free (by decide +kernel) rfl (O_indexI rfl rfl rfl rfl rfl (by assumption)) rfl rfl rfl ?_ | refine H_free (by decide +kernel) rfl (O_indexH rfl rfl rfl rfl rfl (by assumption) (by assumption) (by assumption)) rfl rfl rfl ?_ | refine H_free (by decide +kernel) rfl rfl rfl rfl rfl ?_) <;> (refine U_go rfl ?_; first | refine H_free (by decide +kernel) rfl rfl rfl rfl rfl ?_ | refine H_free (by decide +kernel) rfl (O_loadS rfl rfl rfl rfl (by assumption) rfl rfl) rfl rfl rfl ?_ | refine H_free (by decide +kernel) rfl (O_loadH rfl rfl rfl (by assumption) rfl rfl) rfl rfl rfl ?_) <;> (refine U_go rfl ?_; first | refine H_true (by decide +kernel) (O_call rfl rfl rfl rfl (by assumption)) rfl ?_ | refine H_false (by decide +kernel) (O_call rfl rfl rfl rfl (by assumption)) rfl ?_ | refine H_true (by decide +kernel) (O_call rfl rfl rfl rfl (by assumption)) (by with_reducible assumption) ?_ | refine H_false (by decide +kernel) (O_call rfl rfl rfl rfl (by assumption)) (by with_reducible assumption) ?_ | refine H_true (by decide +kernel) (O_call rfl rfl rfl rfl (by assumption)) (by assumption) ?_ | refine H_false (by decide +kernel) (O_call rfl rfl rfl rfl (by assumption)) (by assumption) ?_ | refine H_split (by decide +kernel) (O_call rfl rfl rfl rfl (by assumption)) (fun _ => ?_) (fun _ => ?_)) <;> (refine U_go rfl ?_; refine H_op (by decide +kernel) rfl ?_) <;> apply U_nil) | refine W_region (id := 7) rfl ?_ | apply W_skip | apply W_block | apply W_ret | apply W_exit | refine W_true rfl (by assumption) ?_ | refine W_false rfl (by assumption) ?_ | refine W_cond rfl (fun _ => ?_) (fun _ => ?_)))
        exact ⟨(), rfl, trivial⟩
      · intro a hJ
        have hlt := ge_sms (l := l)
        (repeat' (first | apply W_seq | refine W_true rfl rfl ?_ | refine W_false rfl rfl ?_ | (refine W_ops (id := 4) ?_ <;> refine T_ch 3 rfl ?_ <;> (refine T_go rfl ?_; first | refine G_true rfl rfl ?_ | refine G_false rfl rfl ?_ | refine G_true rfl (by with_reducible assumption) ?_ | refine G_false rfl (by with_reducible assumption) ?_ | refine G_true rfl (by assumption) ?_ | refine G_false rfl (by assumption) ?_ | refine G_split rfl (fun _ => ?_) (fun _ => ?_)) <;> apply T_nil) | refine W_region (id := 8) rfl ?_ | apply W_skip | apply W_block | apply W_ret | apply W_exit | refine W_true rfl (by assumption) ?_ | refine W_false rfl (by assumption) ?_ | refine W_cond rfl (fun _ => ?_) (fun _ => ?_)))
        exact ⟨.inl rfl, rfl⟩
def svS (h : Heap) (l : List Vr') (i : Int) (_ : Unit) : St :=
  { env := [(0, .v (.vs 3 (vsC l))), (1, .v (.vs 3 (vsC l))), (5, .v (.int .i64 i))], loc := [], heap := h, inRound := false, lo := h.length }
theorem varSame (v : Vr') : Go.Ev.binop cfg.tab cfg.eqs .neq 76 (.agg (vrC v)) (.agg (vrC v)) = some (.bool false) := by
  show (eqStruct cfg.tab cfg.eqs 76 (vrC v) (vrC v)).map (fun r => AV.bool !r) = _
  have hk3 : ∀ a : Int, keyEq (.int .i64) (.int .i64 a) (.int .i64 a) = some true := fun a => by simp [keyEq]
  have hks : ∀ a : ByteArray, keyEq .str (.str a) (.str a) = some true := fun a => by
    have : (a == a) = true := by
      cases a with
      | mk d => show (d == d) = true; simp
    simp [keyEq, this]
  have hl3 : Go.Ev.look cfg.tab 3 = some ⟨.int .i64, 1, 8, [.int .i64 0]⟩ := rfl
  have hls : ∃ z, Go.Ev.look cfg.tab 9 = some ⟨.str, 1, 16, z⟩ := ⟨_, rfl⟩
  obtain ⟨z, hls⟩ := hls
  have : eqStruct cfg.tab cfg.eqs 76 (vrC v) (vrC v) = eqAll cfg.tab [(0, 9), (1, 3), (2, 3)] (vrC v) (vrC v) := rfl
  rw [this]
  simp only [vrC, eqAll, hl3, hls, hk3, hks]
  rfl
theorem sameVars_run (k : Nat) (l : List Vr') (hk : l.length < k) (hl : l.length < 9223372036854775808) (h : Heap) (lo : Nat) : call Try.prog cfg (k + 1) lo (.func 68) [.vs 3 (vsC l), .vs 3 (vsC l)] h = some (.bool true, h) := by
  have h4 := ne_self ((vsC l).length : Int)
  apply W_call Try.func68 rfl (Nat.le_of_ble_eq_true rfl) rfl
  (repeat' (first | apply W_seq | refine W_true rfl rfl ?_ | refine W_false rfl rfl ?_ | refine W_region (id := 0) rfl ?_ | (refine W_ops (id := 1) ?_ <;> refine T_ch 4 rfl ?_ <;> (refine T_go rfl ?_; first | refine G_true rfl rfl ?_ | refine G_false rfl rfl ?_ | refine G_true rfl (by with_reducible assumption) ?_ | refine G_false rfl (by with_reducible assumption) ?_ | refine G_true rfl (by assumption) ?_ | refine G_false rfl (by assumption) ?_ | refine G_split rfl (fun _ => ?_) (fun _ => ?_)) <;> apply T_nil) | refine W_region (id := 2) rfl ?_ | refine W_region (id := 3) rfl ?_ | apply W_skip | apply W_block | apply W_ret | apply W_exit | refine W_true rfl (by assumption) ?_ | refine W_false rfl (by assumption) ?_ | refine W_cond rfl (fun _ => ?_) (fun _ => ?_)))
  apply W_iter (S := svS h l) (l := l) (a0 := ()) (fun _ _ => True) hl (by omega) rfl trivial
  · intro i v rest a hi hd hil hJ
    have hrow := vsC_get hi
    have hlt := lt_vsC hil
    have hb := varSame v
    obtain ⟨nm, lv, cl⟩ := v
    (repeat' (first | apply W_seq | refine W_true rfl rfl ?_ | refine W_false rfl rfl ?_ | (refine W_ops (id := 4) ?_ <;> refine T_ch 3 rfl ?_ <;> (refine T_go rfl ?_; first | refine G_true rfl rfl ?_ | refine G_false rfl rfl ?_ | refine G_true rfl (by with_reducible assumption) ?_ | refine G_false rfl (by with_reducible assumption) ?_ | refine G_true rfl (by assumption) ?_ | refine G_false rfl (by assumption) ?_ | refine G_split rfl (fun _ => ?_) (fun _ => ?_)) <;> apply T_nil) | refine W_region (id := 5) rfl ?_ | (refine W_dops (id := 6) (bs := [0, 0, 3, 7, 0, 0, 48, 112, 255]) (by decide +kernel) ?_ <;> (refine U_go rfl ?_; refine H_free (by decide +kernel) rfl rfl rfl rfl rfl ?_) <;> (refine U_go rfl ?_; refine H_free (by decide +kernel) rfl rfl rfl rfl rfl ?_) <;> (refine U_go rfl ?_; first | refine H_free (by decide +kernel) rfl (O_index rfl rfl rfl rfl rfl (by assumption)) rfl rfl rfl ?_ | refine H_free (by decide +kernel) rfl (O_indexI rfl rfl rfl rfl rfl (by assumption)) rfl rfl rfl ?_ | refine H_free (by decide +kernel) rfl (O_indexH rfl rfl rfl rfl rfl (by assumption) (by assumption) (by assumption)) rfl rfl rfl ?_ | refine H_free (by decide +kernel) rfl rfl rfl rfl rfl ?_) <;> (refine U_go rfl ?_; first | refine H_free (by decide +kernel) rfl rfl rfl rfl rfl ?_ | refine H_free (by decide +kernel) rfl (O_loadS rfl rfl rfl rfl (by assumption) rfl rfl) rfl rfl rfl ?_ | refine H_free (by decide +kernel) rfl (O_loadH rfl rfl rfl (by assumption) rfl rfl) rfl rfl rfl ?_) <;> (refine U_go rfl ?_; refine H_free (by decide +kernel) rfl rfl rfl rfl rfl ?_) <;> (refine U_go rfl ?_; refine H_free (by decide +kernel) rfl rfl rfl rfl rfl ?_) <;> (refine U_go rfl ?_; first | refine H_free (by decide +kernel) rfl (O_index rfl rfl rfl rfl rfl (by assumption)) rfl rfl rfl ?_ | refine H_free (by decide +kernel) rfl (O_indexI rfl rfl rfl rfl rfl (by assumption)) rfl rfl rfl ?_ | refine H_free (by decide +kernel) rfl (O_indexH rfl rfl rfl rfl rfl (by assumption) (by assumption) (by assumption)) rfl rfl rfl ?_ | refine H_free (by decide +kernel) rfl rfl rfl rfl rfl ?_) <;> (refine U_go rfl ?_; first | refine H_free (by decide +kernel) rfl rfl rfl rfl rfl ?_ | refine H_free (by decide +kernel) rfl (O_loadS rfl rfl rfl rfl (by assumption) rfl rfl) rfl rfl rfl ?_ | refine H_free (by decide +kernel) rfl (O_loadH rfl rfl rfl (by assumption) rfl rfl) rfl rfl rfl ?_) <;> (refine U_go rfl ?_; first | refine H_true (by decide +kernel) (O_bin rfl rfl rfl (by assumption)) rfl ?_ | refine H_false (by decide +kernel) (O_bin rfl rfl rfl (by assumption)) rfl ?_ | refine H_true (by decide +kernel) (O_bin rfl rfl rfl (by assumption)) (by with_reducible assumption) ?_ | refine H_false (by decide +kernel) (O_bin rfl rfl rfl (by assumption)) (by with_reducible assumption) ?_ | refine H_true (by decide +kernel) (O_bin rfl rfl rfl (by assumption)) (by assumption) ?_ | refine H_false (by decide +kernel) (O_bin rfl rfl rfl (by assumption)) (by assumption) ?_ | refine H_split (by decide +kernel) (O_bin rfl rfl rfl (by assumption)) (fun _ => ?_) (fun _ => ?_)) <;> apply U_nil) | refine W_region (id := 7) rfl ?_ | apply W_skip | apply W_block | apply W_ret | apply W_exit | refine W_true rfl (by assumption) ?_ | refine W_false rfl (by assumption) ?_ | refine W_cond rfl (fun _ => ?_) (fun _ => ?_)))
    exact ⟨(), rfl, trivial⟩
  · intro a hJ
    have hlt := ge_vsC (l := l)
    (repeat' (first | apply W_seq | refine W_true rfl rfl ?_ | refine W_false rfl rfl ?_ | (refine W_ops (id := 4) ?_ <;> refine T_ch 3 rfl ?_ <;> (refine T_go rfl ?_; first | refine G_true rfl rfl ?_ | refine G_false rfl rfl ?_ | refine G_true rfl (by with_reducible assumption) ?_ | refine G_false rfl (by with_reducible assumption) ?_ | refine G_true rfl (by assumption) ?_ | refine G_false rfl (by assumption) ?_ | refine G_split rfl (fun _ => ?_) (fun _ => ?_)) <;> apply T_nil) | refine W_region (id := 8) rfl ?_ | apply W_skip | apply W_block | apply W_ret | apply W_exit | refine W_true rfl (by assumption) ?_ | refine W_false rfl (by assumption) ?_ | refine W_cond rfl (fun _ => ?_) (fun _ => ?_)))
    exact ⟨.inl rfl, rfl⟩
theorem sameP_run (p : Pr') (k : Nat) (hk : smsK p.body + p.vars.length + 10 ≤ k) (hb : prB p) (h : Heap) (lo : Nat) : call Try.prog cfg (k + 1) lo (.func 29) [.agg (prC p), .agg (prC p)] h = some (.bool true, h) := by
  have hV := sameVars_run (k - 1) p.vars (by omega) hb.1.1 h h.length
  rw [show k - 1 + 1 = k by omega] at hV
  have hR := (sameS_run k).2 p.body (by omega) hb.2.1 hb.2.2 h h.length
  obtain ⟨w, vs, body⟩ := p
  have h1 := eq_self' w
  dsimp only at hV hR
  apply W_call Try.func29 rfl (Nat.le_of_ble_eq_true rfl) rfl
  (repeat' (first | apply W_seq | refine W_true rfl rfl ?_ | refine W_false rfl rfl ?_ | refine W_region (id := 0) rfl ?_ | (refine W_ops (id := 1) ?_ <;> refine T_ch 4 rfl ?_ <;> (refine T_go rfl ?_; first | refine G_true rfl rfl ?_ | refine G_false rfl rfl ?_ | refine G_true rfl (by with_reducible assumption) ?_ | refine G_false rfl (by with_reducible assumption) ?_ | refine G_true rfl (by assumption) ?_ | refine G_false rfl (by assumption) ?_ | refine G_split rfl (fun _ => ?_) (fun _ => ?_)) <;> refine T_ch 5 rfl ?_ <;> (first | refine T_skip rfl ?_ | (refine T_go rfl ?_; first | refine G_true (O_call rfl rfl rfl rfl (by assumption)) rfl ?_ | refine G_false (O_call rfl rfl rfl rfl (by assumption)) rfl ?_ | refine G_true (O_call rfl rfl rfl rfl (by assumption)) (by with_reducible assumption) ?_ | refine G_false (O_call rfl rfl rfl rfl (by assumption)) (by with_reducible assumption) ?_ | refine G_true (O_call rfl rfl rfl rfl (by assumption)) (by assumption) ?_ | refine G_false (O_call rfl rfl rfl rfl (by assumption)) (by assumption) ?_ | refine G_split (O_call rfl rfl rfl rfl (by assumption)) (fun _ => ?_) (fun _ => ?_))) <;> refine T_ch 6 rfl ?_ <;> (first | refine T_skip rfl ?_ | (refine T_go rfl ?_; first | refine G_true (O_call rfl rfl rfl rfl (by assumption)) rfl ?_ | refine G_false (O_call rfl rfl rfl rfl (by assumption)) rfl ?_ | refine G_true (O_call rfl rfl rfl rfl (by assumption)) (by with_reducible assumption) ?_ | refine G_false (O_call rfl rfl rfl rfl (by assumption)) (by with_reducible assumption) ?_ | refine G_true (O_call rfl rfl rfl rfl (by assumption)) (by assumption) ?_ | refine G_false (O_call rfl rfl rfl rfl (by assumption)) (by assumption) ?_ | refine G_split (O_call rfl rfl rfl rfl (by assumption)) (fun _ => ?_) (fun _ => ?_))) <;> refine T_ch 2 rfl ?_ <;> apply T_nil) | apply W_skip | apply W_block | apply W_ret | apply W_exit | refine W_true rfl (by assumption) ?_ | refine W_false rfl (by assumption) ?_ | refine W_cond rfl (fun _ => ?_) (fun _ => ?_)))
  exact ⟨.inl rfl, rfl⟩
end Go.Proofs.Ytelobnllkhnpaaa.L
