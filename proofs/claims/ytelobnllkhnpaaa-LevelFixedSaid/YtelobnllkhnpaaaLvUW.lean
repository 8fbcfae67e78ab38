/- Flows by fixed types, in the program. -/
import Derived.Test.YtelobnllkhnpaaaLvST
open Go Go.Proofs Go.Ev Go.Proofs.Ytelobnllkhnpaaa.E
namespace Go.Proofs.Ytelobnllkhnpaaa.L
set_option linter.unusedVariables false
set_option linter.unusedSimpArgs false
set_option maxRecDepth 100000

theorem O_bin {C : Cfg} {K : Ev.Callee} {f : Nat} {s : St} {o : Oper} {op : BinOp} {t u : Nat} {x y : Operand} {a b r : AV} (ho : o.op = .binOp op t x y u) (hx : s.val x = some a) (hy : s.val y = some b) (hb : Go.Ev.binop C.tab C.eqs op t a b = some r) : oper C K f o s = some (s.putv o.dst r) := by
  unfold oper
  rw [ho]
  dsimp only
  rw [hx, hy]
  dsimp only
  rw [hb]
  rfl

section
variable {σ : Type} (tl : σ → Int → Int → Int → σ) (lv : List Int)
mutual
def fixP1 : Sm' → Int → σ → Int → σ × Int
  | .mk op nn a t e, ar, x, n =>
    if op = 0 then (tl x n (orI ar (ofEs lv 0 a)) (lv.getD nn.toNat 0), IntKind.i64.wrap (n + 1)) else if op = 4 then (tl x n (orI (orI ar (ofEs lv 0 a)) 16) (lv.getD nn.toNat 0), IntKind.i64.wrap (n + 1))
    else if op = 3 then (tl x n (orI ar (ofEs lv 0 a)) nn, IntKind.i64.wrap (n + 1))
    else if op = 1 ∨ op = 2 then fixPL e (orI ar (ofEs lv 0 a)) (fixPL t (orI ar (ofEs lv 0 a)) x (IntKind.i64.wrap (n + 1))).1 (fixPL t (orI ar (ofEs lv 0 a)) x (IntKind.i64.wrap (n + 1))).2
    else (x, IntKind.i64.wrap (n + 1))
def fixPL : List Sm' → Int → σ → Int → σ × Int
  | [], _, x, n => (x, n)
  | s :: l, ar, x, n => fixPL l ar (fixP1 s ar x n).1 (fixP1 s ar x n).2
end
end
def tellL (x : List (List AV)) (a f t : Int) : List (List AV) := x ++ flowL a f t
def outA (h : Heap) : List (List AV) → AV
  | [] => .nils
  | r :: l => .sl (h.length + 2) 3 0 (l.length + 1)
def flB (h : Heap) : List (List AV) → Heap
  | [] => h ++ [.cells 41 [.nils], .cells 3 [.int .i64 0]]
  | r :: l => h ++ [.cells 41 [.sl (h.length + 2) 3 0 (l.length + 1)], .cells 3 [.int .i64 0], .cells 94 (r :: l).flatten]
def flX (h : Heap) : List (List AV) → Int → Heap
  | [], m => h ++ [.cells 41 [.nils], .cells 3 [.int .i64 m]]
  | r :: l, m => h ++ [.cells 41 [.sl (h.length + 2) 3 0 (l.length + 1)], .cells 3 [.int .i64 m], .cells 94 (r :: l).flatten]
theorem flB_set (h : Heap) (rows : List (List AV)) (m : Int) : (flB h rows).set (h.length + 1) (.cells 3 [.int .i64 m]) = flX h rows m := by
  cases rows <;> simp [flB, flX, List.set_append]
theorem flB_len (h : Heap) (rows : List (List AV)) : h.length + 1 < (flB h rows).length := by
  cases rows <;> simp [flB]
theorem tell_run (h : Heap) (rows : List (List AV)) (hr : ∀ r, r ∈ rows → r.length = 3) (hl : rows.length < 100000) (a f t m : Int) (k lo : Nat) (hlo : lo ≤ h.length) :
    call Try.prog cfg (k + 2) lo (.func 89) [.int .i64 a, .int .i64 f, .int .i64 t, .hp h.length 1 0] (flX h rows m) = some (.tup [], flX h (rows ++ flowL a f t) m) := by
  have hw := within_run f t k lo (flX h rows m)
  have hw2 := within_run f t k (flX h rows m).length (flX h rows m)
  unfold flowL
  cases hc : withinB f t
  · rw [hc] at hw hw2
    rw [if_neg (by simp)]
    cases rows with
    | nil =>
      have hg : (flX h [] m)[h.length]? = some (.cells 41 [.nils]) := by simp [flX]
      have hg2 : (flX h [] m ++ [HObj.cells 94 [.int .i64 a, .int .i64 f, .int .i64 t]])[h.length]? = some (.cells 41 [.nils]) := by simp [flX]
      have hap : append cfg.tab lo (flX h [] m) 41 .nils (.vs 3 [[.int .i64 a, .int .i64 f, .int .i64 t]]) = some (.sl (flX h [] m).length 3 0 1, flX h [] m ++ [.cells 94 [.int .i64 a, .int .i64 f, .int .i64 t]]) := rfl
      have hend : (flX h [] m ++ [HObj.cells 94 [.int .i64 a, .int .i64 f, .int .i64 t]]).set h.length (.cells 41 [.sl (flX h [] m).length 3 0 1]) = flX h [[.int .i64 a, .int .i64 f, .int .i64 t]] m := by simp [flX, List.set_append]
      rw [List.nil_append, ← hend]
      apply W_call Try.func89 rfl (Nat.le_of_ble_eq_true rfl) rfl
      (repeat' (first | apply W_seq | refine W_true rfl rfl ?_ | refine W_false rfl rfl ?_ | (refine W_ops (id := 0) ?_ <;> refine T_ch 2 rfl ?_ <;> (refine T_go rfl ?_; first | refine G_true (O_call rfl rfl rfl rfl (by assumption)) rfl ?_ | refine G_false (O_call rfl rfl rfl rfl (by assumption)) rfl ?_ | refine G_true (O_call rfl rfl rfl rfl (by assumption)) (by with_reducible assumption) ?_ | refine G_false (O_call rfl rfl rfl rfl (by assumption)) (by with_reducible assumption) ?_ | refine G_true (O_call rfl rfl rfl rfl (by assumption)) (by assumption) ?_ | refine G_false (O_call rfl rfl rfl rfl (by assumption)) (by assumption) ?_ | refine G_split (O_call rfl rfl rfl rfl (by assumption)) (fun _ => ?_) (fun _ => ?_)) <;> refine T_ch 1 rfl ?_ <;> apply T_nil) | (refine W_ops (id := 1) ?_ <;> (refine T_go rfl ?_; first | refine G_op (O_loadS rfl rfl rfl rfl (by assumption) rfl rfl) ?_ | refine G_op rfl ?_ | refine G_op (O_loadH rfl rfl rfl (by assumption) rfl rfl) ?_) <;> refine T_ch 5 rfl ?_ <;> (refine T_go rfl ?_; first | refine G_op (O_append rfl rfl rfl rfl rfl (by assumption)) ?_ | refine G_op rfl ?_) <;> (refine T_go rfl ?_; first | refine G_op (O_storeS rfl rfl rfl rfl rfl (by assumption) (by assumption) ⟨rfl, rfl, Nat.le_of_ble_eq_true rfl⟩ rfl) ?_ | refine G_op rfl ?_ | refine G_op (O_storeH rfl rfl rfl rfl (by assumption) ⟨by assumption, rfl, rfl, Nat.le_of_ble_eq_true rfl⟩) ?_) <;> apply T_nil) | apply W_skip | apply W_block | apply W_ret | apply W_exit | refine W_true rfl (by assumption) ?_ | refine W_false rfl (by assumption) ?_ | refine W_cond rfl (fun _ => ?_) (fun _ => ?_)))
      exact ⟨.inr rfl, rfl⟩
    | cons r l =>
      have hg : (flX h (r :: l) m)[h.length]? = some (.cells 41 [.sl (h.length + 2) 3 0 (l.length + 1)]) := by simp [flX]
      have hgo : (flX h (r :: l) m)[h.length + 2]? = some (.cells 94 (r :: l).flatten) := by simp [flX]
      have hg2 : ((flX h (r :: l) m).set (h.length + 2) (HObj.cells 94 ((r :: l).flatten ++ [.int .i64 a, .int .i64 f, .int .i64 t])))[h.length]? = some (.cells 41 [.sl (h.length + 2) 3 0 (l.length + 1)]) := by
        rw [List.getElem?_set_ne (by omega)]; exact hg
      have hap : append cfg.tab lo (flX h (r :: l) m) 41 (.sl (h.length + 2) 3 0 (l.length + 1)) (.vs 3 [[.int .i64 a, .int .i64 f, .int .i64 t]]) = some (.sl (h.length + 2) 3 0 (l.length + 1 + 1), (flX h (r :: l) m).set (h.length + 2) (.cells 94 ((r :: l).flatten ++ [.int .i64 a, .int .i64 f, .int .i64 t]))) := by
        unfold append
        rw [show Go.Ev.look cfg.tab 41 = some ⟨.slice 94, 1, 24, [.nils]⟩ from rfl]
        dsimp only
        rw [show Go.Ev.look cfg.tab 94 = some ⟨.struct [(0, 3), (1, 3), (2, 3)], 3, 24, [.int .i64 0, .int .i64 0, .int .i64 0]⟩ from rfl]
        have hrow : rowOf (flX h (r :: l) m) 3 (.vs 3 [[.int .i64 a, .int .i64 f, .int .i64 t]]) = some [.int .i64 a, .int .i64 f, .int .i64 t] := by simp [rowOf]
        dsimp only
        rw [hrow]
        simp only [lenOf]
        rw [hgo]
        dsimp only
        simp only [List.length_cons] at hl
        rw [if_pos ⟨by omega, by trivial, by trivial, by trivial, by rw [flat_len _ hr]; rfl, by trivial, by simp only [room, List.length_cons, List.length_nil]; omega, by simp only [room, List.length_cons, List.length_nil]; omega⟩]
        rfl
      have hend : ((flX h (r :: l) m).set (h.length + 2) (HObj.cells 94 ((r :: l).flatten ++ [.int .i64 a, .int .i64 f, .int .i64 t]))).set h.length (.cells 41 [.sl (h.length + 2) 3 0 (l.length + 1 + 1)]) = flX h (r :: l ++ [[.int .i64 a, .int .i64 f, .int .i64 t]]) m := by simp [flX, List.set_append]
      rw [← hend]
      apply W_call Try.func89 rfl (Nat.le_of_ble_eq_true rfl) rfl
      (repeat' (first | apply W_seq | refine W_true rfl rfl ?_ | refine W_false rfl rfl ?_ | (refine W_ops (id := 0) ?_ <;> refine T_ch 2 rfl ?_ <;> (refine T_go rfl ?_; first | refine G_true (O_call rfl rfl rfl rfl (by assumption)) rfl ?_ | refine G_false (O_call rfl rfl rfl rfl (by assumption)) rfl ?_ | refine G_true (O_call rfl rfl rfl rfl (by assumption)) (by with_reducible assumption) ?_ | refine G_false (O_call rfl rfl rfl rfl (by assumption)) (by with_reducible assumption) ?_ | refine G_true (O_call rfl rfl rfl rfl (by assumption)) (by assumption) ?_ | refine G_false (O_call rfl rfl rfl rfl (by assumption)) (by assumption) ?_ | refine G_split (O_call rfl rfl rfl rfl (by assumption)) (fun _ => ?_) (fun _ => ?_)) <;> refine T_ch 1 rfl ?_ <;> apply T_nil) | (refine W_ops (id := 1) ?_ <;> (refine T_go rfl ?_; first | refine G_op (O_loadS rfl rfl rfl rfl (by assumption) rfl rfl) ?_ | refine G_op rfl ?_ | refine G_op (O_loadH rfl rfl rfl (by assumption) rfl rfl) ?_) <;> refine T_ch 5 rfl ?_ <;> (refine T_go rfl ?_; first | refine G_op (O_append rfl rfl rfl rfl rfl (by assumption)) ?_ | refine G_op rfl ?_) <;> (refine T_go rfl ?_; first | refine G_op (O_storeS rfl rfl rfl rfl rfl (by assumption) (by assumption) ⟨rfl, rfl, Nat.le_of_ble_eq_true rfl⟩ rfl) ?_ | refine G_op rfl ?_ | refine G_op (O_storeH rfl rfl rfl rfl (by assumption) ⟨by assumption, rfl, rfl, Nat.le_of_ble_eq_true rfl⟩) ?_) <;> apply T_nil) | apply W_skip | apply W_block | apply W_ret | apply W_exit | refine W_true rfl (by assumption) ?_ | refine W_false rfl (by assumption) ?_ | refine W_cond rfl (fun _ => ?_) (fun _ => ?_)))
      exact ⟨.inr rfl, rfl⟩
  · rw [hc] at hw hw2
    rw [if_pos rfl, List.append_nil]
    apply W_call Try.func89 rfl (Nat.le_of_ble_eq_true rfl) rfl
    (repeat' (first | apply W_seq | refine W_true rfl rfl ?_ | refine W_false rfl rfl ?_ | (refine W_ops (id := 0) ?_ <;> refine T_ch 2 rfl ?_ <;> (refine T_go rfl ?_; first | refine G_true (O_call rfl rfl rfl rfl (by assumption)) rfl ?_ | refine G_false (O_call rfl rfl rfl rfl (by assumption)) rfl ?_ | refine G_true (O_call rfl rfl rfl rfl (by assumption)) (by with_reducible assumption) ?_ | refine G_false (O_call rfl rfl rfl rfl (by assumption)) (by with_reducible assumption) ?_ | refine G_true (O_call rfl rfl rfl rfl (by assumption)) (by assumption) ?_ | refine G_false (O_call rfl rfl rfl rfl (by assumption)) (by assumption) ?_ | refine G_split (O_call rfl rfl rfl rfl (by assumption)) (fun _ => ?_) (fun _ => ?_)) <;> refine T_ch 1 rfl ?_ <;> apply T_nil) | (refine W_ops (id := 1) ?_ <;> (refine T_go rfl ?_; first | refine G_op (O_loadS rfl rfl rfl rfl (by assumption) rfl rfl) ?_ | refine G_op rfl ?_ | refine G_op (O_loadH rfl rfl rfl (by assumption) rfl rfl) ?_) <;> refine T_ch 5 rfl ?_ <;> (refine T_go rfl ?_; first | refine G_op (O_append rfl rfl rfl rfl rfl (by assumption)) ?_ | refine G_op rfl ?_) <;> (refine T_go rfl ?_; first | refine G_op (O_storeS rfl rfl rfl rfl rfl (by assumption) (by assumption) ⟨rfl, rfl, Nat.le_of_ble_eq_true rfl⟩ rfl) ?_ | refine G_op rfl ?_ | refine G_op (O_storeH rfl rfl rfl rfl (by assumption) ⟨by assumption, rfl, rfl, Nat.le_of_ble_eq_true rfl⟩) ?_) <;> apply T_nil) | apply W_skip | apply W_block | apply W_ret | apply W_exit | refine W_true rfl (by assumption) ?_ | refine W_false rfl (by assumption) ?_ | refine W_cond rfl (fun _ => ?_) (fun _ => ?_)))
    exact ⟨.inr rfl, rfl⟩
/-- The rows that are told: three numbers each. -/
def Row3 (rows : List (List AV)) : Prop := ∀ r, r ∈ rows → r.length = 3 ∧ ∀ x, x ∈ r → static x = true
mutual
theorem fixP1_row (lv : List Int) : ∀ (s : Sm') (ar : Int) (x : List (List AV)) (n : Int), Row3 x → Row3 (fixP1 tellL lv s ar x n).1 ∧ (fixP1 tellL lv s ar x n).1.length ≤ x.length + smN s
  | .mk op nn a t e, ar, x, n, hx => by
    have key : ∀ a f t : Int, Row3 (tellL x a f t) ∧ (tellL x a f t).length ≤ x.length + 1 := fun a f t => by
      refine ⟨fun r hr => ?_, ?_⟩
      · rcases List.mem_append.1 hr with hr | hr
        · exact hx r hr
        · exact flowL_row _ _ _ r hr
      · unfold tellL; have := flowL_len a f t; rw [List.length_append]; omega
    rw [fixP1, smN]
    split
    · exact ⟨(key _ _ _).1, by have := (key n (orI ar (ofEs lv 0 a)) (lv.getD nn.toNat 0)).2; dsimp only; omega⟩
    split
    · exact ⟨(key _ _ _).1, by have := (key n (orI (orI ar (ofEs lv 0 a)) 16) (lv.getD nn.toNat 0)).2; dsimp only; omega⟩
    split
    · exact ⟨(key _ _ _).1, by have := (key n (orI ar (ofEs lv 0 a)) nn).2; dsimp only; omega⟩
    split
    · obtain ⟨g1, g2⟩ := fixPL_row lv t (orI ar (ofEs lv 0 a)) x (IntKind.i64.wrap (n + 1)) hx
      obtain ⟨g3, g4⟩ := fixPL_row lv e (orI ar (ofEs lv 0 a)) _ (fixPL tellL lv t (orI ar (ofEs lv 0 a)) x (IntKind.i64.wrap (n + 1))).2 g1
      exact ⟨g3, by omega⟩
    · exact ⟨hx, by dsimp only; omega⟩
theorem fixPL_row (lv : List Int) : ∀ (l : List Sm') (ar : Int) (x : List (List AV)) (n : Int), Row3 x → Row3 (fixPL tellL lv l ar x n).1 ∧ (fixPL tellL lv l ar x n).1.length ≤ x.length + smsN l
  | [], ar, x, n, hx => by rw [fixPL, smsN]; exact ⟨hx, by dsimp only; omega⟩
  | s :: l, ar, x, n, hx => by
    rw [fixPL, smsN]
    obtain ⟨g1, g2⟩ := fixP1_row lv s ar x n hx
    obtain ⟨g3, g4⟩ := fixPL_row lv l ar _ (fixP1 tellL lv s ar x n).2 g1
    exact ⟨g3, by omega⟩
end
def fpS (lv : List Int) (h : Heap) (lo : Nat) (ar : Int) (l : List Sm') (i : Int) (a : List (List AV) × Int) : St :=
  { env := [(1, .v (.vs 1 (intsC lv))), (2, .v (.int .i64 ar)), (3, .v (.hp (h.length + 1) 1 0)), (4, .v (.fn (.func 89) [.hp h.length 1 0])), (14, .v (.vs 5 (smsC l))), (15, .v (.int .i64 (smsC l).length)), (16, .v (.int .i64 i))], loc := [], heap := (flB h a.1).set (h.length + 1) (.cells 3 [.int .i64 a.2]), inRound := false, lo := lo }
set_option maxHeartbeats 2000000 in
theorem fixedP_run (lv : List Int) (h : Heap) (lo : Nat) (hlo' : lo ≤ h.length) : ∀ (k : Nat) (l : List Sm'), smsK l + 20 ≤ k → l.length < 9223372036854775808 → smsB l → rdSs lv.length l → ∀ (ar : Int) (x : List (List AV)) (n : Int), Row3 x → x.length + smsN l ≤ 90000 →
    call Try.prog cfg k lo (.func 88) [.vs 5 (smsC l), .vs 1 (intsC lv), .int .i64 ar, .hp (h.length + 1) 1 0, .fn (.func 89) [.hp h.length 1 0]] ((flB h x).set (h.length + 1) (.cells 3 [.int .i64 n])) =
      some (.tup [], (flB h (fixPL tellL lv l ar x n).1).set (h.length + 1) (.cells 3 [.int .i64 (fixPL tellL lv l ar x n).2]))
  | 0, l, hk, _, _, _, _, _, _, _, _ => by have := smsK_len l; omega
  | k + 1, l, hk, hlen, hb, hr, ar, x, n, hx3, hxn => by
    have hll := smsK_len l
    have hlo : lo ≤ h.length + 1 := by omega
    generalize hR : fixPL tellL lv l ar x n = R
    apply W_call Try.func88 rfl (Nat.le_of_ble_eq_true rfl) rfl
    (repeat' (first | apply W_seq | refine W_true rfl rfl ?_ | refine W_false rfl rfl ?_ | refine W_region (id := 0) rfl ?_ | apply W_skip | apply W_block | apply W_ret | apply W_exit | refine W_true rfl (by assumption) ?_ | refine W_false rfl (by assumption) ?_ | refine W_cond rfl (fun _ => ?_) (fun _ => ?_)))
    apply W_iter (S := fpS lv h lo ar l) (l := l) (a0 := (x, n)) (fun rest a => fixPL tellL lv rest ar a.1 a.2 = R ∧ Row3 a.1 ∧ a.1.length + smsN rest ≤ 90000) hlen (by omega) rfl ⟨hR, hx3, hxn⟩
    · intro i s rest a hi hd hil hJ
      obtain ⟨x1, n1⟩ := a
      obtain ⟨hJ, hx1, hxl⟩ := hJ
      dsimp only at hJ hx1 hxl
      rw [smsN] at hxl
      have hid1 := flB_len h x1
      obtain ⟨rw1, rw2⟩ := fixP1_row lv s ar x1 n1 hx1
      have hlt := lt_sms hil
      have hrow := smsC_get _ _ _ hi
      have hmem := smsK_mem l i _ hi
      have hbm := smsB_mem l i _ hb hi
      have hrm := rdSs_mem hr hi
      obtain ⟨op, nn, a, t, e⟩ := s
      rw [smK] at hmem
      rw [smB] at hbm
      rw [rdS1] at hrm
      obtain ⟨⟨ha1, ha2⟩, ⟨ht1, ht2⟩, he1, he2⟩ := hbm
      obtain ⟨r1, r2, r3, r4⟩ := hrm
      have hla := exsK_len a
      rw [fixPL] at hJ
      rw [smN] at hxl rw2
      generalize hP : fixP1 tellL lv (.mk op nn a t e) ar x1 n1 = P at hJ rw1 rw2
      have hJn : fixPL tellL lv rest ar P.1 P.2 = R ∧ Row3 P.1 ∧ P.1.length + smsN rest ≤ 90000 := ⟨hJ, rw1, by omega⟩
      clear hJ rw1 rw2
      rw [fixP1] at hP
      have hA := ofAll_run a lv (k - 1) (by omega) ha1 ha2 r1 ((flB h x1).set (h.length + 1) (.cells 3 [.int .i64 (IntKind.i64.wrap (n1 + 1))])) lo
      rw [show k - 1 + 1 = k by omega] at hA
      have yT : ∀ f t : Int, call Try.prog cfg k lo (.func 89) [.int .i64 n1, .int .i64 f, .int .i64 t, .hp h.length 1 0] ((flB h x1).set (h.length + 1) (.cells 3 [.int .i64 (IntKind.i64.wrap (n1 + 1))])) = some (.tup [], (flB h (tellL x1 n1 f t)).set (h.length + 1) (.cells 3 [.int .i64 (IntKind.i64.wrap (n1 + 1))])) := fun f t => by
        have := tell_run h x1 (fun r hr => (hx1 r hr).1) (by omega) n1 f t (IntKind.i64.wrap (n1 + 1)) (k - 2) lo hlo'
        rw [show k - 2 + 2 = k by omega] at this
        rw [flB_set, flB_set]
        exact this
      have y0 := yT (orI ar (ofEs lv 0 a)) (lv.getD nn.toNat 0)
      have y4 := yT (orI (orI ar (ofEs lv 0 a)) 16) (lv.getD nn.toNat 0)
      have y3 := yT (orI ar (ofEs lv 0 a)) nn
      by_cases o0 : op = 0
      · have hx := intsC_at (r2 (.inl o0))
        simp only [if_pos o0] at hP
        have c0 : (op == 0) = true := by simp [o0]
        (repeat' (first | apply W_seq | refine W_true rfl rfl ?_ | refine W_false rfl rfl ?_ | (refine W_ops (id := 1) ?_ <;> (refine T_go rfl ?_; first | refine G_true rfl rfl ?_ | refine G_false rfl rfl ?_ | refine G_true rfl (by with_reducible assumption) ?_ | refine G_false rfl (by with_reducible assumption) ?_ | refine G_true rfl (by assumption) ?_ | refine G_false rfl (by assumption) ?_ | refine G_split rfl (fun _ => ?_) (fun _ => ?_)) <;> apply T_nil) | (refine W_ops (id := 2) ?_ <;> (refine T_go rfl ?_; first | refine G_op (O_index rfl rfl rfl rfl rfl (by assumption)) ?_ | refine G_op (O_indexI rfl rfl rfl rfl rfl (by assumption)) ?_ | refine G_op (O_indexH rfl rfl rfl rfl rfl (by assumption) (by assumption) (by assumption)) ?_ | refine G_op rfl ?_) <;> (refine T_go rfl ?_; first | refine G_op rfl ?_ | refine G_op (O_loadS rfl rfl rfl rfl (by assumption) rfl rfl) ?_ | refine G_op (O_loadH rfl rfl rfl (by assumption) rfl rfl) ?_) <;> refine T_ch 2 rfl ?_ <;> apply T_nil) | (refine W_ops (id := 3) ?_ <;> refine T_ch 2 rfl ?_ <;> (refine T_go rfl ?_; first | refine G_op (O_loadS rfl rfl rfl rfl (by assumption) rfl rfl) ?_ | refine G_op rfl ?_ | refine G_op (O_loadH rfl rfl rfl (by assumption) rfl rfl) ?_) <;> refine T_ch 1 rfl ?_ <;> apply T_nil) | (refine W_ops (id := 4) ?_ <;> refine T_ch 2 rfl ?_ <;> (refine T_go rfl ?_; first | refine G_op (O_loadS rfl rfl rfl rfl (by assumption) rfl rfl) ?_ | refine G_op rfl ?_ | refine G_op (O_loadH rfl rfl rfl (by assumption) rfl rfl) ?_) <;> refine T_ch 2 rfl ?_ <;> (refine T_go rfl ?_; first | refine G_op (O_storeS rfl rfl rfl rfl rfl (by assumption) (by assumption) ⟨rfl, rfl, Nat.le_of_ble_eq_true rfl⟩ rfl) ?_ | refine G_op rfl ?_ | refine G_op (O_storeH rfl rfl rfl rfl (by assumption) ⟨by assumption, rfl, rfl, Nat.le_of_ble_eq_true rfl⟩) ?_) <;> apply T_nil) | (refine W_ops (id := 5) ?_ <;> refine T_ch 4 rfl ?_ <;> (refine T_go rfl ?_; refine G_op (O_call rfl rfl rfl rfl (by assumption)) ?_) <;> refine T_ch 2 rfl ?_ <;> apply T_nil) | refine W_region (id := 6) rfl ?_ | (refine W_ops (id := 7) ?_ <;> (refine T_go rfl ?_; first | refine G_true rfl rfl ?_ | refine G_false rfl rfl ?_ | refine G_true rfl (by with_reducible assumption) ?_ | refine G_false rfl (by with_reducible assumption) ?_ | refine G_true rfl (by assumption) ?_ | refine G_false rfl (by assumption) ?_ | refine G_split rfl (fun _ => ?_) (fun _ => ?_)) <;> refine T_ch 1 rfl ?_ <;> apply T_nil) | (refine W_ops (id := 8) ?_ <;> refine T_ch 6 rfl ?_ <;> (refine T_go rfl ?_; first | refine G_op (O_index rfl rfl rfl rfl rfl (by assumption)) ?_ | refine G_op (O_indexI rfl rfl rfl rfl rfl (by assumption)) ?_ | refine G_op (O_indexH rfl rfl rfl rfl rfl (by assumption) (by assumption) (by assumption)) ?_ | refine G_op rfl ?_) <;> (refine T_go rfl ?_; first | refine G_op rfl ?_ | refine G_op (O_loadS rfl rfl rfl rfl (by assumption) rfl rfl) ?_ | refine G_op (O_loadH rfl rfl rfl (by assumption) rfl rfl) ?_) <;> (refine T_go rfl ?_; refine G_op (O_call rfl rfl rfl rfl (by assumption)) ?_) <;> apply T_nil) | refine W_region (id := 17) rfl ?_ | apply W_skip | apply W_block | apply W_ret | apply W_exit | refine W_true rfl (by assumption) ?_ | refine W_false rfl (by assumption) ?_ | refine W_cond rfl (fun _ => ?_) (fun _ => ?_)))
        subst hP; exact ⟨(_, _), rfl, hJn⟩
      by_cases o4 : op = 4
      · have hx := intsC_at (r2 (.inr o4))
        simp only [if_neg o0, if_pos o4] at hP
        have c0 : (op == 0) = false := by simp [o0]
        have c4 : (op == 4) = true := by simp [o4]
        (repeat' (first | apply W_seq | refine W_true rfl rfl ?_ | refine W_false rfl rfl ?_ | (refine W_ops (id := 1) ?_ <;> (refine T_go rfl ?_; first | refine G_true rfl rfl ?_ | refine G_false rfl rfl ?_ | refine G_true rfl (by with_reducible assumption) ?_ | refine G_false rfl (by with_reducible assumption) ?_ | refine G_true rfl (by assumption) ?_ | refine G_false rfl (by assumption) ?_ | refine G_split rfl (fun _ => ?_) (fun _ => ?_)) <;> apply T_nil) | (refine W_ops (id := 2) ?_ <;> (refine T_go rfl ?_; first | refine G_op (O_index rfl rfl rfl rfl rfl (by assumption)) ?_ | refine G_op (O_indexI rfl rfl rfl rfl rfl (by assumption)) ?_ | refine G_op (O_indexH rfl rfl rfl rfl rfl (by assumption) (by assumption) (by assumption)) ?_ | refine G_op rfl ?_) <;> (refine T_go rfl ?_; first | refine G_op rfl ?_ | refine G_op (O_loadS rfl rfl rfl rfl (by assumption) rfl rfl) ?_ | refine G_op (O_loadH rfl rfl rfl (by assumption) rfl rfl) ?_) <;> refine T_ch 2 rfl ?_ <;> apply T_nil) | (refine W_ops (id := 3) ?_ <;> refine T_ch 2 rfl ?_ <;> (refine T_go rfl ?_; first | refine G_op (O_loadS rfl rfl rfl rfl (by assumption) rfl rfl) ?_ | refine G_op rfl ?_ | refine G_op (O_loadH rfl rfl rfl (by assumption) rfl rfl) ?_) <;> refine T_ch 1 rfl ?_ <;> apply T_nil) | (refine W_ops (id := 4) ?_ <;> refine T_ch 2 rfl ?_ <;> (refine T_go rfl ?_; first | refine G_op (O_loadS rfl rfl rfl rfl (by assumption) rfl rfl) ?_ | refine G_op rfl ?_ | refine G_op (O_loadH rfl rfl rfl (by assumption) rfl rfl) ?_) <;> refine T_ch 2 rfl ?_ <;> (refine T_go rfl ?_; first | refine G_op (O_storeS rfl rfl rfl rfl rfl (by assumption) (by assumption) ⟨rfl, rfl, Nat.le_of_ble_eq_true rfl⟩ rfl) ?_ | refine G_op rfl ?_ | refine G_op (O_storeH rfl rfl rfl rfl (by assumption) ⟨by assumption, rfl, rfl, Nat.le_of_ble_eq_true rfl⟩) ?_) <;> apply T_nil) | (refine W_ops (id := 5) ?_ <;> refine T_ch 4 rfl ?_ <;> (refine T_go rfl ?_; refine G_op (O_call rfl rfl rfl rfl (by assumption)) ?_) <;> refine T_ch 2 rfl ?_ <;> apply T_nil) | refine W_region (id := 6) rfl ?_ | (refine W_ops (id := 7) ?_ <;> (refine T_go rfl ?_; first | refine G_true rfl rfl ?_ | refine G_false rfl rfl ?_ | refine G_true rfl (by with_reducible assumption) ?_ | refine G_false rfl (by with_reducible assumption) ?_ | refine G_true rfl (by assumption) ?_ | refine G_false rfl (by assumption) ?_ | refine G_split rfl (fun _ => ?_) (fun _ => ?_)) <;> refine T_ch 1 rfl ?_ <;> apply T_nil) | (refine W_ops (id := 9) ?_ <;> (refine T_go rfl ?_; first | refine G_true rfl rfl ?_ | refine G_false rfl rfl ?_ | refine G_true rfl (by with_reducible assumption) ?_ | refine G_false rfl (by with_reducible assumption) ?_ | refine G_true rfl (by assumption) ?_ | refine G_false rfl (by assumption) ?_ | refine G_split rfl (fun _ => ?_) (fun _ => ?_)) <;> refine T_ch 1 rfl ?_ <;> apply T_nil) | (refine W_ops (id := 10) ?_ <;> refine T_ch 7 rfl ?_ <;> (refine T_go rfl ?_; first | refine G_op (O_index rfl rfl rfl rfl rfl (by assumption)) ?_ | refine G_op (O_indexI rfl rfl rfl rfl rfl (by assumption)) ?_ | refine G_op (O_indexH rfl rfl rfl rfl rfl (by assumption) (by assumption) (by assumption)) ?_ | refine G_op rfl ?_) <;> (refine T_go rfl ?_; first | refine G_op rfl ?_ | refine G_op (O_loadS rfl rfl rfl rfl (by assumption) rfl rfl) ?_ | refine G_op (O_loadH rfl rfl rfl (by assumption) rfl rfl) ?_) <;> (refine T_go rfl ?_; refine G_op (O_call rfl rfl rfl rfl (by assumption)) ?_) <;> apply T_nil) | refine W_region (id := 17) rfl ?_ | apply W_skip | apply W_block | apply W_ret | apply W_exit | refine W_true rfl (by assumption) ?_ | refine W_false rfl (by assumption) ?_ | refine W_cond rfl (fun _ => ?_) (fun _ => ?_)))
        subst hP; exact ⟨(_, _), rfl, hJn⟩
      by_cases o3 : op = 3
      · simp only [if_neg o0, if_neg o4, if_pos o3] at hP
        have c0 : (op == 0) = false := by simp [o0]
        have c4 : (op == 4) = false := by simp [o4]
        have c3 : (op == 3) = true := by simp [o3]
        (repeat' (first | apply W_seq | refine W_true rfl rfl ?_ | refine W_false rfl rfl ?_ | (refine W_ops (id := 1) ?_ <;> (refine T_go rfl ?_; first | refine G_true rfl rfl ?_ | refine G_false rfl rfl ?_ | refine G_true rfl (by with_reducible assumption) ?_ | refine G_false rfl (by with_reducible assumption) ?_ | refine G_true rfl (by assumption) ?_ | refine G_false rfl (by assumption) ?_ | refine G_split rfl (fun _ => ?_) (fun _ => ?_)) <;> apply T_nil) | (refine W_ops (id := 2) ?_ <;> (refine T_go rfl ?_; first | refine G_op (O_index rfl rfl rfl rfl rfl (by assumption)) ?_ | refine G_op (O_indexI rfl rfl rfl rfl rfl (by assumption)) ?_ | refine G_op (O_indexH rfl rfl rfl rfl rfl (by assumption) (by assumption) (by assumption)) ?_ | refine G_op rfl ?_) <;> (refine T_go rfl ?_; first | refine G_op rfl ?_ | refine G_op (O_loadS rfl rfl rfl rfl (by assumption) rfl rfl) ?_ | refine G_op (O_loadH rfl rfl rfl (by assumption) rfl rfl) ?_) <;> refine T_ch 2 rfl ?_ <;> apply T_nil) | (refine W_ops (id := 3) ?_ <;> refine T_ch 2 rfl ?_ <;> (refine T_go rfl ?_; first | refine G_op (O_loadS rfl rfl rfl rfl (by assumption) rfl rfl) ?_ | refine G_op rfl ?_ | refine G_op (O_loadH rfl rfl rfl (by assumption) rfl rfl) ?_) <;> refine T_ch 1 rfl ?_ <;> apply T_nil) | (refine W_ops (id := 4) ?_ <;> refine T_ch 2 rfl ?_ <;> (refine T_go rfl ?_; first | refine G_op (O_loadS rfl rfl rfl rfl (by assumption) rfl rfl) ?_ | refine G_op rfl ?_ | refine G_op (O_loadH rfl rfl rfl (by assumption) rfl rfl) ?_) <;> refine T_ch 2 rfl ?_ <;> (refine T_go rfl ?_; first | refine G_op (O_storeS rfl rfl rfl rfl rfl (by assumption) (by assumption) ⟨rfl, rfl, Nat.le_of_ble_eq_true rfl⟩ rfl) ?_ | refine G_op rfl ?_ | refine G_op (O_storeH rfl rfl rfl rfl (by assumption) ⟨by assumption, rfl, rfl, Nat.le_of_ble_eq_true rfl⟩) ?_) <;> apply T_nil) | (refine W_ops (id := 5) ?_ <;> refine T_ch 4 rfl ?_ <;> (refine T_go rfl ?_; refine G_op (O_call rfl rfl rfl rfl (by assumption)) ?_) <;> refine T_ch 2 rfl ?_ <;> apply T_nil) | refine W_region (id := 6) rfl ?_ | (refine W_ops (id := 7) ?_ <;> (refine T_go rfl ?_; first | refine G_true rfl rfl ?_ | refine G_false rfl rfl ?_ | refine G_true rfl (by with_reducible assumption) ?_ | refine G_false rfl (by with_reducible assumption) ?_ | refine G_true rfl (by assumption) ?_ | refine G_false rfl (by assumption) ?_ | refine G_split rfl (fun _ => ?_) (fun _ => ?_)) <;> refine T_ch 1 rfl ?_ <;> apply T_nil) | (refine W_ops (id := 9) ?_ <;> (refine T_go rfl ?_; first | refine G_true rfl rfl ?_ | refine G_false rfl rfl ?_ | refine G_true rfl (by with_reducible assumption) ?_ | refine G_false rfl (by with_reducible assumption) ?_ | refine G_true rfl (by assumption) ?_ | refine G_false rfl (by assumption) ?_ | refine G_split rfl (fun _ => ?_) (fun _ => ?_)) <;> refine T_ch 1 rfl ?_ <;> apply T_nil) | (refine W_ops (id := 11) ?_ <;> (refine T_go rfl ?_; first | refine G_true rfl rfl ?_ | refine G_false rfl rfl ?_ | refine G_true rfl (by with_reducible assumption) ?_ | refine G_false rfl (by with_reducible assumption) ?_ | refine G_true rfl (by assumption) ?_ | refine G_false rfl (by assumption) ?_ | refine G_split rfl (fun _ => ?_) (fun _ => ?_)) <;> refine T_ch 1 rfl ?_ <;> apply T_nil) | (refine W_ops (id := 12) ?_ <;> refine T_ch 5 rfl ?_ <;> (refine T_go rfl ?_; refine G_op (O_call rfl rfl rfl rfl (by assumption)) ?_) <;> apply T_nil) | refine W_region (id := 17) rfl ?_ | apply W_skip | apply W_block | apply W_ret | apply W_exit | refine W_true rfl (by assumption) ?_ | refine W_false rfl (by assumption) ?_ | refine W_cond rfl (fun _ => ?_) (fun _ => ?_)))
        subst hP; exact ⟨(_, _), rfl, hJn⟩
      have c0 : (op == 0) = false := by simp [o0]
      have c4 : (op == 4) = false := by simp [o4]
      have c3 : (op == 3) = false := by simp [o3]
      by_cases o1 : op = 1 ∨ op = 2
      · simp only [if_neg o0, if_neg o4, if_neg o3, if_pos o1] at hP
        have iht := fixedP_run lv h lo hlo' k t (by omega) ht1 ht2 r3 (orI ar (ofEs lv 0 a)) x1 (IntKind.i64.wrap (n1 + 1)) hx1 (by omega)
        obtain ⟨tr1, tr2⟩ := fixPL_row lv t (orI ar (ofEs lv 0 a)) x1 (IntKind.i64.wrap (n1 + 1)) hx1
        generalize fixPL tellL lv t (orI ar (ofEs lv 0 a)) x1 (IntKind.i64.wrap (n1 + 1)) = T at iht hP tr1 tr2
        have ihe := fixedP_run lv h lo hlo' k e (by omega) he1 he2 r4 (orI ar (ofEs lv 0 a)) T.1 T.2 tr1 (by omega)
        generalize fixPL tellL lv e (orI ar (ofEs lv 0 a)) T.1 T.2 = E at ihe hP
        rcases o1 with o1 | o1
        · have c1 : (op == 1) = true := by simp [o1]
          (repeat' (first | apply W_seq | refine W_true rfl rfl ?_ | refine W_false rfl rfl ?_ | (refine W_ops (id := 1) ?_ <;> (refine T_go rfl ?_; first | refine G_true rfl rfl ?_ | refine G_false rfl rfl ?_ | refine G_true rfl (by with_reducible assumption) ?_ | refine G_false rfl (by with_reducible assumption) ?_ | refine G_true rfl (by assumption) ?_ | refine G_false rfl (by assumption) ?_ | refine G_split rfl (fun _ => ?_) (fun _ => ?_)) <;> apply T_nil) | (refine W_ops (id := 2) ?_ <;> (refine T_go rfl ?_; first | refine G_op (O_index rfl rfl rfl rfl rfl (by assumption)) ?_ | refine G_op (O_indexI rfl rfl rfl rfl rfl (by assumption)) ?_ | refine G_op (O_indexH rfl rfl rfl rfl rfl (by assumption) (by assumption) (by assumption)) ?_ | refine G_op rfl ?_) <;> (refine T_go rfl ?_; first | refine G_op rfl ?_ | refine G_op (O_loadS rfl rfl rfl rfl (by assumption) rfl rfl) ?_ | refine G_op (O_loadH rfl rfl rfl (by assumption) rfl rfl) ?_) <;> refine T_ch 2 rfl ?_ <;> apply T_nil) | (refine W_ops (id := 3) ?_ <;> refine T_ch 2 rfl ?_ <;> (refine T_go rfl ?_; first | refine G_op (O_loadS rfl rfl rfl rfl (by assumption) rfl rfl) ?_ | refine G_op rfl ?_ | refine G_op (O_loadH rfl rfl rfl (by assumption) rfl rfl) ?_) <;> refine T_ch 1 rfl ?_ <;> apply T_nil) | (refine W_ops (id := 4) ?_ <;> refine T_ch 2 rfl ?_ <;> (refine T_go rfl ?_; first | refine G_op (O_loadS rfl rfl rfl rfl (by assumption) rfl rfl) ?_ | refine G_op rfl ?_ | refine G_op (O_loadH rfl rfl rfl (by assumption) rfl rfl) ?_) <;> refine T_ch 2 rfl ?_ <;> (refine T_go rfl ?_; first | refine G_op (O_storeS rfl rfl rfl rfl rfl (by assumption) (by assumption) ⟨rfl, rfl, Nat.le_of_ble_eq_true rfl⟩ rfl) ?_ | refine G_op rfl ?_ | refine G_op (O_storeH rfl rfl rfl rfl (by assumption) ⟨by assumption, rfl, rfl, Nat.le_of_ble_eq_true rfl⟩) ?_) <;> apply T_nil) | (refine W_ops (id := 5) ?_ <;> refine T_ch 4 rfl ?_ <;> (refine T_go rfl ?_; refine G_op (O_call rfl rfl rfl rfl (by assumption)) ?_) <;> refine T_ch 2 rfl ?_ <;> apply T_nil) | refine W_region (id := 6) rfl ?_ | (refine W_ops (id := 7) ?_ <;> (refine T_go rfl ?_; first | refine G_true rfl rfl ?_ | refine G_false rfl rfl ?_ | refine G_true rfl (by with_reducible assumption) ?_ | refine G_false rfl (by with_reducible assumption) ?_ | refine G_true rfl (by assumption) ?_ | refine G_false rfl (by assumption) ?_ | refine G_split rfl (fun _ => ?_) (fun _ => ?_)) <;> refine T_ch 1 rfl ?_ <;> apply T_nil) | (refine W_ops (id := 9) ?_ <;> (refine T_go rfl ?_; first | refine G_true rfl rfl ?_ | refine G_false rfl rfl ?_ | refine G_true rfl (by with_reducible assumption) ?_ | refine G_false rfl (by with_reducible assumption) ?_ | refine G_true rfl (by assumption) ?_ | refine G_false rfl (by assumption) ?_ | refine G_split rfl (fun _ => ?_) (fun _ => ?_)) <;> refine T_ch 1 rfl ?_ <;> apply T_nil) | (refine W_ops (id := 11) ?_ <;> (refine T_go rfl ?_; first | refine G_true rfl rfl ?_ | refine G_false rfl rfl ?_ | refine G_true rfl (by with_reducible assumption) ?_ | refine G_false rfl (by with_reducible assumption) ?_ | refine G_true rfl (by assumption) ?_ | refine G_false rfl (by assumption) ?_ | refine G_split rfl (fun _ => ?_) (fun _ => ?_)) <;> refine T_ch 1 rfl ?_ <;> apply T_nil) | (refine W_ops (id := 13) ?_ <;> (refine T_go rfl ?_; first | refine G_true rfl rfl ?_ | refine G_false rfl rfl ?_ | refine G_true rfl (by with_reducible assumption) ?_ | refine G_false rfl (by with_reducible assumption) ?_ | refine G_true rfl (by assumption) ?_ | refine G_false rfl (by assumption) ?_ | refine G_split rfl (fun _ => ?_) (fun _ => ?_)) <;> refine T_ch 1 rfl ?_ <;> apply T_nil) | (refine W_ops (id := 14) ?_ <;> (refine T_go rfl ?_; first | refine G_true rfl rfl ?_ | refine G_false rfl rfl ?_ | refine G_true rfl (by with_reducible assumption) ?_ | refine G_false rfl (by with_reducible assumption) ?_ | refine G_true rfl (by assumption) ?_ | refine G_false rfl (by assumption) ?_ | refine G_split rfl (fun _ => ?_) (fun _ => ?_)) <;> refine T_ch 1 rfl ?_ <;> apply T_nil) | (refine W_ops (id := 15) ?_ <;> refine T_ch 6 rfl ?_ <;> (refine T_go rfl ?_; refine G_op (O_call rfl rfl rfl rfl (by assumption)) ?_) <;> apply T_nil) | (refine W_ops (id := 16) ?_ <;> refine T_ch 6 rfl ?_ <;> (refine T_go rfl ?_; refine G_op (O_call rfl rfl rfl rfl (by assumption)) ?_) <;> apply T_nil) | refine W_region (id := 17) rfl ?_ | apply W_skip | apply W_block | apply W_ret | apply W_exit | refine W_true rfl (by assumption) ?_ | refine W_false rfl (by assumption) ?_ | refine W_cond rfl (fun _ => ?_) (fun _ => ?_)))
          subst hP; exact ⟨(E.1, E.2), rfl, hJn⟩
        · have c1 : (op == 1) = false := by simp [o1]
          have c2 : (op == 2) = true := by simp [o1]
          (repeat' (first | apply W_seq | refine W_true rfl rfl ?_ | refine W_false rfl rfl ?_ | (refine W_ops (id := 1) ?_ <;> (refine T_go rfl ?_; first | refine G_true rfl rfl ?_ | refine G_false rfl rfl ?_ | refine G_true rfl (by with_reducible assumption) ?_ | refine G_false rfl (by with_reducible assumption) ?_ | refine G_true rfl (by assumption) ?_ | refine G_false rfl (by assumption) ?_ | refine G_split rfl (fun _ => ?_) (fun _ => ?_)) <;> apply T_nil) | (refine W_ops (id := 2) ?_ <;> (refine T_go rfl ?_; first | refine G_op (O_index rfl rfl rfl rfl rfl (by assumption)) ?_ | refine G_op (O_indexI rfl rfl rfl rfl rfl (by assumption)) ?_ | refine G_op (O_indexH rfl rfl rfl rfl rfl (by assumption) (by assumption) (by assumption)) ?_ | refine G_op rfl ?_) <;> (refine T_go rfl ?_; first | refine G_op rfl ?_ | refine G_op (O_loadS rfl rfl rfl rfl (by assumption) rfl rfl) ?_ | refine G_op (O_loadH rfl rfl rfl (by assumption) rfl rfl) ?_) <;> refine T_ch 2 rfl ?_ <;> apply T_nil) | (refine W_ops (id := 3) ?_ <;> refine T_ch 2 rfl ?_ <;> (refine T_go rfl ?_; first | refine G_op (O_loadS rfl rfl rfl rfl (by assumption) rfl rfl) ?_ | refine G_op rfl ?_ | refine G_op (O_loadH rfl rfl rfl (by assumption) rfl rfl) ?_) <;> refine T_ch 1 rfl ?_ <;> apply T_nil) | (refine W_ops (id := 4) ?_ <;> refine T_ch 2 rfl ?_ <;> (refine T_go rfl ?_; first | refine G_op (O_loadS rfl rfl rfl rfl (by assumption) rfl rfl) ?_ | refine G_op rfl ?_ | refine G_op (O_loadH rfl rfl rfl (by assumption) rfl rfl) ?_) <;> refine T_ch 2 rfl ?_ <;> (refine T_go rfl ?_; first | refine G_op (O_storeS rfl rfl rfl rfl rfl (by assumption) (by assumption) ⟨rfl, rfl, Nat.le_of_ble_eq_true rfl⟩ rfl) ?_ | refine G_op rfl ?_ | refine G_op (O_storeH rfl rfl rfl rfl (by assumption) ⟨by assumption, rfl, rfl, Nat.le_of_ble_eq_true rfl⟩) ?_) <;> apply T_nil) | (refine W_ops (id := 5) ?_ <;> refine T_ch 4 rfl ?_ <;> (refine T_go rfl ?_; refine G_op (O_call rfl rfl rfl rfl (by assumption)) ?_) <;> refine T_ch 2 rfl ?_ <;> apply T_nil) | refine W_region (id := 6) rfl ?_ | (refine W_ops (id := 7) ?_ <;> (refine T_go rfl ?_; first | refine G_true rfl rfl ?_ | refine G_false rfl rfl ?_ | refine G_true rfl (by with_reducible assumption) ?_ | refine G_false rfl (by with_reducible assumption) ?_ | refine G_true rfl (by assumption) ?_ | refine G_false rfl (by assumption) ?_ | refine G_split rfl (fun _ => ?_) (fun _ => ?_)) <;> refine T_ch 1 rfl ?_ <;> apply T_nil) | (refine W_ops (id := 9) ?_ <;> (refine T_go rfl ?_; first | refine G_true rfl rfl ?_ | refine G_false rfl rfl ?_ | refine G_true rfl (by with_reducible assumption) ?_ | refine G_false rfl (by with_reducible assumption) ?_ | refine G_true rfl (by assumption) ?_ | refine G_false rfl (by assumption) ?_ | refine G_split rfl (fun _ => ?_) (fun _ => ?_)) <;> refine T_ch 1 rfl ?_ <;> apply T_nil) | (refine W_ops (id := 11) ?_ <;> (refine T_go rfl ?_; first | refine G_true rfl rfl ?_ | refine G_false rfl rfl ?_ | refine G_true rfl (by with_reducible assumption) ?_ | refine G_false rfl (by with_reducible assumption) ?_ | refine G_true rfl (by assumption) ?_ | refine G_false rfl (by assumption) ?_ | refine G_split rfl (fun _ => ?_) (fun _ => ?_)) <;> refine T_ch 1 rfl ?_ <;> apply T_nil) | (refine W_ops (id := 13) ?_ <;> (refine T_go rfl ?_; first | refine G_true rfl rfl ?_ | refine G_false rfl rfl ?_ | refine G_true rfl (by with_reducible assumption) ?_ | refine G_false rfl (by with_reducible assumption) ?_ | refine G_true rfl (by assumption) ?_ | refine G_false rfl (by assumption) ?_ | refine G_split rfl (fun _ => ?_) (fun _ => ?_)) <;> refine T_ch 1 rfl ?_ <;> apply T_nil) | (refine W_ops (id := 14) ?_ <;> (refine T_go rfl ?_; first | refine G_true rfl rfl ?_ | refine G_false rfl rfl ?_ | refine G_true rfl (by with_reducible assumption) ?_ | refine G_false rfl (by with_reducible assumption) ?_ | refine G_true rfl (by assumption) ?_ | refine G_false rfl (by assumption) ?_ | refine G_split rfl (fun _ => ?_) (fun _ => ?_)) <;> refine T_ch 1 rfl ?_ <;> apply T_nil) | (refine W_ops (id := 15) ?_ <;> refine T_ch 6 rfl ?_ <;> (refine T_go rfl ?_; refine G_op (O_call rfl rfl rfl rfl (by assumption)) ?_) <;> apply T_nil) | (refine W_ops (id := 16) ?_ <;> refine T_ch 6 rfl ?_ <;> (refine T_go rfl ?_; refine G_op (O_call rfl rfl rfl rfl (by assumption)) ?_) <;> apply T_nil) | refine W_region (id := 17) rfl ?_ | apply W_skip | apply W_block | apply W_ret | apply W_exit | refine W_true rfl (by assumption) ?_ | refine W_false rfl (by assumption) ?_ | refine W_cond rfl (fun _ => ?_) (fun _ => ?_)))
          subst hP; exact ⟨(E.1, E.2), rfl, hJn⟩
      · simp only [if_neg o0, if_neg o4, if_neg o3, if_neg o1] at hP
        have c1 : (op == 1) = false := by simp; exact fun h => o1 (.inl h)
        have c2 : (op == 2) = false := by simp; exact fun h => o1 (.inr h)
        (repeat' (first | apply W_seq | refine W_true rfl rfl ?_ | refine W_false rfl rfl ?_ | (refine W_ops (id := 1) ?_ <;> (refine T_go rfl ?_; first | refine G_true rfl rfl ?_ | refine G_false rfl rfl ?_ | refine G_true rfl (by with_reducible assumption) ?_ | refine G_false rfl (by with_reducible assumption) ?_ | refine G_true rfl (by assumption) ?_ | refine G_false rfl (by assumption) ?_ | refine G_split rfl (fun _ => ?_) (fun _ => ?_)) <;> apply T_nil) | (refine W_ops (id := 2) ?_ <;> (refine T_go rfl ?_; first | refine G_op (O_index rfl rfl rfl rfl rfl (by assumption)) ?_ | refine G_op (O_indexI rfl rfl rfl rfl rfl (by assumption)) ?_ | refine G_op (O_indexH rfl rfl rfl rfl rfl (by assumption) (by assumption) (by assumption)) ?_ | refine G_op rfl ?_) <;> (refine T_go rfl ?_; first | refine G_op rfl ?_ | refine G_op (O_loadS rfl rfl rfl rfl (by assumption) rfl rfl) ?_ | refine G_op (O_loadH rfl rfl rfl (by assumption) rfl rfl) ?_) <;> refine T_ch 2 rfl ?_ <;> apply T_nil) | (refine W_ops (id := 3) ?_ <;> refine T_ch 2 rfl ?_ <;> (refine T_go rfl ?_; first | refine G_op (O_loadS rfl rfl rfl rfl (by assumption) rfl rfl) ?_ | refine G_op rfl ?_ | refine G_op (O_loadH rfl rfl rfl (by assumption) rfl rfl) ?_) <;> refine T_ch 1 rfl ?_ <;> apply T_nil) | (refine W_ops (id := 4) ?_ <;> refine T_ch 2 rfl ?_ <;> (refine T_go rfl ?_; first | refine G_op (O_loadS rfl rfl rfl rfl (by assumption) rfl rfl) ?_ | refine G_op rfl ?_ | refine G_op (O_loadH rfl rfl rfl (by assumption) rfl rfl) ?_) <;> refine T_ch 2 rfl ?_ <;> (refine T_go rfl ?_; first | refine G_op (O_storeS rfl rfl rfl rfl rfl (by assumption) (by assumption) ⟨rfl, rfl, Nat.le_of_ble_eq_true rfl⟩ rfl) ?_ | refine G_op rfl ?_ | refine G_op (O_storeH rfl rfl rfl rfl (by assumption) ⟨by assumption, rfl, rfl, Nat.le_of_ble_eq_true rfl⟩) ?_) <;> apply T_nil) | (refine W_ops (id := 5) ?_ <;> refine T_ch 4 rfl ?_ <;> (refine T_go rfl ?_; refine G_op (O_call rfl rfl rfl rfl (by assumption)) ?_) <;> refine T_ch 2 rfl ?_ <;> apply T_nil) | refine W_region (id := 6) rfl ?_ | (refine W_ops (id := 7) ?_ <;> (refine T_go rfl ?_; first | refine G_true rfl rfl ?_ | refine G_false rfl rfl ?_ | refine G_true rfl (by with_reducible assumption) ?_ | refine G_false rfl (by with_reducible assumption) ?_ | refine G_true rfl (by assumption) ?_ | refine G_false rfl (by assumption) ?_ | refine G_split rfl (fun _ => ?_) (fun _ => ?_)) <;> refine T_ch 1 rfl ?_ <;> apply T_nil) | (refine W_ops (id := 9) ?_ <;> (refine T_go rfl ?_; first | refine G_true rfl rfl ?_ | refine G_false rfl rfl ?_ | refine G_true rfl (by with_reducible assumption) ?_ | refine G_false rfl (by with_reducible assumption) ?_ | refine G_true rfl (by assumption) ?_ | refine G_false rfl (by assumption) ?_ | refine G_split rfl (fun _ => ?_) (fun _ => ?_)) <;> refine T_ch 1 rfl ?_ <;> apply T_nil) | (refine W_ops (id := 11) ?_ <;> (refine T_go rfl ?_; first | refine G_true rfl rfl ?_ | refine G_false rfl rfl ?_ | refine G_true rfl (by with_reducible assumption) ?_ | refine G_false rfl (by with_reducible assumption) ?_ | refine G_true rfl (by assumption) ?_ | refine G_false rfl (by assumption) ?_ | refine G_split rfl (fun _ => ?_) (fun _ => ?_)) <;> refine T_ch 1 rfl ?_ <;> apply T_nil) | (refine W_ops (id := 13) ?_ <;> (refine T_go rfl ?_; first | refine G_true rfl rfl ?_ | refine G_false rfl rfl ?_ | refine G_true rfl (by with_reducible assumption) ?_ | refine G_false rfl (by with_reducible assumption) ?_ | refine G_true rfl (by assumption) ?_ | refine G_false rfl (by assumption) ?_ | refine G_split rfl (fun _ => ?_) (fun _ => ?_)) <;> refine T_ch 1 rfl ?_ <;> apply T_nil) | (refine W_ops (id := 14) ?_ <;> (refine T_go rfl ?_; first | refine G_true rfl rfl ?_ | refine G_false rfl rfl ?_ | refine G_true rfl (by with_reducible assumption) ?_ | refine G_false rfl (by with_reducible assumption) ?_ | refine G_true rfl (by assumption) ?_ | refine G_false rfl (by assumption) ?_ | refine G_split rfl (fun _ => ?_) (fun _ => ?_)) <;> refine T_ch 1 rfl ?_ <;> apply T_nil) | refine W_region (id := 17) rfl ?_ | apply W_skip | apply W_block | apply W_ret | apply W_exit | refine W_true rfl (by assumption) ?_ | refine W_false rfl (by assumption) ?_ | refine W_cond rfl (fun _ => ?_) (fun _ => ?_)))
        subst hP; exact ⟨(x1, IntKind.i64.wrap (n1 + 1)), rfl, hJn⟩
    · intro a hJ
      have hlt := ge_sms (l := l)
      have hJ := hJ.1
      rw [fixPL] at hJ
      (repeat' (first | apply W_seq | refine W_true rfl rfl ?_ | refine W_false rfl rfl ?_ | (refine W_ops (id := 1) ?_ <;> (refine T_go rfl ?_; first | refine G_true rfl rfl ?_ | refine G_false rfl rfl ?_ | refine G_true rfl (by with_reducible assumption) ?_ | refine G_false rfl (by with_reducible assumption) ?_ | refine G_true rfl (by assumption) ?_ | refine G_false rfl (by assumption) ?_ | refine G_split rfl (fun _ => ?_) (fun _ => ?_)) <;> apply T_nil) | apply W_skip | apply W_block | apply W_ret | apply W_exit | refine W_true rfl (by assumption) ?_ | refine W_false rfl (by assumption) ?_ | refine W_cond rfl (fun _ => ?_) (fun _ => ?_)))
      exact ⟨.inr rfl, Eq.trans (b := some (AV.tup [], (flB h a.1).set (h.length + 1) (.cells 3 [.int .i64 a.2]))) rfl (by rw [← hJ])⟩
end Go.Proofs.Ytelobnllkhnpaaa.L
/- level.flows, level.Check; the flows of the law; Same. -/
open Go Go.Proofs Go.Ev Go.Proofs.Ytelobnllkhnpaaa.E
namespace Go.Proofs.Ytelobnllkhnpaaa.L
set_option linter.unusedVariables false
set_option linter.unusedSimpArgs false
set_option maxRecDepth 100000

theorem flX_frz (h : Heap) (rows : List (List AV)) (m : Int) (hr : ∀ r, r ∈ rows → r.length = 3 ∧ ∀ x, x ∈ r → static x = true) : hand true h (outA h rows) (flX h rows m) = some (accV 3 rows, h) := by
  cases rows with
  | nil => rfl
  | cons r l =>
    have hlen : ∀ q, q ∈ r :: l → q.length = 3 := fun q hq => (hr q hq).1
    have hst : (r :: l).flatten.all static = true := by
      rw [List.all_eq_true]
      intro x hx
      obtain ⟨q, h1, h2⟩ := List.mem_flatten.1 hx
      exact (hr q h1).2 x h2
    have hg : (flX h (r :: l) m)[h.length + 2]? = some (.cells 94 (r :: l).flatten) := by simp [flX]
    have h1 : frz1 (flX h (r :: l) m) h.length (.sl (h.length + 2) 3 0 (l.length + 1)) = some (.vs 3 (r :: l)) := by
      unfold frz1
      dsimp only
      rw [hg]
      dsimp only
      rw [if_pos ⟨by omega, by rw [flat_len _ hlen]; simp, hst⟩, List.drop_zero]
      rw [show l.length + 1 = (r :: l).length from rfl, chunks_flat _ hlen]
    show (if true then match frz (flX h (r :: l) m) h.length (outA h (r :: l)) with | some b => some (b, h) | none => none else _) = _
    have h2 : frz (flX h (r :: l) m) h.length (outA h (r :: l)) = some (.vs 3 (r :: l)) := h1
    rw [h2]
    rfl

def flP (lv : List Int) (p : Pr') : List (List AV) := (fixPL tellL lv p.body 0 [] 0).1
theorem flows_run (lv : List Int) (p : Pr') (k : Nat) (hk : smsK p.body + 30 ≤ k) (hN : smsN p.body ≤ 600) (hb : prB p) (hr : rdSs lv.length p.body) (h : Heap) (lo : Nat) :
    call Try.prog cfg (k + 1) lo (.func 54) [.agg (prC p), .vs 1 (intsC lv)] h = some (accV 3 (flP lv p), h) := by
  have hF := fixedP_run lv h h.length (Nat.le_refl _) k p.body (by omega) hb.2.1 hb.2.2 hr 0 [] 0 (fun r hr => by cases hr) (by simp; omega)
  obtain ⟨g1, _⟩ := fixPL_row lv p.body 0 [] 0 (fun r hr => by cases hr)
  have hP : flP lv p = (fixPL tellL lv p.body 0 [] 0).1 := rfl
  generalize fixPL tellL lv p.body 0 [] 0 = R at hF g1 hP
  rw [hP]
  have hfin := flX_frz h R.1 R.2 g1
  have hlo : h.length ≤ (h ++ [HObj.cells 41 [.nils]]).length := by simp
  have hg : (h ++ [HObj.cells 41 [.nils]] ++ [HObj.cells 3 [.int .i64 0]])[(h ++ [HObj.cells 41 [.nils]]).length]? = some (.cells 3 [.int .i64 0]) := by simp
  have e1 : (flB h []).set (h.length + 1) (.cells 3 [.int .i64 0]) = (h ++ [HObj.cells 41 [.nils]] ++ [HObj.cells 3 [.int .i64 0]]).set (h ++ [HObj.cells 41 [.nils]]).length (.cells 3 [.int .i64 0]) := by simp [flB, List.set_append]
  have e2 : h.length + 1 = (h ++ [HObj.cells 41 [.nils]]).length := by simp
  rw [flB_set h R.1, e1, e2] at hF
  have hg2 : (flX h R.1 R.2)[h.length]? = some (.cells 41 [outA h R.1]) := by
    cases R.1 <;> simp [flX, outA]
  obtain ⟨w, vs, body⟩ := p
  dsimp only at hF
  apply W_call Try.func54 rfl (Nat.le_of_ble_eq_true rfl) rfl
  (repeat' (first | apply W_seq | refine W_true rfl rfl ?_ | refine W_false rfl rfl ?_ | refine W_region (id := 0) rfl ?_ | refine W_region (id := 1) rfl ?_ | (refine W_ops (id := 2) ?_ <;> refine T_ch 1 rfl ?_ <;> (refine T_go rfl ?_; first | refine G_op (O_storeS rfl rfl rfl rfl rfl (by assumption) (by assumption) ⟨rfl, rfl, Nat.le_of_ble_eq_true rfl⟩ rfl) ?_ | refine G_op rfl ?_ | refine G_op (O_storeH rfl rfl rfl rfl (by assumption) ⟨by assumption, rfl, rfl, Nat.le_of_ble_eq_true rfl⟩) ?_) <;> apply T_nil) | (refine W_ops (id := 3) ?_ <;> refine T_ch 4 rfl ?_ <;> (refine T_go rfl ?_; refine G_op (O_call rfl rfl rfl rfl (by assumption)) ?_) <;> apply T_nil) | (refine W_ops (id := 4) ?_ <;> (refine T_go rfl ?_; first | refine G_op (O_loadS rfl rfl rfl rfl (by assumption) rfl rfl) ?_ | refine G_op rfl ?_ | refine G_op (O_loadH rfl rfl rfl (by assumption) rfl rfl) ?_) <;> refine T_ch 1 rfl ?_ <;> apply T_nil) | apply W_skip | apply W_block | apply W_ret | apply W_exit | refine W_true rfl (by assumption) ?_ | refine W_false rfl (by assumption) ?_ | refine W_cond rfl (fun _ => ?_) (fun _ => ?_)))
  exact ⟨.inl rfl, hfin⟩
def chkFl (p : Pr') : AV := if faultI p = 0 then accV 3 (flP (levs p) p) else .nils
theorem Fcheck_run (p : Pr') (hN : smsN p.body ≤ 600) (k : Nat) (hk : smsK p.body + p.vars.length + 100 ≤ k) (hb : prB p) (hr : isP p = true → rdSs p.vars.length p.body) (h : Heap) (lo : Nat) :
    call Try.prog cfg (k + 1) lo (.func 19) [.agg (prC p)] h = some (.tup [chkFl p, .int .i64 (faultI p)], h) := by
  have hC := levcheck_run p (k - 1) (by omega) hb h h.length
  rw [show k - 1 + 1 = k by omega, chk_eq p hN] at hC
  unfold chkFl
  rcases faultI_cases p with ⟨hf, hP, hS⟩ | hf | hf
  · rw [hf] at hC ⊢
    rw [if_pos rfl]
    obtain ⟨hh, hl1, hl2⟩ := isP_head hP
    have hL := levels_run p (k - 1) (by omega) (by omega) h h.length
    have hF := flows_run (levs p) p (k - 1) (by omega) hN hb (by rw [levs_len]; exact hr hP) h h.length
    rw [show k - 1 + 1 = k by omega] at hL hF
    rw [accV_ne (levs_ne hl1)] at hL
    generalize flP (levs p) p = R at hF ⊢
    generalize levs p = lv at hL hF
    obtain ⟨w, vs, body⟩ := p
    cases R <;>
    · apply W_call Try.func19 rfl (Nat.le_of_ble_eq_true rfl) rfl
      (repeat' (first | apply W_seq | refine W_true rfl rfl ?_ | refine W_false rfl rfl ?_ | refine W_region (id := 0) rfl ?_ | (refine W_ops (id := 1) ?_ <;> refine T_ch 1 rfl ?_ <;> (refine T_go rfl ?_; refine G_op (O_call rfl rfl rfl rfl (by assumption)) ?_) <;> refine T_ch 1 rfl ?_ <;> apply T_nil) | (refine W_ops (id := 2) ?_ <;> refine T_ch 1 rfl ?_ <;> (refine T_go rfl ?_; first | refine G_true rfl rfl ?_ | refine G_false rfl rfl ?_ | refine G_true rfl (by with_reducible assumption) ?_ | refine G_false rfl (by with_reducible assumption) ?_ | refine G_true rfl (by assumption) ?_ | refine G_false rfl (by assumption) ?_ | refine G_split rfl (fun _ => ?_) (fun _ => ?_)) <;> apply T_nil) | refine W_region (id := 3) rfl ?_ | (refine W_dops (id := 4) (bs := [0, 0, 2, 7, 15, 31]) (by decide +kernel) ?_ <;> (refine U_go rfl ?_; refine H_free (by decide +kernel) rfl rfl rfl rfl rfl ?_) <;> (refine U_go rfl ?_; refine H_free (by decide +kernel) rfl rfl rfl rfl rfl ?_) <;> (refine U_go rfl ?_; refine H_free (by decide +kernel) rfl (O_call rfl rfl rfl rfl (by assumption)) rfl rfl rfl ?_) <;> (refine U_go rfl ?_; refine H_op (by decide +kernel) (O_call rfl rfl rfl rfl (by assumption)) ?_) <;> (refine U_go rfl ?_; refine H_op (by decide +kernel) rfl ?_) <;> (refine U_go rfl ?_; refine H_op (by decide +kernel) rfl ?_) <;> apply U_nil) | apply W_skip | apply W_block | apply W_ret | apply W_exit | refine W_true rfl (by assumption) ?_ | refine W_false rfl (by assumption) ?_ | refine W_cond rfl (fun _ => ?_) (fun _ => ?_)))
      exact ⟨.inl rfl, rfl⟩
  · rw [hf] at hC ⊢
    rw [if_neg (by simp)]
    obtain ⟨w, vs, body⟩ := p
    apply W_call Try.func19 rfl (Nat.le_of_ble_eq_true rfl) rfl
    (repeat' (first | apply W_seq | refine W_true rfl rfl ?_ | refine W_false rfl rfl ?_ | refine W_region (id := 0) rfl ?_ | (refine W_ops (id := 1) ?_ <;> refine T_ch 1 rfl ?_ <;> (refine T_go rfl ?_; refine G_op (O_call rfl rfl rfl rfl (by assumption)) ?_) <;> refine T_ch 1 rfl ?_ <;> apply T_nil) | (refine W_ops (id := 2) ?_ <;> refine T_ch 1 rfl ?_ <;> (refine T_go rfl ?_; first | refine G_true rfl rfl ?_ | refine G_false rfl rfl ?_ | refine G_true rfl (by with_reducible assumption) ?_ | refine G_false rfl (by with_reducible assumption) ?_ | refine G_true rfl (by assumption) ?_ | refine G_false rfl (by assumption) ?_ | refine G_split rfl (fun _ => ?_) (fun _ => ?_)) <;> apply T_nil) | refine W_region (id := 3) rfl ?_ | (refine W_dops (id := 4) (bs := [0, 0, 2, 7, 15, 31]) (by decide +kernel) ?_ <;> (refine U_go rfl ?_; refine H_free (by decide +kernel) rfl rfl rfl rfl rfl ?_) <;> (refine U_go rfl ?_; refine H_free (by decide +kernel) rfl rfl rfl rfl rfl ?_) <;> (refine U_go rfl ?_; refine H_free (by decide +kernel) rfl (O_call rfl rfl rfl rfl (by assumption)) rfl rfl rfl ?_) <;> (refine U_go rfl ?_; refine H_op (by decide +kernel) (O_call rfl rfl rfl rfl (by assumption)) ?_) <;> (refine U_go rfl ?_; refine H_op (by decide +kernel) rfl ?_) <;> (refine U_go rfl ?_; refine H_op (by decide +kernel) rfl ?_) <;> apply U_nil) | apply W_skip | apply W_block | apply W_ret | apply W_exit | refine W_true rfl (by assumption) ?_ | refine W_false rfl (by assumption) ?_ | refine W_cond rfl (fun _ => ?_) (fun _ => ?_)))
    exact ⟨.inl rfl, rfl⟩
  · rw [hf] at hC ⊢
    rw [if_neg (by simp)]
    obtain ⟨w, vs, body⟩ := p
    apply W_call Try.func19 rfl (Nat.le_of_ble_eq_true rfl) rfl
    (repeat' (first | apply W_seq | refine W_true rfl rfl ?_ | refine W_false rfl rfl ?_ | refine W_region (id := 0) rfl ?_ | (refine W_ops (id := 1) ?_ <;> refine T_ch 1 rfl ?_ <;> (refine T_go rfl ?_; refine G_op (O_call rfl rfl rfl rfl (by assumption)) ?_) <;> refine T_ch 1 rfl ?_ <;> apply T_nil) | (refine W_ops (id := 2) ?_ <;> refine T_ch 1 rfl ?_ <;> (refine T_go rfl ?_; first | refine G_true rfl rfl ?_ | refine G_false rfl rfl ?_ | refine G_true rfl (by with_reducible assumption) ?_ | refine G_false rfl (by with_reducible assumption) ?_ | refine G_true rfl (by assumption) ?_ | refine G_false rfl (by assumption) ?_ | refine G_split rfl (fun _ => ?_) (fun _ => ?_)) <;> apply T_nil) | refine W_region (id := 3) rfl ?_ | (refine W_dops (id := 4) (bs := [0, 0, 2, 7, 15, 31]) (by decide +kernel) ?_ <;> (refine U_go rfl ?_; refine H_free (by decide +kernel) rfl rfl rfl rfl rfl ?_) <;> (refine U_go rfl ?_; refine H_free (by decide +kernel) rfl rfl rfl rfl rfl ?_) <;> (refine U_go rfl ?_; refine H_free (by decide +kernel) rfl (O_call rfl rfl rfl rfl (by assumption)) rfl rfl rfl ?_) <;> (refine U_go rfl ?_; refine H_op (by decide +kernel) (O_call rfl rfl rfl rfl (by assumption)) ?_) <;> (refine U_go rfl ?_; refine H_op (by decide +kernel) rfl ?_) <;> (refine U_go rfl ?_; refine H_op (by decide +kernel) rfl ?_) <;> apply U_nil) | apply W_skip | apply W_block | apply W_ret | apply W_exit | refine W_true rfl (by assumption) ?_ | refine W_false rfl (by assumption) ?_ | refine W_cond rfl (fun _ => ?_) (fun _ => ?_)))
    exact ⟨.inl rfl, rfl⟩

/-- Flows as numbers. -/
def flC (x : Int × Int × Int) : List AV := [.int .i64 x.1, .int .i64 x.2.1, .int .i64 x.2.2]
def lfS (h : Heap) (v : AV) (i : Int) (rows : List (List AV)) : St :=
  { env := [(0, .v v), (3, .v (accA h 3 rows)), (4, .v (.int .i64 i))], loc := [], heap := accH h 89 rows, inRound := false, lo := h.length }
theorem lawflows_run (fl : List (Int × Int × Int)) (k : Nat) (hk : fl.length < k) (hl : fl.length < 1000) (h : Heap) (lo : Nat) : call Try.prog cfg (k + 1) lo (.func 21) [accV 3 (fl.map flC)] h = some (accV 3 (fl.map flC), h) := by
  have hrw : ∀ l : List (Int × Int × Int), Row3 (l.map flC) := fun l r hr => by
    obtain ⟨x, _, rfl⟩ := List.mem_map.1 hr
    refine ⟨rfl, fun y hy => ?_⟩
    simp only [flC, List.mem_cons, List.not_mem_nil, or_false] at hy
    rcases hy with rfl | rfl | rfl <;> rfl
  cases fl with
  | nil =>
    apply W_call Try.func21 rfl (Nat.le_of_ble_eq_true rfl) rfl
    (repeat' (first | apply W_seq | refine W_true rfl rfl ?_ | refine W_false rfl rfl ?_ | refine W_region (id := 0) rfl ?_ | refine W_region (id := 1) rfl ?_ | refine W_region (id := 2) rfl ?_ | apply W_skip | apply W_block | apply W_ret | apply W_exit | refine W_true rfl (by assumption) ?_ | refine W_false rfl (by assumption) ?_ | refine W_cond rfl (fun _ => ?_) (fun _ => ?_)))
    apply W_iter (S := lfS h .nils) (l := ([] : List Nat)) (a0 := []) (fun _ a => a = []) (by simp) (by simp; omega) rfl rfl
    · intro i st rest a hi; simp at hi
    · intro a hJ
      subst hJ
      (repeat' (first | apply W_seq | refine W_true rfl rfl ?_ | refine W_false rfl rfl ?_ | (refine W_ops (id := 3) ?_ <;> refine T_ch 3 rfl ?_ <;> (refine T_go rfl ?_; first | refine G_true rfl rfl ?_ | refine G_false rfl rfl ?_ | refine G_true rfl (by with_reducible assumption) ?_ | refine G_false rfl (by with_reducible assumption) ?_ | refine G_true rfl (by assumption) ?_ | refine G_false rfl (by assumption) ?_ | refine G_split rfl (fun _ => ?_) (fun _ => ?_)) <;> apply T_nil) | refine W_region (id := 6) rfl ?_ | apply W_skip | apply W_block | apply W_ret | apply W_exit | refine W_true rfl (by assumption) ?_ | refine W_false rfl (by assumption) ?_ | refine W_cond rfl (fun _ => ?_) (fun _ => ?_)))
      exact ⟨.inl rfl, rfl⟩
  | cons x0 l0 =>
    have hfin := acc_frz (h := h) (e := 89) (sz := 3) ((x0 :: l0).map flC) (hrw _)
    generalize hfl : x0 :: l0 = fl at *
    have hacc : accV 3 (fl.map flC) = .vs 3 (fl.map flC) := by subst hfl; rfl
    have hlen : ((fl.map flC).length : Int) = fl.length := by simp
    rw [hacc] at hfin ⊢
    apply W_call Try.func21 rfl (Nat.le_of_ble_eq_true rfl) rfl
    (repeat' (first | apply W_seq | refine W_true rfl rfl ?_ | refine W_false rfl rfl ?_ | refine W_region (id := 0) rfl ?_ | refine W_region (id := 1) rfl ?_ | refine W_region (id := 2) rfl ?_ | apply W_skip | apply W_block | apply W_ret | apply W_exit | refine W_true rfl (by assumption) ?_ | refine W_false rfl (by assumption) ?_ | refine W_cond rfl (fun _ => ?_) (fun _ => ?_)))
    apply W_iterI (S := lfS h (.vs 3 (fl.map flC))) (l := fl) (a0 := []) (fun i rest a => a ++ rest.map flC = fl.map flC ∧ a.length = i ∧ Row3 a) (by omega) (by omega) rfl ⟨rfl, rfl, fun r hr => by cases hr⟩
    · intro i x rest a hi hd hil hJ
      obtain ⟨j1, j2, j3⟩ := hJ
      have hlt : decide ((i : Int) < ((fl.map flC).length : Int)) = true := decide_eq_true (by rw [hlen]; omega)
      have hrow : (fl.map flC)[i]? = some (flC x) := by rw [List.getElem?_map, hi]; rfl
      have hap := fl_append h a [flC x] (fun r hr => (j3 r hr).1) (by simp; omega)
      obtain ⟨x1, x2, x3⟩ := x
      (repeat' (first | apply W_seq | refine W_true rfl rfl ?_ | refine W_false rfl rfl ?_ | (refine W_ops (id := 3) ?_ <;> refine T_ch 3 rfl ?_ <;> (refine T_go rfl ?_; first | refine G_true rfl rfl ?_ | refine G_false rfl rfl ?_ | refine G_true rfl (by with_reducible assumption) ?_ | refine G_false rfl (by with_reducible assumption) ?_ | refine G_true rfl (by assumption) ?_ | refine G_false rfl (by assumption) ?_ | refine G_split rfl (fun _ => ?_) (fun _ => ?_)) <;> apply T_nil) | refine W_region (id := 4) rfl ?_ | (refine W_dops (id := 5) (bs := [0, 0, 0, 6, 14, 30, 0, 0, 192, 448, 960, 0, 0, 6144, 14336, 30720, 65534, 131070, 262143, 524287]) (by decide +kernel) ?_ <;> (refine U_go rfl ?_; refine H_free (by decide +kernel) rfl rfl rfl rfl rfl ?_) <;> (refine U_go rfl ?_; refine H_free (by decide +kernel) rfl rfl rfl rfl rfl ?_) <;> (refine U_go rfl ?_; refine H_free (by decide +kernel) rfl rfl rfl rfl rfl ?_) <;> (refine U_go rfl ?_; first | refine H_free (by decide +kernel) rfl (O_index rfl rfl rfl rfl rfl (by assumption)) rfl rfl rfl ?_ | refine H_free (by decide +kernel) rfl (O_indexI rfl rfl rfl rfl rfl (by assumption)) rfl rfl rfl ?_ | refine H_free (by decide +kernel) rfl (O_indexH rfl rfl rfl rfl rfl (by assumption) (by assumption) (by assumption)) rfl rfl rfl ?_ | refine H_free (by decide +kernel) rfl rfl rfl rfl rfl ?_) <;> (refine U_go rfl ?_; refine H_free (by decide +kernel) rfl rfl rfl rfl rfl ?_) <;> (refine U_go rfl ?_; first | refine H_free (by decide +kernel) rfl rfl rfl rfl rfl ?_ | refine H_free (by decide +kernel) rfl (O_loadS rfl rfl rfl rfl (by assumption) rfl rfl) rfl rfl rfl ?_ | refine H_free (by decide +kernel) rfl (O_loadH rfl rfl rfl (by assumption) rfl rfl) rfl rfl rfl ?_) <;> (refine U_go rfl ?_; refine H_free (by decide +kernel) rfl rfl rfl rfl rfl ?_) <;> (refine U_go rfl ?_; refine H_free (by decide +kernel) rfl rfl rfl rfl rfl ?_) <;> (refine U_go rfl ?_; first | refine H_free (by decide +kernel) rfl (O_index rfl rfl rfl rfl rfl (by assumption)) rfl rfl rfl ?_ | refine H_free (by decide +kernel) rfl (O_indexI rfl rfl rfl rfl rfl (by assumption)) rfl rfl rfl ?_ | refine H_free (by decide +kernel) rfl (O_indexH rfl rfl rfl rfl rfl (by assumption) (by assumption) (by assumption)) rfl rfl rfl ?_ | refine H_free (by decide +kernel) rfl rfl rfl rfl rfl ?_) <;> (refine U_go rfl ?_; refine H_free (by decide +kernel) rfl rfl rfl rfl rfl ?_) <;> (refine U_go rfl ?_; first | refine H_free (by decide +kernel) rfl rfl rfl rfl rfl ?_ | refine H_free (by decide +kernel) rfl (O_loadS rfl rfl rfl rfl (by assumption) rfl rfl) rfl rfl rfl ?_ | refine H_free (by decide +kernel) rfl (O_loadH rfl rfl rfl (by assumption) rfl rfl) rfl rfl rfl ?_) <;> (refine U_go rfl ?_; refine H_free (by decide +kernel) rfl rfl rfl rfl rfl ?_) <;> (refine U_go rfl ?_; refine H_free (by decide +kernel) rfl rfl rfl rfl rfl ?_) <;> (refine U_go rfl ?_; first | refine H_free (by decide +kernel) rfl (O_index rfl rfl rfl rfl rfl (by assumption)) rfl rfl rfl ?_ | refine H_free (by decide +kernel) rfl (O_indexI rfl rfl rfl rfl rfl (by assumption)) rfl rfl rfl ?_ | refine H_free (by decide +kernel) rfl (O_indexH rfl rfl rfl rfl rfl (by assumption) (by assumption) (by assumption)) rfl rfl rfl ?_ | refine H_free (by decide +kernel) rfl rfl rfl rfl rfl ?_) <;> (refine U_go rfl ?_; refine H_free (by decide +kernel) rfl rfl rfl rfl rfl ?_) <;> (refine U_go rfl ?_; first | refine H_free (by decide +kernel) rfl rfl rfl rfl rfl ?_ | refine H_free (by decide +kernel) rfl (O_loadS rfl rfl rfl rfl (by assumption) rfl rfl) rfl rfl rfl ?_ | refine H_free (by decide +kernel) rfl (O_loadH rfl rfl rfl (by assumption) rfl rfl) rfl rfl rfl ?_) <;> (refine U_go rfl ?_; refine H_free (by decide +kernel) rfl rfl rfl rfl rfl ?_) <;> (refine U_go rfl ?_; refine H_free (by decide +kernel) rfl rfl rfl rfl rfl ?_) <;> (refine U_go rfl ?_; first | refine H_op (by decide +kernel) (O_append rfl rfl rfl rfl rfl (by assumption)) ?_ | refine H_op (by decide +kernel) rfl ?_) <;> (refine U_go rfl ?_; refine H_op (by decide +kernel) rfl ?_) <;> apply U_nil) | apply W_skip | apply W_block | apply W_ret | apply W_exit | refine W_true rfl (by assumption) ?_ | refine W_false rfl (by assumption) ?_ | refine W_cond rfl (fun _ => ?_) (fun _ => ?_)))
      exact ⟨a ++ [flC (x1, x2, x3)], rfl, by rw [← j1]; simp, by simp [j2], fun r hr => by
        rcases List.mem_append.1 hr with hr | hr
        · exact j3 r hr
        · exact hrw [(x1, x2, x3)] r (by simpa using hr)⟩
    · intro a hJ
      have hlt : decide ((fl.length : Int) < ((fl.map flC).length : Int)) = false := decide_eq_false (by rw [hlen]; omega)
      have : a = fl.map flC := by simpa using hJ.1
      subst this
      (repeat' (first | apply W_seq | refine W_true rfl rfl ?_ | refine W_false rfl rfl ?_ | (refine W_ops (id := 3) ?_ <;> refine T_ch 3 rfl ?_ <;> (refine T_go rfl ?_; first | refine G_true rfl rfl ?_ | refine G_false rfl rfl ?_ | refine G_true rfl (by with_reducible assumption) ?_ | refine G_false rfl (by with_reducible assumption) ?_ | refine G_true rfl (by assumption) ?_ | refine G_false rfl (by assumption) ?_ | refine G_split rfl (fun _ => ?_) (fun _ => ?_)) <;> apply T_nil) | refine W_region (id := 6) rfl ?_ | apply W_skip | apply W_block | apply W_ret | apply W_exit | refine W_true rfl (by assumption) ?_ | refine W_false rfl (by assumption) ?_ | refine W_cond rfl (fun _ => ?_) (fun _ => ?_)))
      exact ⟨.inl rfl, hfin⟩
def smS (h : Heap) (v : AV) (i : Int) (_ : Unit) : St :=
  { env := [(0, .v v), (1, .v v), (5, .v (.int .i64 i))], loc := [], heap := h, inRound := false, lo := h.length }
theorem same_run (fl : List (Int × Int × Int)) (k : Nat) (hk : fl.length < k) (hl : fl.length < 1000) (h : Heap) (lo : Nat) : call Try.prog cfg (k + 1) lo (.func 20) [accV 3 (fl.map flC), accV 3 (fl.map flC)] h = some (.bool true, h) := by
  cases fl with
  | nil =>
    apply W_call Try.func20 rfl (Nat.le_of_ble_eq_true rfl) rfl
    (repeat' (first | apply W_seq | refine W_true rfl rfl ?_ | refine W_false rfl rfl ?_ | refine W_region (id := 0) rfl ?_ | (refine W_ops (id := 1) ?_ <;> refine T_ch 4 rfl ?_ <;> (refine T_go rfl ?_; first | refine G_true rfl rfl ?_ | refine G_false rfl rfl ?_ | refine G_true rfl (by with_reducible assumption) ?_ | refine G_false rfl (by with_reducible assumption) ?_ | refine G_true rfl (by assumption) ?_ | refine G_false rfl (by assumption) ?_ | refine G_split rfl (fun _ => ?_) (fun _ => ?_)) <;> apply T_nil) | refine W_region (id := 2) rfl ?_ | refine W_region (id := 3) rfl ?_ | apply W_skip | apply W_block | apply W_ret | apply W_exit | refine W_true rfl (by assumption) ?_ | refine W_false rfl (by assumption) ?_ | refine W_cond rfl (fun _ => ?_) (fun _ => ?_)))
    apply W_iter (S := smS h .nils) (l := ([] : List Nat)) (a0 := ()) (fun _ _ => True) (by simp) (by simp; omega) rfl trivial
    · intro i st rest a hi; simp at hi
    · intro a hJ
      (repeat' (first | apply W_seq | refine W_true rfl rfl ?_ | refine W_false rfl rfl ?_ | (refine W_ops (id := 4) ?_ <;> refine T_ch 3 rfl ?_ <;> (refine T_go rfl ?_; first | refine G_true rfl rfl ?_ | refine G_false rfl rfl ?_ | refine G_true rfl (by with_reducible assumption) ?_ | refine G_false rfl (by with_reducible assumption) ?_ | refine G_true rfl (by assumption) ?_ | refine G_false rfl (by assumption) ?_ | refine G_split rfl (fun _ => ?_) (fun _ => ?_)) <;> apply T_nil) | refine W_region (id := 8) rfl ?_ | apply W_skip | apply W_block | apply W_ret | apply W_exit | refine W_true rfl (by assumption) ?_ | refine W_false rfl (by assumption) ?_ | refine W_cond rfl (fun _ => ?_) (fun _ => ?_)))
      exact ⟨.inl rfl, rfl⟩
  | cons x0 l0 =>
    generalize hfl : x0 :: l0 = fl at *
    have hacc : accV 3 (fl.map flC) = .vs 3 (fl.map flC) := by subst hfl; rfl
    have hlen : ((fl.map flC).length : Int) = fl.length := by simp
    have hne : (((fl.map flC).length : Int) != ((fl.map flC).length : Int)) = false := by simp
    rw [hacc]
    apply W_call Try.func20 rfl (Nat.le_of_ble_eq_true rfl) rfl
    (repeat' (first | apply W_seq | refine W_true rfl rfl ?_ | refine W_false rfl rfl ?_ | refine W_region (id := 0) rfl ?_ | (refine W_ops (id := 1) ?_ <;> refine T_ch 4 rfl ?_ <;> (refine T_go rfl ?_; first | refine G_true rfl rfl ?_ | refine G_false rfl rfl ?_ | refine G_true rfl (by with_reducible assumption) ?_ | refine G_false rfl (by with_reducible assumption) ?_ | refine G_true rfl (by assumption) ?_ | refine G_false rfl (by assumption) ?_ | refine G_split rfl (fun _ => ?_) (fun _ => ?_)) <;> apply T_nil) | refine W_region (id := 2) rfl ?_ | refine W_region (id := 3) rfl ?_ | apply W_skip | apply W_block | apply W_ret | apply W_exit | refine W_true rfl (by assumption) ?_ | refine W_false rfl (by assumption) ?_ | refine W_cond rfl (fun _ => ?_) (fun _ => ?_)))
    apply W_iter (S := smS h (.vs 3 (fl.map flC))) (l := fl) (a0 := ()) (fun _ _ => True) (by omega) (by omega) rfl trivial
    · intro i x rest a hi hd hil hJ
      have hlt : decide ((i : Int) < ((fl.map flC).length : Int)) = true := decide_eq_true (by rw [hlen]; omega)
      have hrow : (fl.map flC)[i]? = some (flC x) := by rw [List.getElem?_map, hi]; rfl
      obtain ⟨x1, x2, x3⟩ := x
      have hbin : Go.Ev.binop cfg.tab cfg.eqs .neq 89 (.agg (flC (x1, x2, x3))) (.agg (flC (x1, x2, x3))) = some (.bool false) := by
        show (eqStruct cfg.tab cfg.eqs 89 (flC (x1, x2, x3)) (flC (x1, x2, x3))).map (fun r => AV.bool !r) = _
        have : eqStruct cfg.tab cfg.eqs 89 (flC (x1, x2, x3)) (flC (x1, x2, x3)) = eqAll cfg.tab [(0, 3), (1, 3), (2, 3)] (flC (x1, x2, x3)) (flC (x1, x2, x3)) := rfl
        rw [this]
        have hk3 : ∀ a : Int, keyEq (.int .i64) (.int .i64 a) (.int .i64 a) = some true := fun a => by simp [keyEq]
        have hl3 : Go.Ev.look cfg.tab 3 = some ⟨.int .i64, 1, 8, [.int .i64 0]⟩ := rfl
        simp only [flC, eqAll, hl3, hk3]
        rfl
      (repeat' (first | apply W_seq | refine W_true rfl rfl ?_ | refine W_false rfl rfl ?_ | (refine W_ops (id := 4) ?_ <;> refine T_ch 3 rfl ?_ <;> (refine T_go rfl ?_; first | refine G_true rfl rfl ?_ | refine G_false rfl rfl ?_ | refine G_true rfl (by with_reducible assumption) ?_ | refine G_false rfl (by with_reducible assumption) ?_ | refine G_true rfl (by assumption) ?_ | refine G_false rfl (by assumption) ?_ | refine G_split rfl (fun _ => ?_) (fun _ => ?_)) <;> apply T_nil) | refine W_region (id := 5) rfl ?_ | (refine W_dops (id := 6) (bs := [0, 0, 3, 7, 0, 0, 48, 112, 255]) (by decide +kernel) ?_ <;> (refine U_go rfl ?_; refine H_free (by decide +kernel) rfl rfl rfl rfl rfl ?_) <;> (refine U_go rfl ?_; refine H_free (by decide +kernel) rfl rfl rfl rfl rfl ?_) <;> (refine U_go rfl ?_; first | refine H_free (by decide +kernel) rfl (O_index rfl rfl rfl rfl rfl (by assumption)) rfl rfl rfl ?_ | refine H_free (by decide +kernel) rfl (O_indexI rfl rfl rfl rfl rfl (by assumption)) rfl rfl rfl ?_ | refine H_free (by decide +kernel) rfl (O_indexH rfl rfl rfl rfl rfl (by assumption) (by assumption) (by assumption)) rfl rfl rfl ?_ | refine H_free (by decide +kernel) rfl rfl rfl rfl rfl ?_) <;> (refine U_go rfl ?_; first | refine H_free (by decide +kernel) rfl rfl rfl rfl rfl ?_ | refine H_free (by decide +kernel) rfl (O_loadS rfl rfl rfl rfl (by assumption) rfl rfl) rfl rfl rfl ?_ | refine H_free (by decide +kernel) rfl (O_loadH rfl rfl rfl (by assumption) rfl rfl) rfl rfl rfl ?_) <;> (refine U_go rfl ?_; refine H_free (by decide +kernel) rfl rfl rfl rfl rfl ?_) <;> (refine U_go rfl ?_; refine H_free (by decide +kernel) rfl rfl rfl rfl rfl ?_) <;> (refine U_go rfl ?_; first | refine H_free (by decide +kernel) rfl (O_index rfl rfl rfl rfl rfl (by assumption)) rfl rfl rfl ?_ | refine H_free (by decide +kernel) rfl (O_indexI rfl rfl rfl rfl rfl (by assumption)) rfl rfl rfl ?_ | refine H_free (by decide +kernel) rfl (O_indexH rfl rfl rfl rfl rfl (by assumption) (by assumption) (by assumption)) rfl rfl rfl ?_ | refine H_free (by decide +kernel) rfl rfl rfl rfl rfl ?_) <;> (refine U_go rfl ?_; first | refine H_free (by decide +kernel) rfl rfl rfl rfl rfl ?_ | refine H_free (by decide +kernel) rfl (O_loadS rfl rfl rfl rfl (by assumption) rfl rfl) rfl rfl rfl ?_ | refine H_free (by decide +kernel) rfl (O_loadH rfl rfl rfl (by assumption) rfl rfl) rfl rfl rfl ?_) <;> (refine U_go rfl ?_; first | refine H_true (by decide +kernel) (O_bin rfl rfl rfl (by assumption)) rfl ?_ | refine H_false (by decide +kernel) (O_bin rfl rfl rfl (by assumption)) rfl ?_ | refine H_true (by decide +kernel) (O_bin rfl rfl rfl (by assumption)) (by with_reducible assumption) ?_ | refine H_false (by decide +kernel) (O_bin rfl rfl rfl (by assumption)) (by with_reducible assumption) ?_ | refine H_true (by decide +kernel) (O_bin rfl rfl rfl (by assumption)) (by assumption) ?_ | refine H_false (by decide +kernel) (O_bin rfl rfl rfl (by assumption)) (by assumption) ?_ | refine H_split (by decide +kernel) (O_bin rfl rfl rfl (by assumption)) (fun _ => ?_) (fun _ => ?_)) <;> apply U_nil) | refine W_region (id := 7) rfl ?_ | apply W_skip | apply W_block | apply W_ret | apply W_exit | refine W_true rfl (by assumption) ?_ | refine W_false rfl (by assumption) ?_ | refine W_cond rfl (fun _ => ?_) (fun _ => ?_)))
      exact ⟨(), rfl, trivial⟩
    · intro a hJ
      have hlt : decide ((fl.length : Int) < ((fl.map flC).length : Int)) = false := decide_eq_false (by rw [hlen]; omega)
      (repeat' (first | apply W_seq | refine W_true rfl rfl ?_ | refine W_false rfl rfl ?_ | (refine W_ops (id := 4) ?_ <;> refine T_ch 3 rfl ?_ <;> (refine T_go rfl ?_; first | refine G_true rfl rfl ?_ | refine G_false rfl rfl ?_ | refine G_true rfl (by with_reducible assumption) ?_ | refine G_false rfl (by with_reducible assumption) ?_ | refine G_true rfl (by assumption) ?_ | refine G_false rfl (by assumption) ?_ | refine G_split rfl (fun _ => ?_) (fun _ => ?_)) <;> apply T_nil) | refine W_region (id := 8) rfl ?_ | apply W_skip | apply W_block | apply W_ret | apply W_exit | refine W_true rfl (by assumption) ?_ | refine W_false rfl (by assumption) ?_ | refine W_cond rfl (fun _ => ?_) (fun _ => ?_)))
      exact ⟨.inl rfl, rfl⟩
end Go.Proofs.Ytelobnllkhnpaaa.L
/- Plain laws: the flows of the program and of the reference are the same; the law LevelFixed. -/
open Go Go.Proofs Go.Ev Go.Proofs.Ytelobnllkhnpaaa.E
namespace Go.Proofs.Ytelobnllkhnpaaa.L
set_option linter.unusedVariables false
set_option linter.unusedSimpArgs false
set_option maxRecDepth 100000

mutual
def sc1 : Sm' → Nat
  | .mk _ _ _ t e => 1 + scs t + scs e
def scs : List Sm' → Nat
  | [] => 0
  | s :: l => sc1 s + scs l
end
mutual
theorem sc1_le : ∀ s : Sm', sc1 s ≤ smN s
  | .mk _ _ a t e => by rw [sc1, smN]; have := scs_le t; have := scs_le e; omega
theorem scs_le : ∀ l : List Sm', scs l ≤ smsN l
  | [] => by rw [scs, smsN]; omega
  | s :: l => by rw [scs, smsN]; have := sc1_le s; have := scs_le l; omega
end
mutual
theorem cnt1_eq : ∀ (s : Sm') (n : Int), 0 ≤ n → n + smN s < 1000000 → cnt1 s n = n + sc1 s
  | .mk op m a t e, n, h0, h1 => by
    rw [smN] at h1
    have := scs_le t
    have := scs_le e
    rw [cnt1, sc1, cntL_eq t 0 (by omega) (by omega), cntL_eq e 0 (by omega) (by omega), wsm (n := n + 1) (by omega) (by omega), wsm (n := n + 1 + _) (by omega) (by omega), wsm (by omega) (by omega)]; omega
theorem cntL_eq : ∀ (l : List Sm') (n : Int), 0 ≤ n → n + smsN l < 1000000 → cntL l n = n + scs l
  | [], n, h0, h1 => by rw [cntL, scs]; omega
  | s :: l, n, h0, h1 => by
    rw [smsN] at h1
    have := sc1_le s
    rw [cntL, scs, cnt1_eq s n h0 (by omega), cntL_eq l _ (by omega) (by omega)]; omega
end
theorem flat_nil {t e : List Sm'} (h : flatB t e = true) : t = [] ∧ e = [] := by
  unfold flatB at h
  simp only [Bool.and_eq_true, beq_iff_eq] at h
  exact ⟨List.length_eq_zero_iff.1 (by omega), List.length_eq_zero_iff.1 (by omega)⟩
mutual
theorem fixP1_eq {w : Int} {vs : List Vr'} (lv : List Int) : ∀ (s : Sm') (ar : Int) (x : List (List AV)) (n : Int), rowB w vs s = true → 0 ≤ n → n + smN s < 1000000 → fixP1 tellL lv s ar x n = (x ++ fixR1 lv s ar n, cnt1 s n)
  | .mk op nn a t e, ar, x, n, hr, h0, h1 => by
    rw [rowB] at hr
    simp only [Bool.and_eq_true] at hr
    obtain ⟨⟨⟨hh, ht⟩, he⟩, _⟩ := hr
    have hc1 := cnt1_eq (.mk op nn a t e) n h0 h1
    rw [smN] at h1
    rw [fixP1, fixR1]
    unfold headB at hh
    dsimp only at hh
    have hflat : t = [] ∧ e = [] → cnt1 (.mk op nn a t e) n = IntKind.i64.wrap (n + 1) := fun ⟨q1, q2⟩ => by
      subst q1 q2
      rw [hc1, sc1, scs, wsm (by omega) (by omega)]; omega
    by_cases o0 : op = 0
    · rw [if_pos o0, Bool.and_eq_true] at hh
      have hf := flat_nil hh.1
      rw [hflat hf, if_pos o0, if_pos o0, hf.1, hf.2]; simp [fixRL, tellL]
    by_cases o4 : op = 4
    · rw [if_neg o0, if_neg (by omega), if_neg (by omega), if_neg (by omega), if_pos o4, Bool.and_eq_true] at hh
      have hf := flat_nil hh.1
      rw [hflat hf, if_neg o0, if_pos o4, if_neg o0, if_pos o4, hf.1, hf.2]; simp [fixRL, tellL]
    by_cases o3 : op = 3
    · rw [if_neg o0, if_neg (by omega), if_neg (by omega), if_pos o3] at hh
      simp only [Bool.and_eq_true] at hh
      have hf := flat_nil hh.1.1.1
      rw [hflat hf, if_neg o0, if_neg o4, if_pos o3, if_neg o0, if_neg o4, if_pos o3, hf.1, hf.2]; simp [fixRL, tellL]
    rw [if_neg o0, if_neg o4, if_neg o3, if_neg o0, if_neg o4, if_neg o3, List.nil_append]
    by_cases o1 : op = 1 ∨ op = 2
    · rw [if_pos o1, wsm (n := n + 1) (by omega) (by omega), fixPL_eq lv t _ x (n + 1) ht (by omega) (by omega)]
      have := scs_le t
      have := scs_le e
      have e1 : cntL t (n + 1) = n + 1 + scs t := cntL_eq t _ (by omega) (by omega)
      have e2 : cntL t 0 = scs t := by rw [cntL_eq t 0 (by omega) (by omega)]; omega
      dsimp only
      rw [e1, fixPL_eq lv e _ _ (n + 1 + scs t) he (by omega) (by omega), e2, wsm (n := n + 1 + _) (by omega) (by omega), hc1, sc1, cntL_eq e _ (by omega) (by omega), List.append_assoc]
      congr 1; omega
    · rw [if_neg o1]
      rw [if_neg o0, if_neg (by omega), if_neg (by omega), if_neg o3, if_neg o4] at hh
      split at hh
      · simp only [Bool.and_eq_true] at hh
        have hf := flat_nil hh.1.1
        rw [hflat hf, hf.1, hf.2]; simp [fixRL]
      · cases hh
theorem fixPL_eq {w : Int} {vs : List Vr'} (lv : List Int) : ∀ (l : List Sm') (ar : Int) (x : List (List AV)) (n : Int), rowsB w vs l = true → 0 ≤ n → n + smsN l < 1000000 → fixPL tellL lv l ar x n = (x ++ fixRL lv l ar n, cntL l n)
  | [], ar, x, n, hr, h0, h1 => by rw [fixPL, fixRL, cntL, List.append_nil]
  | s :: l, ar, x, n, hr, h0, h1 => by
    rw [rowsB, Bool.and_eq_true] at hr
    rw [smsN] at h1
    have := sc1_le s
    rw [fixPL, fixRL, cntL, fixP1_eq lv s ar x n hr.1 h0 (by omega)]
    dsimp only
    rw [cnt1_eq s n h0 (by omega), fixPL_eq lv l ar _ _ hr.2 (by omega) (by omega), List.append_assoc]
end
mutual
theorem row_rd {w : Int} {vs : List Vr'} : ∀ (s : Sm'), rowB w vs s = true → rdS1 vs.length s
  | .mk op nn a t e, hr => by
    rw [rowB] at hr
    simp only [Bool.and_eq_true] at hr
    obtain ⟨⟨⟨hh, ht⟩, he⟩, ha⟩ := hr
    rw [rdS1]
    refine ⟨?_, fun ho => ?_, rows_rd t ht, rows_rd e he⟩
    · have key : ∀ es : List Ex', es.all (isE w vs 1) = true → rdEs vs.length es := by
        intro es
        induction es with
        | nil => intro _; trivial
        | cons x es ih =>
          intro h
          rw [List.all_cons, Bool.and_eq_true] at h
          exact ⟨isE_rd h.1, ih h.2⟩
      exact key a ha
    · unfold headB at hh
      dsimp only at hh
      rcases ho with ho | ho
      · rw [if_pos ho, Bool.and_eq_true] at hh
        have := hh.2
        unfold variableB at this
        simp only [Bool.and_eq_true, decide_eq_true_eq] at this
        exact this.1
      · rw [if_neg (by omega), if_neg (by omega), if_neg (by omega), if_neg (by omega), if_pos ho, Bool.and_eq_true] at hh
        have := hh.2
        unfold variableB at this
        simp only [Bool.and_eq_true, decide_eq_true_eq] at this
        exact this.1
theorem rows_rd {w : Int} {vs : List Vr'} : ∀ (l : List Sm'), rowsB w vs l = true → rdSs vs.length l
  | [], _ => trivial
  | s :: l, hr => by
    rw [rowsB, Bool.and_eq_true] at hr
    exact ⟨row_rd s hr.1, rows_rd l hr.2⟩
end
theorem isP_rows {p : Pr'} (h : isP p = true) : rowsB p.width p.vars p.body = true := by
  unfold isP at h
  simp only [Bool.and_eq_true] at h
  exact h.2
theorem flP_eq (p : Pr') (lv : List Int) (hP : isP p = true) (hN : smsN p.body ≤ 600) : flP lv p = fixRL lv p.body 0 0 := by
  unfold flP
  rw [fixPL_eq lv p.body 0 [] 0 (isP_rows hP) (by omega) (by omega)]
  rfl
theorem flowL_num (a f t : Int) : ∃ fl : List (Int × Int × Int), flowL a f t = fl.map flC := by
  unfold flowL
  split
  · exact ⟨[], rfl⟩
  · exact ⟨[(a, f, t)], rfl⟩
mutual
theorem fixR1_num (lv : List Int) : ∀ (s : Sm') (ar n : Int), ∃ fl : List (Int × Int × Int), fixR1 lv s ar n = fl.map flC
  | .mk op nn a t e, ar, n => by
    rw [fixR1]
    obtain ⟨ft, h2⟩ := fixRL_num lv t (orI ar (ofEs lv 0 a)) (IntKind.i64.wrap (n + 1))
    obtain ⟨fe, h3⟩ := fixRL_num lv e (orI ar (ofEs lv 0 a)) (IntKind.i64.wrap (IntKind.i64.wrap (n + 1) + cntL t 0))
    have h1 : ∃ fl : List (Int × Int × Int), (if op = 0 then flowL n (orI ar (ofEs lv 0 a)) (lv.getD nn.toNat 0) else if op = 4 then flowL n (orI (orI ar (ofEs lv 0 a)) 16) (lv.getD nn.toNat 0) else if op = 3 then flowL n (orI ar (ofEs lv 0 a)) nn else []) = fl.map flC := by
      split
      · exact flowL_num _ _ _
      split
      · exact flowL_num _ _ _
      split
      · exact flowL_num _ _ _
      · exact ⟨[], rfl⟩
    obtain ⟨f1, h1⟩ := h1
    exact ⟨f1 ++ (ft ++ fe), by rw [h1, h2, h3]; simp⟩
theorem fixRL_num (lv : List Int) : ∀ (l : List Sm') (ar n : Int), ∃ fl : List (Int × Int × Int), fixRL lv l ar n = fl.map flC
  | [], ar, n => ⟨[], by rw [fixRL]; rfl⟩
  | s :: l, ar, n => by
    obtain ⟨f1, h1⟩ := fixR1_num lv s ar n
    obtain ⟨f2, h2⟩ := fixRL_num lv l ar (cnt1 s n)
    exact ⟨f1 ++ f2, by rw [fixRL, h1, h2]; simp⟩
end

theorem levelFixed_run (p : Pr') (k : Nat) (hk : smsK p.body + p.vars.length + 1200 ≤ k) (hb : prB p) (h : Heap) (lo : Nat) :
    call Try.prog cfg (k + 1) lo (.func 4) [.agg (prC p)] h = some (.bool true, h) := by
  have hA := awake_run k h.length h (by omega)
  have h1 := fitsS_run (k - 1) h h.length p.body (by omega) hb.2.1 hb.2.2 600
  rw [show k - 1 + 1 = k by omega] at h1
  cases hf : fitsS p.body 600 with
  | false =>
    rw [hf] at h1
    obtain ⟨w, vs, body⟩ := p
    apply W_call Try.func4 rfl (Nat.le_of_ble_eq_true rfl) rfl
    (repeat' (first | apply W_seq | refine W_true rfl rfl ?_ | refine W_false rfl rfl ?_ | refine W_region (id := 0) rfl ?_ | (refine W_ops (id := 1) ?_ <;> refine T_ch 2 rfl ?_ <;> (refine T_go rfl ?_; first | refine G_true (O_call rfl rfl rfl rfl (by assumption)) rfl ?_ | refine G_false (O_call rfl rfl rfl rfl (by assumption)) rfl ?_ | refine G_true (O_call rfl rfl rfl rfl (by assumption)) (by with_reducible assumption) ?_ | refine G_false (O_call rfl rfl rfl rfl (by assumption)) (by with_reducible assumption) ?_ | refine G_true (O_call rfl rfl rfl rfl (by assumption)) (by assumption) ?_ | refine G_false (O_call rfl rfl rfl rfl (by assumption)) (by assumption) ?_ | refine G_split (O_call rfl rfl rfl rfl (by assumption)) (fun _ => ?_) (fun _ => ?_)) <;> refine T_ch 1 rfl ?_ <;> apply T_nil) | (refine W_ops (id := 2) ?_ <;> (refine T_go rfl ?_; first | refine G_true (O_call rfl rfl rfl rfl (by assumption)) rfl ?_ | refine G_false (O_call rfl rfl rfl rfl (by assumption)) rfl ?_ | refine G_true (O_call rfl rfl rfl rfl (by assumption)) (by with_reducible assumption) ?_ | refine G_false (O_call rfl rfl rfl rfl (by assumption)) (by with_reducible assumption) ?_ | refine G_true (O_call rfl rfl rfl rfl (by assumption)) (by assumption) ?_ | refine G_false (O_call rfl rfl rfl rfl (by assumption)) (by assumption) ?_ | refine G_split (O_call rfl rfl rfl rfl (by assumption)) (fun _ => ?_) (fun _ => ?_)) <;> refine T_ch 1 rfl ?_ <;> apply T_nil) | apply W_skip | apply W_block | apply W_ret | apply W_exit | refine W_true rfl (by assumption) ?_ | refine W_false rfl (by assumption) ?_ | refine W_cond rfl (fun _ => ?_) (fun _ => ?_)))
    all_goals exact ⟨.inl rfl, rfl⟩
  | true =>
  rw [hf] at h1
  have hN : smsN p.body ≤ 600 := by
    rw [fitsS_eq _ _ (by omega) (by omega)] at hf
    have := of_decide_eq_true hf
    omega
  have hC := Fcheck_run p hN (k - 1) (by omega) hb (fun hP => rows_rd _ (isP_rows hP)) h h.length
  have hF := fault_run p (k - 1) (by omega) hb h h.length
  rw [show k - 1 + 1 = k by omega] at hC hF
  unfold chkFl at hC
  rcases faultI_cases p with ⟨hf, hP, hS⟩ | hf | hf
  · rw [hf] at hC hF
    rw [if_pos rfl] at hC
    obtain ⟨hh, hl1, hl2⟩ := isP_head hP
    have hL := levelsR_run p (k - 1) (by omega) (by omega) h h.length
    have hR := FixedR_run (levs p) p (k - 1) (by omega) hN hb (by rw [levs_len]; exact rows_rd _ (isP_rows hP)) h h.length
    rw [flP_eq p _ hP hN] at hC
    have hlen := fixRL_len (levs p) p.body 0 0
    obtain ⟨fl, hfl⟩ := fixRL_num (levs p) p.body 0 0
    rw [hfl] at hC hR hlen
    rw [List.length_map] at hlen
    have hW := lawflows_run fl (k - 1) (by omega) (by omega) h h.length
    have hS := same_run fl (k - 1) (by omega) (by omega) h h.length
    rw [show k - 1 + 1 = k by omega] at hL hR hW hS
    rw [accV_ne (levs_ne hl1)] at hL
    generalize levs p = lv at hL hR
    generalize accV 3 (fl.map flC) = V at hC hR hW hS
    obtain ⟨w, vs, body⟩ := p
    apply W_call Try.func4 rfl (Nat.le_of_ble_eq_true rfl) rfl
    (repeat' (first | apply W_seq | refine W_true rfl rfl ?_ | refine W_false rfl rfl ?_ | refine W_region (id := 0) rfl ?_ | (refine W_ops (id := 1) ?_ <;> refine T_ch 2 rfl ?_ <;> (refine T_go rfl ?_; first | refine G_true (O_call rfl rfl rfl rfl (by assumption)) rfl ?_ | refine G_false (O_call rfl rfl rfl rfl (by assumption)) rfl ?_ | refine G_true (O_call rfl rfl rfl rfl (by assumption)) (by with_reducible assumption) ?_ | refine G_false (O_call rfl rfl rfl rfl (by assumption)) (by with_reducible assumption) ?_ | refine G_true (O_call rfl rfl rfl rfl (by assumption)) (by assumption) ?_ | refine G_false (O_call rfl rfl rfl rfl (by assumption)) (by assumption) ?_ | refine G_split (O_call rfl rfl rfl rfl (by assumption)) (fun _ => ?_) (fun _ => ?_)) <;> refine T_ch 1 rfl ?_ <;> apply T_nil) | (refine W_ops (id := 3) ?_ <;> refine T_ch 1 rfl ?_ <;> (refine T_go rfl ?_; refine G_op (O_call rfl rfl rfl rfl (by assumption)) ?_) <;> refine T_ch 5 rfl ?_ <;> apply T_nil) | (refine W_ops (id := 4) ?_ <;> refine T_ch 1 rfl ?_ <;> (refine T_go rfl ?_; refine G_op (O_call rfl rfl rfl rfl (by assumption)) ?_) <;> refine T_ch 1 rfl ?_ <;> apply T_nil) | (refine W_ops (id := 5) ?_ <;> refine T_ch 1 rfl ?_ <;> (refine T_go rfl ?_; first | refine G_true rfl rfl ?_ | refine G_false rfl rfl ?_ | refine G_true rfl (by with_reducible assumption) ?_ | refine G_false rfl (by with_reducible assumption) ?_ | refine G_true rfl (by assumption) ?_ | refine G_false rfl (by assumption) ?_ | refine G_split rfl (fun _ => ?_) (fun _ => ?_)) <;> apply T_nil) | (refine W_dops (id := 7) (bs := [0, 1, 3, 7, 15, 7, 7, 95, 255, 511, 1023, 2047, 4095, 8191, 16383]) (by decide +kernel) ?_ <;> (refine U_go rfl ?_; refine H_op (by decide +kernel) rfl ?_) <;> (refine U_go rfl ?_; first | refine H_true (by decide +kernel) rfl rfl ?_ | refine H_false (by decide +kernel) rfl rfl ?_ | refine H_true (by decide +kernel) rfl (by with_reducible assumption) ?_ | refine H_false (by decide +kernel) rfl (by with_reducible assumption) ?_ | refine H_true (by decide +kernel) rfl (by assumption) ?_ | refine H_false (by decide +kernel) rfl (by assumption) ?_ | refine H_split (by decide +kernel) rfl (fun _ => ?_) (fun _ => ?_)) <;> (refine U_go rfl ?_; refine H_op (by decide +kernel) rfl ?_) <;> (first | refine U_skip rfl ?_ | (refine U_go rfl ?_; refine H_free (by decide +kernel) rfl rfl rfl rfl rfl ?_)) <;> (first | refine U_skip rfl ?_ | (refine U_go rfl ?_; refine H_free (by decide +kernel) rfl (O_call rfl rfl rfl rfl (by assumption)) rfl rfl rfl ?_)) <;> (first | refine U_skip rfl ?_ | (refine U_go rfl ?_; refine H_free (by decide +kernel) rfl rfl rfl rfl rfl ?_)) <;> (first | refine U_skip rfl ?_ | (refine U_go rfl ?_; refine H_free (by decide +kernel) rfl rfl rfl rfl rfl ?_)) <;> (first | refine U_skip rfl ?_ | (refine U_go rfl ?_; refine H_free (by decide +kernel) rfl (O_call rfl rfl rfl rfl (by assumption)) rfl rfl rfl ?_)) <;> (first | refine U_skip rfl ?_ | (refine U_go rfl ?_; refine H_op (by decide +kernel) (O_call rfl rfl rfl rfl (by assumption)) ?_)) <;> (first | refine U_skip rfl ?_ | (refine U_go rfl ?_; first | refine H_true (by decide +kernel) (O_call rfl rfl rfl rfl (by assumption)) rfl ?_ | refine H_false (by decide +kernel) (O_call rfl rfl rfl rfl (by assumption)) rfl ?_ | refine H_true (by decide +kernel) (O_call rfl rfl rfl rfl (by assumption)) (by with_reducible assumption) ?_ | refine H_false (by decide +kernel) (O_call rfl rfl rfl rfl (by assumption)) (by with_reducible assumption) ?_ | refine H_true (by decide +kernel) (O_call rfl rfl rfl rfl (by assumption)) (by assumption) ?_ | refine H_false (by decide +kernel) (O_call rfl rfl rfl rfl (by assumption)) (by assumption) ?_ | refine H_split (by decide +kernel) (O_call rfl rfl rfl rfl (by assumption)) (fun _ => ?_) (fun _ => ?_))) <;> (refine U_go rfl ?_; refine H_op (by decide +kernel) rfl ?_) <;> (refine U_go rfl ?_; refine H_op (by decide +kernel) rfl ?_) <;> (first | refine U_skip rfl ?_ | (refine U_go rfl ?_; first | refine H_true (by decide +kernel) (O_call rfl rfl rfl rfl (by assumption)) rfl ?_ | refine H_false (by decide +kernel) (O_call rfl rfl rfl rfl (by assumption)) rfl ?_ | refine H_true (by decide +kernel) (O_call rfl rfl rfl rfl (by assumption)) (by with_reducible assumption) ?_ | refine H_false (by decide +kernel) (O_call rfl rfl rfl rfl (by assumption)) (by with_reducible assumption) ?_ | refine H_true (by decide +kernel) (O_call rfl rfl rfl rfl (by assumption)) (by assumption) ?_ | refine H_false (by decide +kernel) (O_call rfl rfl rfl rfl (by assumption)) (by assumption) ?_ | refine H_split (by decide +kernel) (O_call rfl rfl rfl rfl (by assumption)) (fun _ => ?_) (fun _ => ?_))) <;> (refine U_go rfl ?_; refine H_op (by decide +kernel) rfl ?_) <;> (refine U_go rfl ?_; refine H_op (by decide +kernel) rfl ?_) <;> apply U_nil) | apply W_skip | apply W_block | apply W_ret | apply W_exit | refine W_true rfl (by assumption) ?_ | refine W_false rfl (by assumption) ?_ | refine W_cond rfl (fun _ => ?_) (fun _ => ?_)))
    all_goals exact ⟨.inl rfl, rfl⟩
  · rw [hf] at hC hF
    rw [if_neg (by simp)] at hC
    obtain ⟨w, vs, body⟩ := p
    apply W_call Try.func4 rfl (Nat.le_of_ble_eq_true rfl) rfl
    (repeat' (first | apply W_seq | refine W_true rfl rfl ?_ | refine W_false rfl rfl ?_ | refine W_region (id := 0) rfl ?_ | (refine W_ops (id := 1) ?_ <;> refine T_ch 2 rfl ?_ <;> (refine T_go rfl ?_; first | refine G_true (O_call rfl rfl rfl rfl (by assumption)) rfl ?_ | refine G_false (O_call rfl rfl rfl rfl (by assumption)) rfl ?_ | refine G_true (O_call rfl rfl rfl rfl (by assumption)) (by with_reducible assumption) ?_ | refine G_false (O_call rfl rfl rfl rfl (by assumption)) (by with_reducible assumption) ?_ | refine G_true (O_call rfl rfl rfl rfl (by assumption)) (by assumption) ?_ | refine G_false (O_call rfl rfl rfl rfl (by assumption)) (by assumption) ?_ | refine G_split (O_call rfl rfl rfl rfl (by assumption)) (fun _ => ?_) (fun _ => ?_)) <;> refine T_ch 1 rfl ?_ <;> apply T_nil) | (refine W_ops (id := 3) ?_ <;> refine T_ch 1 rfl ?_ <;> (refine T_go rfl ?_; refine G_op (O_call rfl rfl rfl rfl (by assumption)) ?_) <;> refine T_ch 5 rfl ?_ <;> apply T_nil) | (refine W_ops (id := 4) ?_ <;> refine T_ch 1 rfl ?_ <;> (refine T_go rfl ?_; refine G_op (O_call rfl rfl rfl rfl (by assumption)) ?_) <;> refine T_ch 1 rfl ?_ <;> apply T_nil) | (refine W_ops (id := 5) ?_ <;> refine T_ch 1 rfl ?_ <;> (refine T_go rfl ?_; first | refine G_true rfl rfl ?_ | refine G_false rfl rfl ?_ | refine G_true rfl (by with_reducible assumption) ?_ | refine G_false rfl (by with_reducible assumption) ?_ | refine G_true rfl (by assumption) ?_ | refine G_false rfl (by assumption) ?_ | refine G_split rfl (fun _ => ?_) (fun _ => ?_)) <;> apply T_nil) | (refine W_ops (id := 6) ?_ <;> refine T_ch 2 rfl ?_ <;> (refine T_go rfl ?_; first | refine G_true rfl rfl ?_ | refine G_false rfl rfl ?_ | refine G_true rfl (by with_reducible assumption) ?_ | refine G_false rfl (by with_reducible assumption) ?_ | refine G_true rfl (by assumption) ?_ | refine G_false rfl (by assumption) ?_ | refine G_split rfl (fun _ => ?_) (fun _ => ?_)) <;> refine T_ch 3 rfl ?_ <;> (first | refine T_skip rfl ?_ | (refine T_go rfl ?_; first | refine G_true rfl rfl ?_ | refine G_false rfl rfl ?_ | refine G_true rfl (by with_reducible assumption) ?_ | refine G_false rfl (by with_reducible assumption) ?_ | refine G_true rfl (by assumption) ?_ | refine G_false rfl (by assumption) ?_ | refine G_split rfl (fun _ => ?_) (fun _ => ?_))) <;> refine T_ch 2 rfl ?_ <;> (first | refine T_skip rfl ?_ | (refine T_go rfl ?_; first | refine G_true (O_call rfl rfl rfl rfl (by assumption)) rfl ?_ | refine G_false (O_call rfl rfl rfl rfl (by assumption)) rfl ?_ | refine G_true (O_call rfl rfl rfl rfl (by assumption)) (by with_reducible assumption) ?_ | refine G_false (O_call rfl rfl rfl rfl (by assumption)) (by with_reducible assumption) ?_ | refine G_true (O_call rfl rfl rfl rfl (by assumption)) (by assumption) ?_ | refine G_false (O_call rfl rfl rfl rfl (by assumption)) (by assumption) ?_ | refine G_split (O_call rfl rfl rfl rfl (by assumption)) (fun _ => ?_) (fun _ => ?_))) <;> refine T_ch 2 rfl ?_ <;> apply T_nil) | apply W_skip | apply W_block | apply W_ret | apply W_exit | refine W_true rfl (by assumption) ?_ | refine W_false rfl (by assumption) ?_ | refine W_cond rfl (fun _ => ?_) (fun _ => ?_)))
    all_goals exact ⟨.inl rfl, rfl⟩
  · rw [hf] at hC hF
    rw [if_neg (by simp)] at hC
    obtain ⟨w, vs, body⟩ := p
    apply W_call Try.func4 rfl (Nat.le_of_ble_eq_true rfl) rfl
    (repeat' (first | apply W_seq | refine W_true rfl rfl ?_ | refine W_false rfl rfl ?_ | refine W_region (id := 0) rfl ?_ | (refine W_ops (id := 1) ?_ <;> refine T_ch 2 rfl ?_ <;> (refine T_go rfl ?_; first | refine G_true (O_call rfl rfl rfl rfl (by assumption)) rfl ?_ | refine G_false (O_call rfl rfl rfl rfl (by assumption)) rfl ?_ | refine G_true (O_call rfl rfl rfl rfl (by assumption)) (by with_reducible assumption) ?_ | refine G_false (O_call rfl rfl rfl rfl (by assumption)) (by with_reducible assumption) ?_ | refine G_true (O_call rfl rfl rfl rfl (by assumption)) (by assumption) ?_ | refine G_false (O_call rfl rfl rfl rfl (by assumption)) (by assumption) ?_ | refine G_split (O_call rfl rfl rfl rfl (by assumption)) (fun _ => ?_) (fun _ => ?_)) <;> refine T_ch 1 rfl ?_ <;> apply T_nil) | (refine W_ops (id := 3) ?_ <;> refine T_ch 1 rfl ?_ <;> (refine T_go rfl ?_; refine G_op (O_call rfl rfl rfl rfl (by assumption)) ?_) <;> refine T_ch 5 rfl ?_ <;> apply T_nil) | (refine W_ops (id := 4) ?_ <;> refine T_ch 1 rfl ?_ <;> (refine T_go rfl ?_; refine G_op (O_call rfl rfl rfl rfl (by assumption)) ?_) <;> refine T_ch 1 rfl ?_ <;> apply T_nil) | (refine W_ops (id := 5) ?_ <;> refine T_ch 1 rfl ?_ <;> (refine T_go rfl ?_; first | refine G_true rfl rfl ?_ | refine G_false rfl rfl ?_ | refine G_true rfl (by with_reducible assumption) ?_ | refine G_false rfl (by with_reducible assumption) ?_ | refine G_true rfl (by assumption) ?_ | refine G_false rfl (by assumption) ?_ | refine G_split rfl (fun _ => ?_) (fun _ => ?_)) <;> apply T_nil) | (refine W_ops (id := 6) ?_ <;> refine T_ch 2 rfl ?_ <;> (refine T_go rfl ?_; first | refine G_true rfl rfl ?_ | refine G_false rfl rfl ?_ | refine G_true rfl (by with_reducible assumption) ?_ | refine G_false rfl (by with_reducible assumption) ?_ | refine G_true rfl (by assumption) ?_ | refine G_false rfl (by assumption) ?_ | refine G_split rfl (fun _ => ?_) (fun _ => ?_)) <;> refine T_ch 3 rfl ?_ <;> (first | refine T_skip rfl ?_ | (refine T_go rfl ?_; first | refine G_true rfl rfl ?_ | refine G_false rfl rfl ?_ | refine G_true rfl (by with_reducible assumption) ?_ | refine G_false rfl (by with_reducible assumption) ?_ | refine G_true rfl (by assumption) ?_ | refine G_false rfl (by assumption) ?_ | refine G_split rfl (fun _ => ?_) (fun _ => ?_))) <;> refine T_ch 2 rfl ?_ <;> (first | refine T_skip rfl ?_ | (refine T_go rfl ?_; first | refine G_true (O_call rfl rfl rfl rfl (by assumption)) rfl ?_ | refine G_false (O_call rfl rfl rfl rfl (by assumption)) rfl ?_ | refine G_true (O_call rfl rfl rfl rfl (by assumption)) (by with_reducible assumption) ?_ | refine G_false (O_call rfl rfl rfl rfl (by assumption)) (by with_reducible assumption) ?_ | refine G_true (O_call rfl rfl rfl rfl (by assumption)) (by assumption) ?_ | refine G_false (O_call rfl rfl rfl rfl (by assumption)) (by assumption) ?_ | refine G_split (O_call rfl rfl rfl rfl (by assumption)) (fun _ => ?_) (fun _ => ?_))) <;> refine T_ch 2 rfl ?_ <;> apply T_nil) | apply W_skip | apply W_block | apply W_ret | apply W_exit | refine W_true rfl (by assumption) ?_ | refine W_false rfl (by assumption) ?_ | refine W_cond rfl (fun _ => ?_) (fun _ => ?_)))
    all_goals exact ⟨.inl rfl, rfl⟩
end Go.Proofs.Ytelobnllkhnpaaa.L
