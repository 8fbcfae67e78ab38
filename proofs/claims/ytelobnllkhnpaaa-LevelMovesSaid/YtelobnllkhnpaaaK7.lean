/- Types that move, in the reference: behind, rows, Places, Moved. -/
import Derived.Test.YtelobnllkhnpaaaK6
import Derived.ChangeShapes
open Go Go.Proofs Go.Ev Go.Proofs.Ytelobnllkhnpaaa.E
namespace Go.Proofs.Ytelobnllkhnpaaa.L
set_option linter.unusedVariables false
set_option linter.unusedSimpArgs false
set_option maxRecDepth 100000

def plC (p : Pl) : List AV := itC (p.1, p.2.1) ++ [.vs 1 (intsC p.2.2.1), .int .i64 p.2.2.2]
theorem plC_row (p : Pl) : (plC p).length = 8 ∧ ∀ x, x ∈ plC p → static x = true := by
  obtain ⟨n, ⟨op, nn, a, t, e⟩, lv, ar⟩ := p
  refine ⟨rfl, fun x hx => ?_⟩
  simp only [plC, itC, smC, List.cons_append, List.nil_append, List.mem_cons, List.not_mem_nil, or_false] at hx
  rcases hx with rfl | rfl | rfl | rfl | rfl | rfl | rfl | rfl <;> rfl
theorem plC_rows (l : List Pl) : ∀ r, r ∈ l.map plC → r.length = 8 ∧ ∀ x, x ∈ r → static x = true := by
  intro r hr
  obtain ⟨p, _, rfl⟩ := List.mem_map.1 hr
  exact plC_row p
section
variable (pt : List Int → Int → Sm' → List Int) (og : List Int → List Ex' → Int)
mutual
theorem pl1_len : ∀ (s : Sm') (lv : List Int) (ar n : Int), (pl1 pt og s lv ar n).length ≤ smN s
  | .mk op nn a t e, lv, ar, n => by
    rw [pl1, smN]
    split
    · have h1 := plL_len t lv (orI ar (og lv a)) (IntKind.i64.wrap (n + 1))
      have h2 := plL_len e lv (orI ar (og lv a)) (IntKind.i64.wrap (IntKind.i64.wrap (n + 1) + cntL t 0))
      simp only [List.length_cons, List.length_append]; omega
    · split
      · have h1 := plL_len t (mv1 pt og (.mk op nn a t e) lv ar) (orI ar (og (mv1 pt og (.mk op nn a t e) lv ar) a)) (IntKind.i64.wrap (n + 1))
        simp only [List.length_cons]; omega
      · simp only [List.length_cons, List.length_nil]; omega
theorem plL_len : ∀ (l : List Sm') (lv : List Int) (ar n : Int), (plL pt og l lv ar n).length ≤ smsN l
  | [], lv, ar, n => by rw [plL, smsN]; simp
  | s :: l, lv, ar, n => by
    have h1 := pl1_len s lv ar n
    have h2 := plL_len l (mv1 pt og s lv ar) ar (cnt1 s n)
    rw [plL, smsN, List.length_append]; omega
end
end
theorem pl_append (h : Heap) (rows : List (List AV)) (more : List (List AV)) (hr : ∀ r, r ∈ rows → r.length = 8) (hl : rows.length + more.length < 100000) : append cfg.tab h.length (accH h 107 rows) 101 (accA h 8 rows) (accV 8 more) = some (accA h 8 (rows ++ more), accH h 107 (rows ++ more)) :=
  acc_appendV (tab := cfg.tab) (lo := h.length) (h := h) (t := 101) (e := 107) rfl rfl (by decide) (Nat.le_refl _) rows more hr (by simp only [room]; show (rows.length + more.length) * 128 ≤ _; omega) (by simp only [room]; omega)
/-- One place, and what is put behind it. -/
theorem here_append (h : Heap) (q : List HObj) (lo : Nat) (hlo : lo ≤ h.length + q.length) (xs : List (List AV)) (hx : ∀ r, r ∈ xs → r.length = 8) (more : List (List AV)) (hl : xs.length + more.length < 100000) :
    append cfg.tab lo (h ++ q ++ [.cells 107 xs.flatten]) 101 (.sl (h.length + q.length) 8 0 xs.length) (accV 8 more) = some (.sl (h.length + q.length) 8 0 (xs.length + more.length), h ++ q ++ [.cells 107 (xs ++ more).flatten]) := by
  have := append_slV (tab := cfg.tab) (lo := lo) (h := h ++ q ++ [.cells 107 xs.flatten]) (t := 101) (e := 107) (id := h.length + q.length) (len := xs.length) (xs := xs.flatten) rfl rfl (by simp) hlo (by rw [flat_len _ hx]) (by decide) more
    (by simp only [room]; show (xs.length + more.length) * 128 ≤ _; omega) (by simp only [room]; omega)
  rw [show ((⟨.struct [(0, 105), (6, 38), (7, 3)], 8, 128, [.int .i64 0, .int .i64 0, .int .i64 0, .nils, .nils, .nils, .nils, .int .i64 0]⟩ : TI)).sz = 8 from rfl] at this
  rw [this]
  simp [List.set_append]

def fR (vs : List Vr') (t : List Sm') (a : List Ex') (ar : Int) (x : List Int) : List Int := joinL x (mvL (putR vs) ofA t x (orI ar (ofA x a)))
def bhS (h : Heap) (vs : List Vr') (n ar : Int) (s : Sm') (lv0 x : List Int) : St :=
  { env := [(0, .v (.vs 3 (vsC vs))), (1, .v (.vs 1 (intsC x))), (2, .v (.int .i64 ar)), (7, .p 7 0), (10, .p 10 0)], loc := [(7, itC (n, s)), (10, smC s)], heap := h ++ [.cells 107 (plC (n, s, lv0, ar))], inRound := false, lo := h.length }
def rwlS (h : Heap) (vs : List Vr') (ar : Int) (v : AV) (i : Int) (a : List (List AV) × List Int × Int) : St :=
  { env := [(0, .v (.vs 3 (vsC vs))), (1, .v (.vs 1 (intsC a.2.1))), (2, .v (.int .i64 ar)), (3, .v v), (10, .v (accA h 8 a.1)), (11, .v (.int .i64 i))], loc := [], heap := accH h 107 a.1, inRound := false, lo := h.length }
theorem intsC_V {l : List Int} (hne : l ≠ []) : accV 1 (intsC l) = .vs 1 (intsC l) := by
  cases l with
  | nil => exact absurd rfl hne
  | cons a l => rfl
theorem here_fin {h H : Heap} {lv : List Int} {rows : List (List AV)} {id : Nat} (hr : ∀ r, r ∈ rows → r.length = 8 ∧ ∀ x, x ∈ r → static x = true) (hg : H[id]? = some (.cells 107 rows.flatten)) (hlo : h.length ≤ id) :
    hand true h (.tup [.vs 1 (intsC lv), .sl id 8 0 rows.length]) H = some (.tup [.vs 1 (intsC lv), .vs 8 rows], h) :=
  hand_two rfl (frz_rows rows hr hg hlo) (fun _ => by simp) (fun _ => by simp)

set_option maxHeartbeats 4000000 in
theorem behind_run (vs : List Vr') (hv1 : 1 ≤ vs.length) (hv2 : vs.length ≤ 18) : ∀ (k : Nat),
    (∀ (s : Sm') (lv : List Int) (ar n : Int), smK s + 1301 ≤ k → smN s ≤ 600 → smB s → vm1 vs.length s → lv.length = vs.length → lvsB lv → lvB ar → ∀ (h : Heap) (lo : Nat),
      call Try.prog cfg k lo (.func 123) [.vs 3 (vsC vs), .vs 1 (intsC lv), .int .i64 ar, .agg (itC (n, s))] h =
        some (.tup [.vs 1 (intsC (mv1 (putR vs) ofA s lv ar)), .vs 8 ((pl1 (putR vs) ofA s lv ar n).map plC)], h)) ∧
    (∀ (l : List Sm') (lv : List Int) (ar n : Int), smsK l + 1300 ≤ k → smsN l ≤ 600 → l.length < 1000 → smsB l → vmL vs.length l → lv.length = vs.length → lvsB lv → lvB ar → ∀ (h : Heap) (lo : Nat),
      call Try.prog cfg k lo (.func 94) [.vs 3 (vsC vs), .vs 1 (intsC lv), .int .i64 ar, accV 6 ((itemsL l n).map itC)] h =
        some (.tup [.vs 1 (intsC (mvL (putR vs) ofA l lv ar)), accV 8 ((plL (putR vs) ofA l lv ar n).map plC)], h))
  | 0 => ⟨fun s lv ar n hk => by omega, fun l lv ar n hk => by omega⟩
  | k + 1 => by
    obtain ⟨ihs, ihl⟩ := behind_run vs hv1 hv2 k
    have hMv := mvR_ok vs vs.length
    constructor
    · intro s lv ar n hk hN hb hvm hlv hB har h lo
      obtain ⟨op, nn, a, t, e⟩ := s
      have hok := mv1_ok hMv (.mk op nn a t e) lv ar hlv hB har hvm
      rw [smK] at hk
      rw [smN] at hN
      rw [smB] at hb
      rw [vm1] at hvm
      obtain ⟨⟨ha1, ha2⟩, ⟨ht1, ht2⟩, he1, he2⟩ := hb
      obtain ⟨r1, r2, r3, r4, r5⟩ := hvm
      have hne : lv ≠ [] := fun e => by subst e; simp at hlv; omega
      have hla := exsK_len a
      have hlt := smsN_len t
      have hle := smsN_len e
      have hp2 := smsK_pos t
      have hp3 := smsK_pos e
      have hAv : ∀ x : List Int, x.length = vs.length → ∀ H L, call Try.prog cfg k L (.func 63) [.vs 1 (intsC x), .agg (smC (.mk op nn a t e))] H = some (.int .i64 (ofEs x 0 a), H) := fun x hx H L => by
        have := argsR_run op nn a t e x (k - 1) (by omega) ha1 ha2 (by rw [hx]; exact r1) H L
        rw [show k - 1 + 1 = k by omega] at this
        exact this
      have hOv : ∀ (x y : Int) H L, call Try.prog cfg k L (.func 53) [.int .i64 x, .int .i64 y] H = some (.int .i64 (orI x y), H) := fun x y H L => by
        have := or_run (k - 1) L x y H
        rw [show k - 1 + 1 = k by omega] at this
        exact this
      have hhere : ∀ x : List Int, ∀ r, r ∈ [plC (n, .mk op nn a t e, x, ar)] → r.length = 8 ∧ ∀ x, x ∈ r → static x = true := fun x r hr => by
        rw [List.mem_singleton] at hr; rw [hr]; exact plC_row _
      have hA := hAv lv hlv (h ++ [HObj.cells 107 (plC (n, .mk op nn a t e, lv, ar))]) h.length
      have hO := hOv ar (ofEs lv 0 a) (h ++ [HObj.cells 107 (plC (n, .mk op nn a t e, lv, ar))]) h.length
      have hfin1 : ∀ x : List Int, hand true h (.tup [.vs 1 (intsC x), .sl h.length 8 0 1]) (h ++ [HObj.cells 107 (plC (n, .mk op nn a t e, lv, ar))]) = some (.tup [.vs 1 (intsC x), .vs 8 [plC (n, .mk op nn a t e, lv, ar)]], h) := fun x =>
        here_fin (rows := [plC (n, .mk op nn a t e, lv, ar)]) (hhere lv) (by simp) (Nat.le_refl _)
      by_cases o0 : op = 0
      · have hm : mv1 (putR vs) ofA (.mk op nn a t e) lv ar = lv.set nn.toNat (orI (orI ar (ofEs lv 0 a)) (keptI vs lv nn)) := by
          rw [mv1, if_neg (by omega), if_neg (by omega)]
          unfold putR fromP
          dsimp only
          rw [if_pos (.inl o0), if_neg (by omega)]
        have hp : pl1 (putR vs) ofA (.mk op nn a t e) lv ar n = [(n, .mk op nn a t e, lv, ar)] := by rw [pl1, if_neg (by omega), if_neg (by omega)]
        rw [hm, hp]
        have hr := r2 (.inl o0)
        have hK := kept_run vs lv nn hr hlv (k - 1) (h ++ [HObj.cells 107 (plC (n, .mk op nn a t e, lv, ar))]) (h ++ [HObj.cells 107 (plC (n, .mk op nn a t e, lv, ar))]).length
        have hO2 := hOv (orI ar (ofEs lv 0 a)) (keptI vs lv nn) (h ++ [HObj.cells 107 (plC (n, .mk op nn a t e, lv, ar))]) (h ++ [HObj.cells 107 (plC (n, .mk op nn a t e, lv, ar))]).length
        have hW := with_run lv nn (orI (orI ar (ofEs lv 0 a)) (keptI vs lv nn)) (by omega) (by omega) (k - 1) (by omega) (h ++ [HObj.cells 107 (plC (n, .mk op nn a t e, lv, ar))]) (h ++ [HObj.cells 107 (plC (n, .mk op nn a t e, lv, ar))]).length
        rw [show k - 1 + 1 = k by omega] at hK hW
        have c0 : (op == 0) = true := by simp [o0]
        have hfin := hfin1 (lv.set nn.toNat (orI (orI ar (ofEs lv 0 a)) (keptI vs lv nn)))
        clear hm hp hAv hOv hfin1 ihs ihl hok
        apply W_call Try.func123 rfl (Nat.le_of_ble_eq_true rfl) rfl rfl
        (repeat' (first | apply W_seq | refine W_true rfl rfl ?_ | refine W_false rfl rfl ?_ | refine W_region (id := 0) rfl ?_ | refine W_region (id := 1) rfl ?_ | refine W_region (id := 2) rfl ?_ | (refine W_ops (id := 3) ?_ <;> refine T_ch 3 rfl ?_ <;> (refine T_go rfl ?_; refine G_op (O_call rfl rfl rfl rfl (by assumption)) ?_) <;> (refine T_go rfl ?_; refine G_op (O_call rfl rfl rfl rfl (by assumption)) ?_) <;> refine T_ch 1 rfl ?_ <;> apply T_nil) | refine W_region (id := 4) rfl ?_ | (refine W_ops (id := 5) ?_ <;> (refine T_go rfl ?_; first | refine G_true rfl rfl ?_ | refine G_false rfl rfl ?_ | refine G_true rfl (by with_reducible assumption) ?_ | refine G_false rfl (by with_reducible assumption) ?_ | refine G_true rfl (by assumption) ?_ | refine G_false rfl (by assumption) ?_ | refine G_split rfl (fun _ => ?_) (fun _ => ?_)) <;> refine T_ch 1 rfl ?_ <;> apply T_nil) | (refine W_dops (id := 6) (bs := [0, 0, 2, 0, 0, 0, 0, 64, 240, 504, 1023, 0, 2047, 8191]) (by decide +kernel) ?_ <;> (refine U_go rfl ?_; refine H_free (by decide +kernel) rfl rfl rfl rfl rfl ?_) <;> (refine U_go rfl ?_; refine H_free (by decide +kernel) rfl rfl rfl rfl rfl ?_) <;> (refine U_go rfl ?_; refine H_free (by decide +kernel) rfl rfl rfl rfl rfl ?_) <;> (refine U_go rfl ?_; refine H_free (by decide +kernel) rfl rfl rfl rfl rfl ?_) <;> (refine U_go rfl ?_; refine H_free (by decide +kernel) rfl rfl rfl rfl rfl ?_) <;> (refine U_go rfl ?_; refine H_free (by decide +kernel) rfl rfl rfl rfl rfl ?_) <;> (refine U_go rfl ?_; refine H_free (by decide +kernel) rfl rfl rfl rfl rfl ?_) <;> (refine U_go rfl ?_; refine H_free (by decide +kernel) rfl rfl rfl rfl rfl ?_) <;> (refine U_go rfl ?_; first | refine H_free (by decide +kernel) rfl (O_call rfl rfl rfl rfl (by assumption)) rfl rfl rfl ?_ | refine H_make (by decide +kernel) rfl (O_call rfl rfl rfl rfl (by assumption)) rfl rfl rfl ?_) <;> (refine U_go rfl ?_; first | refine H_free (by decide +kernel) rfl (O_call rfl rfl rfl rfl (by assumption)) rfl rfl rfl ?_ | refine H_make (by decide +kernel) rfl (O_call rfl rfl rfl rfl (by assumption)) rfl rfl rfl ?_) <;> (refine U_go rfl ?_; first | refine H_free (by decide +kernel) rfl (O_call rfl rfl rfl rfl (by assumption)) rfl rfl rfl ?_ | refine H_make (by decide +kernel) rfl (O_call rfl rfl rfl rfl (by assumption)) rfl rfl rfl ?_) <;> (refine U_go rfl ?_; refine H_free (by decide +kernel) rfl rfl rfl rfl rfl ?_) <;> (refine U_go rfl ?_; refine H_free (by decide +kernel) rfl rfl rfl rfl rfl ?_) <;> (refine U_go rfl ?_; refine H_op (by decide +kernel) rfl ?_) <;> apply U_nil) | apply W_skip | apply W_block | apply W_ret | apply W_exit | refine W_true rfl (by assumption) ?_ | refine W_false rfl (by assumption) ?_ | refine W_cond rfl (fun _ => ?_) (fun _ => ?_)))
        exact ⟨.inl rfl, hfin⟩
      by_cases o4 : op = 4
      · have hm : mv1 (putR vs) ofA (.mk op nn a t e) lv ar = lv.set nn.toNat (orI (orI (orI ar (ofEs lv 0 a)) 16) (keptI vs lv nn)) := by
          rw [mv1, if_neg (by omega), if_neg (by omega)]
          unfold putR fromP
          dsimp only
          rw [if_pos (.inr o4), if_pos o4]
        have hp : pl1 (putR vs) ofA (.mk op nn a t e) lv ar n = [(n, .mk op nn a t e, lv, ar)] := by rw [pl1, if_neg (by omega), if_neg (by omega)]
        rw [hm, hp]
        have hr := r2 (.inr o4)
        have hK := kept_run vs lv nn hr hlv (k - 1) (h ++ [HObj.cells 107 (plC (n, .mk op nn a t e, lv, ar))]) (h ++ [HObj.cells 107 (plC (n, .mk op nn a t e, lv, ar))]).length
        have hO1 := hOv (orI ar (ofEs lv 0 a)) 16 (h ++ [HObj.cells 107 (plC (n, .mk op nn a t e, lv, ar))]) (h ++ [HObj.cells 107 (plC (n, .mk op nn a t e, lv, ar))]).length
        have hO2 := hOv (orI (orI ar (ofEs lv 0 a)) 16) (keptI vs lv nn) (h ++ [HObj.cells 107 (plC (n, .mk op nn a t e, lv, ar))]) (h ++ [HObj.cells 107 (plC (n, .mk op nn a t e, lv, ar))]).length
        have hW := with_run lv nn (orI (orI (orI ar (ofEs lv 0 a)) 16) (keptI vs lv nn)) (by omega) (by omega) (k - 1) (by omega) (h ++ [HObj.cells 107 (plC (n, .mk op nn a t e, lv, ar))]) (h ++ [HObj.cells 107 (plC (n, .mk op nn a t e, lv, ar))]).length
        rw [show k - 1 + 1 = k by omega] at hK hW
        have c0 : (op == 0) = false := by simp [o0]
        have c4 : (op == 4) = true := by simp [o4]
        have hfin := hfin1 (lv.set nn.toNat (orI (orI (orI ar (ofEs lv 0 a)) 16) (keptI vs lv nn)))
        clear hm hp hAv hOv hfin1 ihs ihl hok
        apply W_call Try.func123 rfl (Nat.le_of_ble_eq_true rfl) rfl rfl
        (repeat' (first | apply W_seq | refine W_true rfl rfl ?_ | refine W_false rfl rfl ?_ | refine W_region (id := 0) rfl ?_ | refine W_region (id := 1) rfl ?_ | refine W_region (id := 2) rfl ?_ | (refine W_ops (id := 3) ?_ <;> refine T_ch 3 rfl ?_ <;> (refine T_go rfl ?_; refine G_op (O_call rfl rfl rfl rfl (by assumption)) ?_) <;> (refine T_go rfl ?_; refine G_op (O_call rfl rfl rfl rfl (by assumption)) ?_) <;> refine T_ch 1 rfl ?_ <;> apply T_nil) | refine W_region (id := 4) rfl ?_ | (refine W_ops (id := 5) ?_ <;> (refine T_go rfl ?_; first | refine G_true rfl rfl ?_ | refine G_false rfl rfl ?_ | refine G_true rfl (by with_reducible assumption) ?_ | refine G_false rfl (by with_reducible assumption) ?_ | refine G_true rfl (by assumption) ?_ | refine G_false rfl (by assumption) ?_ | refine G_split rfl (fun _ => ?_) (fun _ => ?_)) <;> refine T_ch 1 rfl ?_ <;> apply T_nil) | (refine W_ops (id := 7) ?_ <;> (refine T_go rfl ?_; first | refine G_true rfl rfl ?_ | refine G_false rfl rfl ?_ | refine G_true rfl (by with_reducible assumption) ?_ | refine G_false rfl (by with_reducible assumption) ?_ | refine G_true rfl (by assumption) ?_ | refine G_false rfl (by assumption) ?_ | refine G_split rfl (fun _ => ?_) (fun _ => ?_)) <;> refine T_ch 1 rfl ?_ <;> apply T_nil) | (refine W_dops (id := 8) (bs := [0, 0, 2, 0, 8, 0, 0, 0, 128, 504, 1016, 2047, 0, 4095, 16383]) (by decide +kernel) ?_ <;> (refine U_go rfl ?_; refine H_free (by decide +kernel) rfl rfl rfl rfl rfl ?_) <;> (refine U_go rfl ?_; refine H_free (by decide +kernel) rfl rfl rfl rfl rfl ?_) <;> (refine U_go rfl ?_; refine H_free (by decide +kernel) rfl rfl rfl rfl rfl ?_) <;> (refine U_go rfl ?_; refine H_free (by decide +kernel) rfl rfl rfl rfl rfl ?_) <;> (refine U_go rfl ?_; first | refine H_free (by decide +kernel) rfl (O_call rfl rfl rfl rfl (by assumption)) rfl rfl rfl ?_ | refine H_make (by decide +kernel) rfl (O_call rfl rfl rfl rfl (by assumption)) rfl rfl rfl ?_) <;> (refine U_go rfl ?_; refine H_free (by decide +kernel) rfl rfl rfl rfl rfl ?_) <;> (refine U_go rfl ?_; refine H_free (by decide +kernel) rfl rfl rfl rfl rfl ?_) <;> (refine U_go rfl ?_; refine H_free (by decide +kernel) rfl rfl rfl rfl rfl ?_) <;> (refine U_go rfl ?_; refine H_free (by decide +kernel) rfl rfl rfl rfl rfl ?_) <;> (refine U_go rfl ?_; first | refine H_free (by decide +kernel) rfl (O_call rfl rfl rfl rfl (by assumption)) rfl rfl rfl ?_ | refine H_make (by decide +kernel) rfl (O_call rfl rfl rfl rfl (by assumption)) rfl rfl rfl ?_) <;> (refine U_go rfl ?_; first | refine H_free (by decide +kernel) rfl (O_call rfl rfl rfl rfl (by assumption)) rfl rfl rfl ?_ | refine H_make (by decide +kernel) rfl (O_call rfl rfl rfl rfl (by assumption)) rfl rfl rfl ?_) <;> (refine U_go rfl ?_; first | refine H_free (by decide +kernel) rfl (O_call rfl rfl rfl rfl (by assumption)) rfl rfl rfl ?_ | refine H_make (by decide +kernel) rfl (O_call rfl rfl rfl rfl (by assumption)) rfl rfl rfl ?_) <;> (refine U_go rfl ?_; refine H_free (by decide +kernel) rfl rfl rfl rfl rfl ?_) <;> (refine U_go rfl ?_; refine H_free (by decide +kernel) rfl rfl rfl rfl rfl ?_) <;> (refine U_go rfl ?_; refine H_op (by decide +kernel) rfl ?_) <;> apply U_nil) | apply W_skip | apply W_block | apply W_ret | apply W_exit | refine W_true rfl (by assumption) ?_ | refine W_false rfl (by assumption) ?_ | refine W_cond rfl (fun _ => ?_) (fun _ => ?_)))
        exact ⟨.inl rfl, hfin⟩
      have c0 : (op == 0) = false := by simp [o0]
      have c4 : (op == 4) = false := by simp [o4]
      by_cases o1 : op = 1
      · have hm : mv1 (putR vs) ofA (.mk op nn a t e) lv ar = joinL (mvL (putR vs) ofA t lv (orI ar (ofEs lv 0 a))) (mvL (putR vs) ofA e lv (orI ar (ofEs lv 0 a))) := by rw [mv1, if_pos o1]; rfl
        have hp : pl1 (putR vs) ofA (.mk op nn a t e) lv ar n = (n, .mk op nn a t e, lv, ar) :: (plL (putR vs) ofA t lv (orI ar (ofEs lv 0 a)) (IntKind.i64.wrap (n + 1)) ++ plL (putR vs) ofA e lv (orI ar (ofEs lv 0 a)) (IntKind.i64.wrap (IntKind.i64.wrap (n + 1) + cntL t 0))) := by rw [pl1, if_pos o1]; rfl
        rw [hm, hp]
        have hfB : lvB (orI ar (ofEs lv 0 a)) := orI_B har (ofEs_B hB a lvB0)
        have hTh := then_run n op nn a t e (k - 1) (by omega) (by omega) ht2 (h ++ [HObj.cells 107 (plC (n, .mk op nn a t e, lv, ar))]) h.length
        have hEl := else_run n op nn a t e (k - 1) (by omega) (by omega) ht2 (by omega) he2 (h ++ [HObj.cells 107 (plC (n, .mk op nn a t e, lv, ar))]) h.length
        rw [show k - 1 + 1 = k by omega] at hTh hEl
        have hT := ihl t lv (orI ar (ofEs lv 0 a)) (IntKind.i64.wrap (n + 1)) (by omega) (by omega) (by omega) ht2 r4 hlv hB hfB (h ++ [HObj.cells 107 (plC (n, .mk op nn a t e, lv, ar))]) h.length
        have hE := ihl e lv (orI ar (ofEs lv 0 a)) (IntKind.i64.wrap (IntKind.i64.wrap (n + 1) + cntL t 0)) (by omega) (by omega) (by omega) he2 r5 hlv hB hfB (h ++ [HObj.cells 107 (plC (n, .mk op nn a t e, lv, ar))]) h.length
        obtain ⟨t1, t2⟩ := mvL_ok hMv t lv (orI ar (ofEs lv 0 a)) hlv hB hfB r4
        obtain ⟨e1, e2⟩ := mvL_ok hMv e lv (orI ar (ofEs lv 0 a)) hlv hB hfB r5
        have hJ := join_run _ _ (t1.trans e1.symm) (fun q => by rw [q] at t1; simp at t1; omega) (by omega) (k - 1) (by omega) (h ++ [HObj.cells 107 (plC (n, .mk op nn a t e, lv, ar))]) h.length
        rw [show k - 1 + 1 = k by omega] at hJ
        have lT := plL_len (putR vs) ofA t lv (orI ar (ofEs lv 0 a)) (IntKind.i64.wrap (n + 1))
        have lE := plL_len (putR vs) ofA e lv (orI ar (ofEs lv 0 a)) (IntKind.i64.wrap (IntKind.i64.wrap (n + 1) + cntL t 0))
        generalize plL (putR vs) ofA t lv (orI ar (ofEs lv 0 a)) (IntKind.i64.wrap (n + 1)) = X at *
        generalize plL (putR vs) ofA e lv (orI ar (ofEs lv 0 a)) (IntKind.i64.wrap (IntKind.i64.wrap (n + 1) + cntL t 0)) = Y at *
        generalize mvL (putR vs) ofA t lv (orI ar (ofEs lv 0 a)) = A at *
        generalize mvL (putR vs) ofA e lv (orI ar (ofEs lv 0 a)) = B at *
        have ap1 := here_append h [] h.length (by simp) [plC (n, .mk op nn a t e, lv, ar)] (fun r hr => (hhere lv r hr).1) (X.map plC) (by simp; omega)
        have ap2 := here_append h [] h.length (by simp) ([plC (n, .mk op nn a t e, lv, ar)] ++ X.map plC) (fun r hr => by
          rcases List.mem_append.1 hr with hr | hr
          · exact (hhere lv r hr).1
          · exact (plC_rows X r hr).1) (Y.map plC) (by simp; omega)
        have hfin := here_fin (h := h) (H := h ++ [HObj.cells 107 (([plC (n, .mk op nn a t e, lv, ar)] ++ X.map plC) ++ Y.map plC).flatten]) (lv := joinL A B) (rows := ([plC (n, .mk op nn a t e, lv, ar)] ++ X.map plC) ++ Y.map plC) (id := h.length) (fun r hr => by
          rcases List.mem_append.1 hr with hr | hr
          · rcases List.mem_append.1 hr with hr | hr
            · exact hhere lv r hr
            · exact plC_rows X r hr
          · exact plC_rows Y r hr) (by simp) (Nat.le_refl _)
        have hf1 : ([plC (n, .mk op nn a t e, lv, ar)] : List (List AV)).flatten = plC (n, .mk op nn a t e, lv, ar) := by simp
        have hl1 : ([plC (n, .mk op nn a t e, lv, ar)] : List (List AV)).length = 1 := rfl
        rw [List.append_nil, List.length_nil, Nat.add_zero, hf1, hl1] at ap1
        rw [List.append_nil, List.length_nil, Nat.add_zero, List.length_append, hl1] at ap2
        rw [List.length_append, List.length_append, hl1] at hfin
        have c1 : (op == 1) = true := by simp [o1]
        rw [show ((n, Sm'.mk op nn a t e, lv, ar) :: (X ++ Y)).map plC = ([plC (n, .mk op nn a t e, lv, ar)] ++ X.map plC) ++ Y.map plC by simp]
        clear hm hp hAv hOv hfin1 ihs ihl hok
        apply W_call Try.func123 rfl (Nat.le_of_ble_eq_true rfl) rfl rfl
        (repeat' (first | apply W_seq | refine W_true rfl rfl ?_ | refine W_false rfl rfl ?_ | refine W_region (id := 0) rfl ?_ | refine W_region (id := 1) rfl ?_ | refine W_region (id := 2) rfl ?_ | (refine W_ops (id := 3) ?_ <;> refine T_ch 3 rfl ?_ <;> (refine T_go rfl ?_; refine G_op (O_call rfl rfl rfl rfl (by assumption)) ?_) <;> (refine T_go rfl ?_; refine G_op (O_call rfl rfl rfl rfl (by assumption)) ?_) <;> refine T_ch 1 rfl ?_ <;> apply T_nil) | refine W_region (id := 4) rfl ?_ | (refine W_ops (id := 5) ?_ <;> (refine T_go rfl ?_; first | refine G_true rfl rfl ?_ | refine G_false rfl rfl ?_ | refine G_true rfl (by with_reducible assumption) ?_ | refine G_false rfl (by with_reducible assumption) ?_ | refine G_true rfl (by assumption) ?_ | refine G_false rfl (by assumption) ?_ | refine G_split rfl (fun _ => ?_) (fun _ => ?_)) <;> refine T_ch 1 rfl ?_ <;> apply T_nil) | (refine W_ops (id := 7) ?_ <;> (refine T_go rfl ?_; first | refine G_true rfl rfl ?_ | refine G_false rfl rfl ?_ | refine G_true rfl (by with_reducible assumption) ?_ | refine G_false rfl (by with_reducible assumption) ?_ | refine G_true rfl (by assumption) ?_ | refine G_false rfl (by assumption) ?_ | refine G_split rfl (fun _ => ?_) (fun _ => ?_)) <;> refine T_ch 1 rfl ?_ <;> apply T_nil) | (refine W_ops (id := 9) ?_ <;> (refine T_go rfl ?_; first | refine G_true rfl rfl ?_ | refine G_false rfl rfl ?_ | refine G_true rfl (by with_reducible assumption) ?_ | refine G_false rfl (by with_reducible assumption) ?_ | refine G_true rfl (by assumption) ?_ | refine G_false rfl (by assumption) ?_ | refine G_split rfl (fun _ => ?_) (fun _ => ?_)) <;> refine T_ch 1 rfl ?_ <;> apply T_nil) | (refine W_ops (id := 10) ?_ <;> refine T_ch 4 rfl ?_ <;> (refine T_go rfl ?_; refine G_op (O_call rfl rfl rfl rfl (by assumption)) ?_) <;> (refine T_go rfl ?_; refine G_op (O_call rfl rfl rfl rfl (by assumption)) ?_) <;> refine T_ch 5 rfl ?_ <;> apply T_nil) | (refine W_ops (id := 11) ?_ <;> refine T_ch 4 rfl ?_ <;> (refine T_go rfl ?_; refine G_op (O_call rfl rfl rfl rfl (by assumption)) ?_) <;> (refine T_go rfl ?_; refine G_op (O_call rfl rfl rfl rfl (by assumption)) ?_) <;> refine T_ch 5 rfl ?_ <;> apply T_nil) | (refine W_ops (id := 12) ?_ <;> refine T_ch 2 rfl ?_ <;> (refine T_go rfl ?_; refine G_op (O_call rfl rfl rfl rfl (by assumption)) ?_) <;> refine T_ch 2 rfl ?_ <;> (refine T_go rfl ?_; first | refine G_op (O_append rfl rfl rfl rfl rfl (by assumption)) ?_ | refine G_op rfl ?_) <;> refine T_ch 1 rfl ?_ <;> (refine T_go rfl ?_; first | refine G_op (O_append rfl rfl rfl rfl rfl (by assumption)) ?_ | refine G_op rfl ?_) <;> refine T_ch 2 rfl ?_ <;> apply T_nil) | apply W_skip | apply W_block | apply W_ret | apply W_exit | refine W_true rfl (by assumption) ?_ | refine W_false rfl (by assumption) ?_ | refine W_cond rfl (fun _ => ?_) (fun _ => ?_)))
        exact ⟨.inl rfl, hfin⟩
      have c1 : (op == 1) = false := by simp [o1]
      by_cases o2 : op = 2
      · have hm : mv1 (putR vs) ofA (.mk op nn a t e) lv ar = fixN (fR vs t a ar) 600 lv := by rw [mv1, if_neg o1, if_pos o2]; rfl
        have hp : pl1 (putR vs) ofA (.mk op nn a t e) lv ar n = (n, .mk op nn a t e, fixN (fR vs t a ar) 600 lv, ar) :: plL (putR vs) ofA t (fixN (fR vs t a ar) 600 lv) (orI ar (ofEs (fixN (fR vs t a ar) 600 lv) 0 a)) (IntKind.i64.wrap (n + 1)) := by
          rw [pl1, if_neg o1, if_pos o2, hm]; rfl
        rw [hm, hp]
        have hrm := roomL_le hB
        have hTh := then_run n op nn a t e (k - 1) (by omega) (by omega) ht2 (h ++ [HObj.cells 107 (plC (n, .mk op nn a t e, lv, ar))]) h.length
        rw [show k - 1 + 1 = k by omega] at hTh
        have c2 : (op == 2) = true := by simp [o2]
        have hfx0 : fixN (fR vs t a ar) 600 lv = fixN (fR vs t a ar) 600 lv := rfl
        generalize hF : fixN (fR vs t a ar) 600 lv = F
        clear hm hp hok
        apply W_call Try.func123 rfl (Nat.le_of_ble_eq_true rfl) rfl rfl
        (repeat' (first | apply W_seq | refine W_true rfl rfl ?_ | refine W_false rfl rfl ?_ | refine W_region (id := 0) rfl ?_ | refine W_region (id := 1) rfl ?_ | refine W_region (id := 2) rfl ?_ | (refine W_ops (id := 3) ?_ <;> refine T_ch 3 rfl ?_ <;> (refine T_go rfl ?_; refine G_op (O_call rfl rfl rfl rfl (by assumption)) ?_) <;> (refine T_go rfl ?_; refine G_op (O_call rfl rfl rfl rfl (by assumption)) ?_) <;> refine T_ch 1 rfl ?_ <;> apply T_nil) | refine W_region (id := 4) rfl ?_ | (refine W_ops (id := 5) ?_ <;> (refine T_go rfl ?_; first | refine G_true rfl rfl ?_ | refine G_false rfl rfl ?_ | refine G_true rfl (by with_reducible assumption) ?_ | refine G_false rfl (by with_reducible assumption) ?_ | refine G_true rfl (by assumption) ?_ | refine G_false rfl (by assumption) ?_ | refine G_split rfl (fun _ => ?_) (fun _ => ?_)) <;> refine T_ch 1 rfl ?_ <;> apply T_nil) | (refine W_ops (id := 7) ?_ <;> (refine T_go rfl ?_; first | refine G_true rfl rfl ?_ | refine G_false rfl rfl ?_ | refine G_true rfl (by with_reducible assumption) ?_ | refine G_false rfl (by with_reducible assumption) ?_ | refine G_true rfl (by assumption) ?_ | refine G_false rfl (by assumption) ?_ | refine G_split rfl (fun _ => ?_) (fun _ => ?_)) <;> refine T_ch 1 rfl ?_ <;> apply T_nil) | (refine W_ops (id := 9) ?_ <;> (refine T_go rfl ?_; first | refine G_true rfl rfl ?_ | refine G_false rfl rfl ?_ | refine G_true rfl (by with_reducible assumption) ?_ | refine G_false rfl (by with_reducible assumption) ?_ | refine G_true rfl (by assumption) ?_ | refine G_false rfl (by assumption) ?_ | refine G_split rfl (fun _ => ?_) (fun _ => ?_)) <;> refine T_ch 1 rfl ?_ <;> apply T_nil) | (refine W_ops (id := 13) ?_ <;> (refine T_go rfl ?_; first | refine G_true rfl rfl ?_ | refine G_false rfl rfl ?_ | refine G_true rfl (by with_reducible assumption) ?_ | refine G_false rfl (by with_reducible assumption) ?_ | refine G_true rfl (by assumption) ?_ | refine G_false rfl (by assumption) ?_ | refine G_split rfl (fun _ => ?_) (fun _ => ?_)) <;> refine T_ch 1 rfl ?_ <;> apply T_nil) | apply W_skip | apply W_block | apply W_ret | apply W_exit | refine W_true rfl (by assumption) ?_ | refine W_false rfl (by assumption) ?_ | refine W_cond rfl (fun _ => ?_) (fun _ => ?_)))
        apply W_while (S := bhS h vs n ar (.mk op nn a t e) lv) (a0 := lv) (fun x => x.length = vs.length ∧ lvsB x ∧ ∃ c, roomL x < c ∧ fixN (fR vs t a ar) c x = F) roomL (by omega) rfl ⟨hlv, hB, 600, by omega, hF⟩
        intro x hJ
        obtain ⟨j1, j2, c, j3, j4⟩ := hJ
        have hne' : x ≠ [] := fun e => by subst e; simp at j1; omega
        have hfB : lvB (orI ar (ofEs x 0 a)) := orI_B har (ofEs_B j2 a lvB0)
        have hA2 := hAv x j1 (h ++ [HObj.cells 107 (plC (n, .mk op nn a t e, lv, ar))]) h.length
        have hO2 := hOv ar (ofEs x 0 a) (h ++ [HObj.cells 107 (plC (n, .mk op nn a t e, lv, ar))]) h.length
        have hT := ihl t x (orI ar (ofEs x 0 a)) (IntKind.i64.wrap (n + 1)) (by omega) (by omega) (by omega) ht2 r4 j1 j2 hfB (h ++ [HObj.cells 107 (plC (n, .mk op nn a t e, lv, ar))]) h.length
        obtain ⟨t1, t2⟩ := mvL_ok hMv t x (orI ar (ofEs x 0 a)) j1 j2 hfB r4
        have hJn := join_run _ _ (j1.trans t1.symm) hne' (by omega) (k - 1) (by omega) (h ++ [HObj.cells 107 (plC (n, .mk op nn a t e, lv, ar))]) h.length
        obtain ⟨f1, f2, f3⟩ := round_ok hMv r4 har a j1 j2
        have hfx : joinL x (mvL (putR vs) ofA t x (orI ar (ofEs x 0 a))) = fR vs t a ar x := rfl
        have hfx' : joinL x (mvL (putR vs) ofA t x (orI ar (ofA x a))) = fR vs t a ar x := rfl
        rw [hfx'] at f1 f2 f3
        rw [hfx] at hJn
        have hWs := wsame_run (fR vs t a ar x) x (by omega) (k - 1) (by omega) (h ++ [HObj.cells 107 (plC (n, .mk op nn a t e, lv, ar))]) h.length
        rw [show k - 1 + 1 = k by omega] at hJn hWs
        have lT := plL_len (putR vs) ofA t x (orI ar (ofEs x 0 a)) (IntKind.i64.wrap (n + 1))
        obtain ⟨c, rfl⟩ : ∃ c', c = c' + 1 := ⟨c - 1, by omega⟩
        rw [fixN] at j4
        generalize fR vs t a ar x = fx at *
        by_cases hs : fx = x
        · rw [if_pos hs] at j4
          rw [decide_eq_true hs] at hWs
          rw [← j4]
          generalize plL (putR vs) ofA t x (orI ar (ofEs x 0 a)) (IntKind.i64.wrap (n + 1)) = X at *
          have ap1 := here_append h [HObj.cells 107 (plC (n, .mk op nn a t e, lv, ar))] h.length (by simp) [plC (n, .mk op nn a t e, x, ar)] (fun r hr => (hhere x r hr).1) (X.map plC) (by simp; omega)
          have hfin := here_fin (h := h) (H := h ++ [HObj.cells 107 (plC (n, .mk op nn a t e, lv, ar))] ++ [HObj.cells 107 ([plC (n, .mk op nn a t e, x, ar)] ++ X.map plC).flatten]) (lv := x) (rows := [plC (n, .mk op nn a t e, x, ar)] ++ X.map plC) (id := h.length + 1) (fun r hr => by
            rcases List.mem_append.1 hr with hr | hr
            · exact hhere x r hr
            · exact plC_rows X r hr) (by simp) (by omega)
          have hf1 : ([plC (n, .mk op nn a t e, x, ar)] : List (List AV)).flatten = plC (n, .mk op nn a t e, x, ar) := by simp
          have hl1 : ([plC (n, .mk op nn a t e, x, ar)] : List (List AV)).length = 1 := rfl
          rw [hf1, hl1] at ap1
          rw [List.length_append, hl1] at hfin
          have e1 : (h ++ [HObj.cells 107 (plC (n, .mk op nn a t e, lv, ar))]).length = h.length + [HObj.cells 107 (plC (n, .mk op nn a t e, lv, ar))].length := by simp
          rw [← e1] at ap1
          have e2 : h.length + 1 = (h ++ [HObj.cells 107 (plC (n, .mk op nn a t e, lv, ar))]).length := by simp
          rw [e2] at hfin
          rw [show ((n, Sm'.mk op nn a t e, x, ar) :: X).map plC = [plC (n, .mk op nn a t e, x, ar)] ++ X.map plC by simp]
          (repeat' (first | apply W_seq | refine W_true rfl rfl ?_ | refine W_false rfl rfl ?_ | (refine W_ops (id := 14) ?_ <;> refine T_ch 3 rfl ?_ <;> (refine T_go rfl ?_; refine G_op (O_call rfl rfl rfl rfl (by assumption)) ?_) <;> (refine T_go rfl ?_; refine G_op (O_call rfl rfl rfl rfl (by assumption)) ?_) <;> refine T_ch 1 rfl ?_ <;> apply T_nil) | (refine W_ops (id := 15) ?_ <;> refine T_ch 4 rfl ?_ <;> (refine T_go rfl ?_; refine G_op (O_call rfl rfl rfl rfl (by assumption)) ?_) <;> (refine T_go rfl ?_; refine G_op (O_call rfl rfl rfl rfl (by assumption)) ?_) <;> refine T_ch 5 rfl ?_ <;> apply T_nil) | (refine W_ops (id := 16) ?_ <;> refine T_ch 2 rfl ?_ <;> (refine T_go rfl ?_; refine G_op (O_call rfl rfl rfl rfl (by assumption)) ?_) <;> refine T_ch 1 rfl ?_ <;> apply T_nil) | (refine W_ops (id := 17) ?_ <;> refine T_ch 2 rfl ?_ <;> (refine T_go rfl ?_; first | refine G_true (O_call rfl rfl rfl rfl (by assumption)) rfl ?_ | refine G_false (O_call rfl rfl rfl rfl (by assumption)) rfl ?_ | refine G_true (O_call rfl rfl rfl rfl (by assumption)) (by with_reducible assumption) ?_ | refine G_false (O_call rfl rfl rfl rfl (by assumption)) (by with_reducible assumption) ?_ | refine G_true (O_call rfl rfl rfl rfl (by assumption)) (by assumption) ?_ | refine G_false (O_call rfl rfl rfl rfl (by assumption)) (by assumption) ?_ | refine G_split (O_call rfl rfl rfl rfl (by assumption)) (fun _ => ?_) (fun _ => ?_)) <;> apply T_nil) | (refine W_ops (id := 18) ?_ <;> refine T_ch 7 rfl ?_ <;> (refine T_go rfl ?_; first | refine G_op (O_append rfl rfl rfl rfl rfl (by assumption)) ?_ | refine G_op rfl ?_) <;> refine T_ch 2 rfl ?_ <;> apply T_nil) | apply W_skip | apply W_block | apply W_ret | apply W_exit | refine W_true rfl (by assumption) ?_ | refine W_false rfl (by assumption) ?_ | refine W_cond rfl (fun _ => ?_) (fun _ => ?_)))
          exact ⟨.inl rfl, hfin⟩
        · rw [if_neg hs] at j4
          rw [decide_eq_false hs] at hWs
          have hlt3 : roomL fx < roomL x := by
            rcases f3 with f3 | f3
            · exact absurd f3 hs
            · exact f3
          (repeat' (first | apply W_seq | refine W_true rfl rfl ?_ | refine W_false rfl rfl ?_ | (refine W_ops (id := 14) ?_ <;> refine T_ch 3 rfl ?_ <;> (refine T_go rfl ?_; refine G_op (O_call rfl rfl rfl rfl (by assumption)) ?_) <;> (refine T_go rfl ?_; refine G_op (O_call rfl rfl rfl rfl (by assumption)) ?_) <;> refine T_ch 1 rfl ?_ <;> apply T_nil) | (refine W_ops (id := 15) ?_ <;> refine T_ch 4 rfl ?_ <;> (refine T_go rfl ?_; refine G_op (O_call rfl rfl rfl rfl (by assumption)) ?_) <;> (refine T_go rfl ?_; refine G_op (O_call rfl rfl rfl rfl (by assumption)) ?_) <;> refine T_ch 5 rfl ?_ <;> apply T_nil) | (refine W_ops (id := 16) ?_ <;> refine T_ch 2 rfl ?_ <;> (refine T_go rfl ?_; refine G_op (O_call rfl rfl rfl rfl (by assumption)) ?_) <;> refine T_ch 1 rfl ?_ <;> apply T_nil) | (refine W_ops (id := 17) ?_ <;> refine T_ch 2 rfl ?_ <;> (refine T_go rfl ?_; first | refine G_true (O_call rfl rfl rfl rfl (by assumption)) rfl ?_ | refine G_false (O_call rfl rfl rfl rfl (by assumption)) rfl ?_ | refine G_true (O_call rfl rfl rfl rfl (by assumption)) (by with_reducible assumption) ?_ | refine G_false (O_call rfl rfl rfl rfl (by assumption)) (by with_reducible assumption) ?_ | refine G_true (O_call rfl rfl rfl rfl (by assumption)) (by assumption) ?_ | refine G_false (O_call rfl rfl rfl rfl (by assumption)) (by assumption) ?_ | refine G_split (O_call rfl rfl rfl rfl (by assumption)) (fun _ => ?_) (fun _ => ?_)) <;> apply T_nil) | refine W_region (id := 19) rfl ?_ | apply W_skip | apply W_block | apply W_ret | apply W_exit | refine W_true rfl (by assumption) ?_ | refine W_false rfl (by assumption) ?_ | refine W_cond rfl (fun _ => ?_) (fun _ => ?_)))
          exact ⟨fx, rfl, ⟨f1, f2, c, by omega, j4⟩, hlt3⟩
      · have c2 : (op == 2) = false := by simp [o2]
        have hm : mv1 (putR vs) ofA (.mk op nn a t e) lv ar = lv := by
          rw [mv1, if_neg o1, if_neg o2]
          unfold putR
          dsimp only
          rw [if_neg (by omega)]
        have hp : pl1 (putR vs) ofA (.mk op nn a t e) lv ar n = [(n, .mk op nn a t e, lv, ar)] := by rw [pl1, if_neg o1, if_neg o2]
        rw [hm, hp]
        have hfin := hfin1 lv
        clear hm hp hAv hOv hfin1 ihs ihl hok
        apply W_call Try.func123 rfl (Nat.le_of_ble_eq_true rfl) rfl rfl
        (repeat' (first | apply W_seq | refine W_true rfl rfl ?_ | refine W_false rfl rfl ?_ | refine W_region (id := 0) rfl ?_ | refine W_region (id := 1) rfl ?_ | refine W_region (id := 2) rfl ?_ | (refine W_ops (id := 3) ?_ <;> refine T_ch 3 rfl ?_ <;> (refine T_go rfl ?_; refine G_op (O_call rfl rfl rfl rfl (by assumption)) ?_) <;> (refine T_go rfl ?_; refine G_op (O_call rfl rfl rfl rfl (by assumption)) ?_) <;> refine T_ch 1 rfl ?_ <;> apply T_nil) | refine W_region (id := 4) rfl ?_ | (refine W_ops (id := 5) ?_ <;> (refine T_go rfl ?_; first | refine G_true rfl rfl ?_ | refine G_false rfl rfl ?_ | refine G_true rfl (by with_reducible assumption) ?_ | refine G_false rfl (by with_reducible assumption) ?_ | refine G_true rfl (by assumption) ?_ | refine G_false rfl (by assumption) ?_ | refine G_split rfl (fun _ => ?_) (fun _ => ?_)) <;> refine T_ch 1 rfl ?_ <;> apply T_nil) | (refine W_ops (id := 7) ?_ <;> (refine T_go rfl ?_; first | refine G_true rfl rfl ?_ | refine G_false rfl rfl ?_ | refine G_true rfl (by with_reducible assumption) ?_ | refine G_false rfl (by with_reducible assumption) ?_ | refine G_true rfl (by assumption) ?_ | refine G_false rfl (by assumption) ?_ | refine G_split rfl (fun _ => ?_) (fun _ => ?_)) <;> refine T_ch 1 rfl ?_ <;> apply T_nil) | (refine W_ops (id := 9) ?_ <;> (refine T_go rfl ?_; first | refine G_true rfl rfl ?_ | refine G_false rfl rfl ?_ | refine G_true rfl (by with_reducible assumption) ?_ | refine G_false rfl (by with_reducible assumption) ?_ | refine G_true rfl (by assumption) ?_ | refine G_false rfl (by assumption) ?_ | refine G_split rfl (fun _ => ?_) (fun _ => ?_)) <;> refine T_ch 1 rfl ?_ <;> apply T_nil) | (refine W_ops (id := 13) ?_ <;> (refine T_go rfl ?_; first | refine G_true rfl rfl ?_ | refine G_false rfl rfl ?_ | refine G_true rfl (by with_reducible assumption) ?_ | refine G_false rfl (by with_reducible assumption) ?_ | refine G_true rfl (by assumption) ?_ | refine G_false rfl (by assumption) ?_ | refine G_split rfl (fun _ => ?_) (fun _ => ?_)) <;> refine T_ch 1 rfl ?_ <;> apply T_nil) | refine W_region (id := 20) rfl ?_ | apply W_skip | apply W_block | apply W_ret | apply W_exit | refine W_true rfl (by assumption) ?_ | refine W_false rfl (by assumption) ?_ | refine W_cond rfl (fun _ => ?_) (fun _ => ?_)))
        exact ⟨.inl rfl, hfin⟩
    · intro l lv ar n hk hN hlen hb hvm hlv hB har h lo
      have hll := smsK_len l
      cases hl0 : l with
      | nil =>
        rw [mvL, plL]
        apply W_call Try.func94 rfl (Nat.le_of_ble_eq_true rfl) rfl rfl
        (repeat' (first | apply W_seq | refine W_true rfl rfl ?_ | refine W_false rfl rfl ?_ | refine W_region (id := 0) rfl ?_ | refine W_region (id := 1) rfl ?_ | refine W_region (id := 2) rfl ?_ | apply W_skip | apply W_block | apply W_ret | apply W_exit | refine W_true rfl (by assumption) ?_ | refine W_false rfl (by assumption) ?_ | refine W_cond rfl (fun _ => ?_) (fun _ => ?_)))
        apply W_iter (S := rwlS h vs ar .nils) (l := ([] : List Sm')) (a0 := ([], lv, n)) (fun _ a => a = ([], lv, n)) (by simp) (by simp; omega) rfl rfl
        · intro i st rest a hi; simp at hi
        · intro a hJ
          subst hJ
          (repeat' (first | apply W_seq | refine W_true rfl rfl ?_ | refine W_false rfl rfl ?_ | (refine W_ops (id := 3) ?_ <;> refine T_ch 3 rfl ?_ <;> (refine T_go rfl ?_; first | refine G_true rfl rfl ?_ | refine G_false rfl rfl ?_ | refine G_true rfl (by with_reducible assumption) ?_ | refine G_false rfl (by with_reducible assumption) ?_ | refine G_true rfl (by assumption) ?_ | refine G_false rfl (by assumption) ?_ | refine G_split rfl (fun _ => ?_) (fun _ => ?_)) <;> apply T_nil) | refine W_region (id := 8) rfl ?_ | apply W_skip | apply W_block | apply W_ret | apply W_exit | refine W_true rfl (by assumption) ?_ | refine W_false rfl (by assumption) ?_ | refine W_cond rfl (fun _ => ?_) (fun _ => ?_)))
          exact ⟨.inl rfl, rfl⟩
      | cons s0 l0 =>
        rw [← hl0]
        have hR := plC_rows (plL (putR vs) ofA l lv ar n)
        have hfz := acc_frzA (h := h) (e := 107) _ hR
        have htot := plL_len (putR vs) ofA l lv ar n
        have hacc : accV 6 ((itemsL l n).map itC) = .vs 6 ((itemsL l n).map itC) := by subst hl0; rfl
        rw [hacc]
        generalize hRR : (plL (putR vs) ofA l lv ar n).map plC = R at hR hfz ⊢
        have hRl : R.length ≤ smsN l := by rw [← hRR, List.length_map]; exact htot
        generalize hMM : mvL (putR vs) ofA l lv ar = M
        apply W_call Try.func94 rfl (Nat.le_of_ble_eq_true rfl) rfl rfl
        (repeat' (first | apply W_seq | refine W_true rfl rfl ?_ | refine W_false rfl rfl ?_ | refine W_region (id := 0) rfl ?_ | refine W_region (id := 1) rfl ?_ | refine W_region (id := 2) rfl ?_ | apply W_skip | apply W_block | apply W_ret | apply W_exit | refine W_true rfl (by assumption) ?_ | refine W_false rfl (by assumption) ?_ | refine W_cond rfl (fun _ => ?_) (fun _ => ?_)))
        apply W_iterI (S := rwlS h vs ar (.vs 6 ((itemsL l n).map itC))) (l := l) (a0 := ([], lv, n)) (fun i rest a => a.1 ++ (plL (putR vs) ofA rest a.2.1 ar a.2.2).map plC = R ∧ (itemsL l n).drop i = itemsL rest a.2.2 ∧ mvL (putR vs) ofA rest a.2.1 ar = M ∧ a.2.1.length = vs.length ∧ lvsB a.2.1) (by omega) (by omega) rfl ⟨by simpa using hRR, rfl, hMM, hlv, hB⟩
        · intro i st rest a hi hd hil hJ
          obtain ⟨rows, x, m⟩ := a
          obtain ⟨hJ, hdr, hJM, jl, jB⟩ := hJ
          dsimp only at hJ hdr hJM jl jB
          have hlt := lt_its (n := n) hil
          have hmem := smsK_mem2 l i _ hi
          have hNm := smsN_mem l i _ hi
          have hbm := smsB_mem l i _ hb hi
          have hvm1 := vmL_mem hvm hi
          rw [itemsL] at hdr
          have hget : (itemsL l n)[i]? = some (m, st) := by
            have := congrArg (fun z => z[0]?) hdr
            simpa using this
          have hrow : ((itemsL l n).map itC)[i]? = some (itC (m, st)) := by rw [List.getElem?_map, hget]; rfl
          have hdr2 : (itemsL l n).drop (i + 1) = itemsL rest (cnt1 st m) := by rw [← List.drop_drop, hdr]; rfl
          rw [plL, List.map_append, ← List.append_assoc] at hJ
          rw [mvL] at hJM
          have hBh := ihs st x ar m (by omega) (by omega) hbm hvm1 jl jB har (accH h 107 rows) h.length
          obtain ⟨q1, q2⟩ := mv1_ok hMv st x ar jl jB har hvm1
          have hpl := congrArg List.length hJ
          rw [List.length_append, List.length_append] at hpl
          have q3 : ∀ r, r ∈ rows → r.length = 8 := fun r hr => (hR r (by rw [← hJ]; simp [hr])).1
          have hap := pl_append h rows ((pl1 (putR vs) ofA st x ar m).map plC) q3 (by omega)
          have hpne : accV 8 ((pl1 (putR vs) ofA st x ar m).map plC) = .vs 8 ((pl1 (putR vs) ofA st x ar m).map plC) := by
            obtain ⟨op, nn, a, t, e⟩ := st
            rw [pl1]
            split
            · rfl
            · split <;> rfl
          rw [hpne] at hap
          generalize mv1 (putR vs) ofA st x ar = x' at hBh q1 q2 hJ hJM
          generalize (pl1 (putR vs) ofA st x ar m).map plC = P at hBh hap hJ
          obtain ⟨op, nn, a, t, e⟩ := st
          (repeat' (first | apply W_seq | refine W_true rfl rfl ?_ | refine W_false rfl rfl ?_ | (refine W_ops (id := 3) ?_ <;> refine T_ch 3 rfl ?_ <;> (refine T_go rfl ?_; first | refine G_true rfl rfl ?_ | refine G_false rfl rfl ?_ | refine G_true rfl (by with_reducible assumption) ?_ | refine G_false rfl (by with_reducible assumption) ?_ | refine G_true rfl (by assumption) ?_ | refine G_false rfl (by assumption) ?_ | refine G_split rfl (fun _ => ?_) (fun _ => ?_)) <;> apply T_nil) | refine W_region (id := 4) rfl ?_ | (refine W_ops (id := 5) ?_ <;> refine T_ch 5 rfl ?_ <;> (refine T_go rfl ?_; first | refine G_op (O_index rfl rfl rfl rfl rfl (by assumption)) ?_ | refine G_op (O_indexI rfl rfl rfl rfl rfl (by assumption)) ?_ | refine G_op (O_indexH rfl rfl rfl rfl rfl (by assumption) (by assumption) (by assumption)) ?_ | refine G_op (O_indexHI rfl rfl rfl rfl rfl (by assumption) (by assumption) (by assumption)) ?_ | refine G_op rfl ?_) <;> (refine T_go rfl ?_; first | refine G_op rfl ?_ | refine G_op (O_loadS rfl rfl rfl rfl (by assumption) rfl rfl) ?_ | refine G_op (O_loadH rfl rfl rfl (by assumption) rfl rfl) ?_ | refine G_op (O_loadH rfl rfl rfl (by assumption) rfl (by assumption)) ?_) <;> (refine T_go rfl ?_; refine G_op (O_call rfl rfl rfl rfl (by assumption)) ?_) <;> refine T_ch 5 rfl ?_ <;> apply T_nil) | (refine W_ops (id := 6) ?_ <;> refine T_ch 2 rfl ?_ <;> (refine T_go rfl ?_; first | refine G_op (O_append rfl rfl rfl rfl rfl (by assumption)) ?_ | refine G_op rfl ?_) <;> refine T_ch 1 rfl ?_ <;> apply T_nil) | refine W_region (id := 7) rfl ?_ | apply W_skip | apply W_block | apply W_ret | apply W_exit | refine W_true rfl (by assumption) ?_ | refine W_false rfl (by assumption) ?_ | refine W_cond rfl (fun _ => ?_) (fun _ => ?_)))
          exact ⟨(rows ++ P, x', cnt1 (.mk op nn a t e) m), rfl, hJ, hdr2, hJM, q1, q2⟩
        · intro a hJ
          have hlt := ge_its (l := l) (n := n)
          obtain ⟨rows, x, m⟩ := a
          obtain ⟨hJ, _, hJM, _, _⟩ := hJ
          have h1 : rows = R := by simpa [plL] using hJ
          have h2 : x = M := by simpa [mvL] using hJM
          subst h1 h2
          have hfin := hand_two (h := h) (H := accH h 107 rows) (a := .vs 1 (intsC x)) (b := accA h 8 rows) rfl hfz (fun _ => by simp) (fun _ => by cases rows <;> simp [accA])
          (repeat' (first | apply W_seq | refine W_true rfl rfl ?_ | refine W_false rfl rfl ?_ | (refine W_ops (id := 3) ?_ <;> refine T_ch 3 rfl ?_ <;> (refine T_go rfl ?_; first | refine G_true rfl rfl ?_ | refine G_false rfl rfl ?_ | refine G_true rfl (by with_reducible assumption) ?_ | refine G_false rfl (by with_reducible assumption) ?_ | refine G_true rfl (by assumption) ?_ | refine G_false rfl (by assumption) ?_ | refine G_split rfl (fun _ => ?_) (fun _ => ?_)) <;> apply T_nil) | refine W_region (id := 8) rfl ?_ | apply W_skip | apply W_block | apply W_ret | apply W_exit | refine W_true rfl (by assumption) ?_ | refine W_false rfl (by assumption) ?_ | refine W_cond rfl (fun _ => ?_) (fun _ => ?_)))
          exact ⟨.inl rfl, hfin⟩
end Go.Proofs.Ytelobnllkhnpaaa.L
/- Types that move, in the reference: Places, Moved. -/
open Go Go.Proofs Go.Ev Go.Proofs.Ytelobnllkhnpaaa.E
namespace Go.Proofs.Ytelobnllkhnpaaa.L
set_option linter.unusedVariables false
set_option linter.unusedSimpArgs false
set_option maxRecDepth 100000

/-- What is asked of a place to say its level. -/
def plOk (m K : Nat) : Pl → Prop
  | (_, .mk _ _ a _ _, lv, _) => exsK a ≤ K ∧ a.length < 9223372036854775808 ∧ exsB a ∧ rdEs m a ∧ lv.length = m
section
variable {pt : List Int → Int → Sm' → List Int} {og : List Int → List Ex' → Int}
mutual
theorem pl1_ok {m K : Nat} (H : Mv pt og m) : ∀ (s : Sm') (lv : List Int) (ar n : Int), smK s ≤ K → smB s → vm1 m s → lv.length = m → lvsB lv → lvB ar → ∀ p, p ∈ pl1 pt og s lv ar n → plOk m K p
  | .mk op nn a t e, lv, ar, n, hK, hb, hv, hl, hB, har, p, hp => by
    obtain ⟨q1, q2⟩ := mv1_ok H (.mk op nn a t e) lv ar hl hB har hv
    rw [smK] at hK
    rw [smB] at hb
    rw [vm1] at hv
    obtain ⟨⟨ha1, ha2⟩, ⟨ht1, ht2⟩, he1, he2⟩ := hb
    rw [pl1] at hp
    have h0 : ∀ lv' : List Int, lv'.length = m → plOk m K (n, .mk op nn a t e, lv', ar) := fun lv' hl' => ⟨by omega, ha1, ha2, hv.1, hl'⟩
    split at hp
    · rcases List.mem_cons.1 hp with rfl | hp
      · exact h0 lv hl
      · rcases List.mem_append.1 hp with hp | hp
        · exact plL_ok H t lv _ _ (by omega) ht2 hv.2.2.2.1 hl hB (orI_B har (H.og lv a hB)) p hp
        · exact plL_ok H e lv _ _ (by omega) he2 hv.2.2.2.2 hl hB (orI_B har (H.og lv a hB)) p hp
    · split at hp
      · rcases List.mem_cons.1 hp with rfl | hp
        · exact h0 _ q1
        · exact plL_ok H t _ _ _ (by omega) ht2 hv.2.2.2.1 q1 q2 (orI_B har (H.og _ a q2)) p hp
      · rw [List.mem_singleton] at hp
        rw [hp]
        exact h0 lv hl
theorem plL_ok {m K : Nat} (H : Mv pt og m) : ∀ (l : List Sm') (lv : List Int) (ar n : Int), smsK l ≤ K → smsB l → vmL m l → lv.length = m → lvsB lv → lvB ar → ∀ p, p ∈ plL pt og l lv ar n → plOk m K p
  | [], lv, ar, n, _, _, _, _, _, _, p, hp => by rw [plL] at hp; cases hp
  | s :: l, lv, ar, n, hK, hb, hv, hl, hB, har, p, hp => by
    rw [smsK] at hK
    obtain ⟨q1, q2⟩ := mv1_ok H s lv ar hl hB har hv.1
    rw [plL] at hp
    rcases List.mem_append.1 hp with hp | hp
    · exact pl1_ok H s lv ar n (by omega) hb.1 hv.1 hl hB har p hp
    · exact plL_ok H l _ ar _ (by omega) hb.2 hv.2 q1 q2 har p hp
end
end
/-- The flow at a place, if there is one. -/
def flPl : Pl → List (List AV)
  | (n, .mk op nn a _ _, lv, ar) => if op = 3 then flowL n (orI ar (ofEs lv 0 a)) nn else []
theorem flPl_row (p : Pl) : ∀ r, r ∈ flPl p → r.length = 3 ∧ ∀ x, x ∈ r → static x = true := by
  obtain ⟨n, ⟨op, nn, a, t, e⟩, lv, ar⟩ := p
  intro r hr
  unfold flPl at hr
  dsimp only at hr
  split at hr
  · exact flowL_row _ _ _ r hr
  · cases hr
theorem flPl_len (p : Pl) : (flPl p).length ≤ 1 := by
  obtain ⟨n, ⟨op, nn, a, t, e⟩, lv, ar⟩ := p
  unfold flPl
  dsimp only
  split
  · exact flowL_len _ _ _
  · simp
theorem flPls_row (l : List Pl) : ∀ r, r ∈ l.flatMap flPl → r.length = 3 ∧ ∀ x, x ∈ r → static x = true := by
  intro r hr
  obtain ⟨p, _, hp⟩ := List.mem_flatMap.1 hr
  exact flPl_row p r hp
theorem flPls_len : ∀ l : List Pl, (l.flatMap flPl).length ≤ l.length
  | [] => by simp
  | p :: l => by
    have := flPl_len p
    have := flPls_len l
    rw [List.flatMap_cons, List.length_append, List.length_cons]; omega

def plsR (p : Pr') : List Pl := plL (putR p.vars) ofA p.body (levs p) 0 0
def lastR (p : Pr') : List Int := mvL (putR p.vars) ofA p.body (levs p) 0
theorem places_run (p : Pr') (k : Nat) (hk : smsK p.body + p.vars.length + 1310 ≤ k) (hN : smsN p.body ≤ 600) (hb : prB p) (hv1 : 1 ≤ p.vars.length) (hv2 : p.vars.length ≤ 18) (hvm : vmL p.vars.length p.body) (hB : lvsB (levs p)) (h : Heap) (lo : Nat) :
    call Try.prog cfg (k + 1) lo (.func 61) [.agg (prC p)] h = some (.tup [.vs 1 (intsC (lastR p)), accV 8 ((plsR p).map plC)], h) := by
  have hln := smsN_len p.body
  have hL := levelsR_run p (k - 1) (by omega) (by omega) h h.length
  have hI := items_run p.body 0 (k - 1) (by omega) (by omega) hb.2.2 h h.length
  rw [show k - 1 + 1 = k by omega] at hL hI
  rw [accV_ne (levs_ne hv1)] at hL
  have hR := (behind_run p.vars hv1 hv2 k).2 p.body (levs p) 0 0 (by omega) hN (by omega) hb.2.2 hvm (levs_len p) hB lvB0 h h.length
  show _ = some (AV.tup [.vs 1 (intsC (mvL (putR p.vars) ofA p.body (levs p) 0)), accV 8 ((plL (putR p.vars) ofA p.body (levs p) 0 0).map plC)], h)
  generalize plL (putR p.vars) ofA p.body (levs p) 0 0 = R at hR ⊢
  generalize mvL (putR p.vars) ofA p.body (levs p) 0 = M at hR ⊢
  generalize levs p = lv at hL hR
  obtain ⟨w, vs, body⟩ := p
  dsimp only at hI hR
  cases R with
  | nil =>
    apply W_call Try.func61 rfl (Nat.le_of_ble_eq_true rfl) rfl rfl
    (repeat' (first | apply W_seq | refine W_true rfl rfl ?_ | refine W_false rfl rfl ?_ | refine W_region (id := 0) rfl ?_ | (refine W_dops (id := 1) (bs := [0, 1, 0, 4, 0, 16, 60, 127, 255, 255, 1023, 2047]) (by decide +kernel) ?_ <;> (refine U_go rfl ?_; refine H_free (by decide +kernel) rfl rfl rfl rfl rfl ?_) <;> (refine U_go rfl ?_; refine H_free (by decide +kernel) rfl rfl rfl rfl rfl ?_) <;> (refine U_go rfl ?_; refine H_free (by decide +kernel) rfl rfl rfl rfl rfl ?_) <;> (refine U_go rfl ?_; first | refine H_free (by decide +kernel) rfl (O_call rfl rfl rfl rfl (by assumption)) rfl rfl rfl ?_ | refine H_make (by decide +kernel) rfl (O_call rfl rfl rfl rfl (by assumption)) rfl rfl rfl ?_) <;> (refine U_go rfl ?_; refine H_free (by decide +kernel) rfl rfl rfl rfl rfl ?_) <;> (refine U_go rfl ?_; refine H_free (by decide +kernel) rfl rfl rfl rfl rfl ?_) <;> (refine U_go rfl ?_; first | refine H_free (by decide +kernel) rfl (O_call rfl rfl rfl rfl (by assumption)) rfl rfl rfl ?_ | refine H_make (by decide +kernel) rfl (O_call rfl rfl rfl rfl (by assumption)) rfl rfl rfl ?_) <;> (refine U_go rfl ?_; refine H_op (by decide +kernel) (O_call rfl rfl rfl rfl (by assumption)) ?_) <;> (refine U_go rfl ?_; refine H_free (by decide +kernel) rfl rfl rfl rfl rfl ?_) <;> (refine U_go rfl ?_; refine H_free (by decide +kernel) rfl rfl rfl rfl rfl ?_) <;> (refine U_go rfl ?_; refine H_op (by decide +kernel) rfl ?_) <;> (refine U_go rfl ?_; refine H_op (by decide +kernel) rfl ?_) <;> apply U_nil) | apply W_skip | apply W_block | apply W_ret | apply W_exit | refine W_true rfl (by assumption) ?_ | refine W_false rfl (by assumption) ?_ | refine W_cond rfl (fun _ => ?_) (fun _ => ?_)))
    exact ⟨.inl rfl, rfl⟩
  | cons r R =>
    apply W_call Try.func61 rfl (Nat.le_of_ble_eq_true rfl) rfl rfl
    (repeat' (first | apply W_seq | refine W_true rfl rfl ?_ | refine W_false rfl rfl ?_ | refine W_region (id := 0) rfl ?_ | (refine W_dops (id := 1) (bs := [0, 1, 0, 4, 0, 16, 60, 127, 255, 255, 1023, 2047]) (by decide +kernel) ?_ <;> (refine U_go rfl ?_; refine H_free (by decide +kernel) rfl rfl rfl rfl rfl ?_) <;> (refine U_go rfl ?_; refine H_free (by decide +kernel) rfl rfl rfl rfl rfl ?_) <;> (refine U_go rfl ?_; refine H_free (by decide +kernel) rfl rfl rfl rfl rfl ?_) <;> (refine U_go rfl ?_; first | refine H_free (by decide +kernel) rfl (O_call rfl rfl rfl rfl (by assumption)) rfl rfl rfl ?_ | refine H_make (by decide +kernel) rfl (O_call rfl rfl rfl rfl (by assumption)) rfl rfl rfl ?_) <;> (refine U_go rfl ?_; refine H_free (by decide +kernel) rfl rfl rfl rfl rfl ?_) <;> (refine U_go rfl ?_; refine H_free (by decide +kernel) rfl rfl rfl rfl rfl ?_) <;> (refine U_go rfl ?_; first | refine H_free (by decide +kernel) rfl (O_call rfl rfl rfl rfl (by assumption)) rfl rfl rfl ?_ | refine H_make (by decide +kernel) rfl (O_call rfl rfl rfl rfl (by assumption)) rfl rfl rfl ?_) <;> (refine U_go rfl ?_; refine H_op (by decide +kernel) (O_call rfl rfl rfl rfl (by assumption)) ?_) <;> (refine U_go rfl ?_; refine H_free (by decide +kernel) rfl rfl rfl rfl rfl ?_) <;> (refine U_go rfl ?_; refine H_free (by decide +kernel) rfl rfl rfl rfl rfl ?_) <;> (refine U_go rfl ?_; refine H_op (by decide +kernel) rfl ?_) <;> (refine U_go rfl ?_; refine H_op (by decide +kernel) rfl ?_) <;> apply U_nil) | apply W_skip | apply W_block | apply W_ret | apply W_exit | refine W_true rfl (by assumption) ?_ | refine W_false rfl (by assumption) ?_ | refine W_cond rfl (fun _ => ?_) (fun _ => ?_)))
    exact ⟨.inl rfl, rfl⟩
def mrS (h : Heap) (lv v : AV) (i : Int) (rows : List (List AV)) : St :=
  { env := [(4, .v lv), (5, .v v), (6, .v (accA h 3 rows)), (7, .v (.int .i64 i))], loc := [], heap := accH h 89 rows, inRound := false, lo := h.length }
set_option maxHeartbeats 1000000 in
theorem movedR_run (p : Pr') (k : Nat) (hk : smsK p.body + p.vars.length + 1320 ≤ k) (hN : smsN p.body ≤ 600) (hb : prB p) (hv1 : 1 ≤ p.vars.length) (hv2 : p.vars.length ≤ 18) (hvm : vmL p.vars.length p.body) (hB : lvsB (levs p)) (h : Heap) (lo : Nat) :
    call Try.prog cfg (k + 1) lo (.func 24) [.agg (prC p)] h = some (.tup [.vs 1 (intsC (lastR p)), accV 3 ((plsR p).flatMap flPl)], h) := by
  have hP := places_run p (k - 1) (by omega) hN hb hv1 hv2 hvm hB h h.length
  rw [show k - 1 + 1 = k by omega] at hP
  have hok := plL_ok (K := smsK p.body) (mvR_ok p.vars p.vars.length) p.body (levs p) 0 0 (Nat.le_refl _) hb.2.2 hvm (levs_len p) hB lvB0
  have hlen := plL_len (putR p.vars) ofA p.body (levs p) 0 0
  have e1 : plsR p = plL (putR p.vars) ofA p.body (levs p) 0 0 := rfl
  rw [← e1] at hok hlen
  generalize lastR p = M at hP ⊢
  generalize plsR p = pls at hP hok hlen ⊢
  have hz := acc_frzA (h := h) (e := 89) _ (flPls_row pls)
  have hfl := flPls_len pls
  have hrw := flPls_row pls
  have hfin := hand_two (h := h) (H := accH h 89 (pls.flatMap flPl)) (a := .vs 1 (intsC M)) (b := accA h 3 (pls.flatMap flPl)) rfl hz (fun _ => by simp) (fun _ => by cases pls.flatMap flPl <;> simp [accA])
  generalize hm : p.vars.length = m at hok
  obtain ⟨w, vs, body⟩ := p
  dsimp only at hlen hk hN hm hok
  cases hpl : pls with
  | nil =>
    rw [hpl] at hP
    apply W_call Try.func24 rfl (Nat.le_of_ble_eq_true rfl) rfl rfl
    (repeat' (first | apply W_seq | refine W_true rfl rfl ?_ | refine W_false rfl rfl ?_ | refine W_region (id := 0) rfl ?_ | (refine W_ops (id := 1) ?_ <;> refine T_ch 1 rfl ?_ <;> (refine T_go rfl ?_; refine G_op (O_call rfl rfl rfl rfl (by assumption)) ?_) <;> refine T_ch 5 rfl ?_ <;> apply T_nil) | refine W_region (id := 2) rfl ?_ | refine W_region (id := 3) rfl ?_ | apply W_skip | apply W_block | apply W_ret | apply W_exit | refine W_true rfl (by assumption) ?_ | refine W_false rfl (by assumption) ?_ | refine W_cond rfl (fun _ => ?_) (fun _ => ?_)))
    apply W_iter (S := mrS h (.vs 1 (intsC M)) .nils) (l := ([] : List Nat)) (a0 := []) (fun _ a => a = []) (by simp) (by simp; omega) rfl rfl
    · intro i st rest a hi; simp at hi
    · intro a hJ
      subst hJ
      (repeat' (first | apply W_seq | refine W_true rfl rfl ?_ | refine W_false rfl rfl ?_ | (refine W_ops (id := 4) ?_ <;> refine T_ch 3 rfl ?_ <;> (refine T_go rfl ?_; first | refine G_true rfl rfl ?_ | refine G_false rfl rfl ?_ | refine G_true rfl (by with_reducible assumption) ?_ | refine G_false rfl (by with_reducible assumption) ?_ | refine G_true rfl (by assumption) ?_ | refine G_false rfl (by assumption) ?_ | refine G_split rfl (fun _ => ?_) (fun _ => ?_)) <;> apply T_nil) | refine W_region (id := 9) rfl ?_ | apply W_skip | apply W_block | apply W_ret | apply W_exit | refine W_true rfl (by assumption) ?_ | refine W_false rfl (by assumption) ?_ | refine W_cond rfl (fun _ => ?_) (fun _ => ?_)))
      exact ⟨.inl rfl, rfl⟩
  | cons p0 pls0 =>
    rw [← hpl]
    have hacc : accV 8 (pls.map plC) = .vs 8 (pls.map plC) := by subst hpl; rfl
    rw [hacc] at hP
    have hll : ((pls.map plC).length : Int) = pls.length := by simp
    generalize hR : pls.flatMap flPl = R at hz hfl hrw hfin ⊢
    apply W_call Try.func24 rfl (Nat.le_of_ble_eq_true rfl) rfl rfl
    (repeat' (first | apply W_seq | refine W_true rfl rfl ?_ | refine W_false rfl rfl ?_ | refine W_region (id := 0) rfl ?_ | (refine W_ops (id := 1) ?_ <;> refine T_ch 1 rfl ?_ <;> (refine T_go rfl ?_; refine G_op (O_call rfl rfl rfl rfl (by assumption)) ?_) <;> refine T_ch 5 rfl ?_ <;> apply T_nil) | refine W_region (id := 2) rfl ?_ | refine W_region (id := 3) rfl ?_ | apply W_skip | apply W_block | apply W_ret | apply W_exit | refine W_true rfl (by assumption) ?_ | refine W_false rfl (by assumption) ?_ | refine W_cond rfl (fun _ => ?_) (fun _ => ?_)))
    apply W_iterI (S := mrS h (.vs 1 (intsC M)) (.vs 8 (pls.map plC))) (l := pls) (a0 := []) (fun i rest a => a ++ rest.flatMap flPl = R) (by omega) (by omega) rfl (by simpa using hR)
    · intro i x rest a hi hd hil hJ
      have hlt : decide ((i : Int) < ((pls.map plC).length : Int)) = true := decide_eq_true (by rw [hll]; omega)
      have hrow : (pls.map plC)[i]? = some (plC x) := by rw [List.getElem?_map, hi]; rfl
      have hxo := hok x (List.mem_of_getElem? hi)
      rw [List.flatMap_cons, ← List.append_assoc] at hJ
      have q1 : ∀ r, r ∈ a → r.length = 3 := fun r hr => (hrw r (by rw [← hJ]; simp [hr])).1
      have q2 := congrArg List.length hJ
      rw [List.length_append, List.length_append] at q2
      have hap := fl_append h a (flPl x) q1 (by omega)
      obtain ⟨n, ⟨op, nn, ar, t, e⟩, lv, rd⟩ := x
      obtain ⟨o1, o2, o3, o4, o5⟩ := hxo
      have hla := exsK_len ar
      by_cases h3 : op = 3
      · have c3 : (op == 3) = true := by simp [h3]
        have hA := argsR_run op nn ar t e lv (k - 1) (by omega) o2 o3 (by rw [o5]; exact o4) (accH h 89 a) (accH h 89 a).length
        have hO := or_run (k - 1) (accH h 89 a).length rd (ofEs lv 0 ar) (accH h 89 a)
        have hF := flow_run n (orI rd (ofEs lv 0 ar)) nn (k - 2) (accH h 89 a).length (accH h 89 a)
        rw [show k - 1 + 1 = k by omega] at hA hO
        rw [show k - 2 + 2 = k by omega] at hF
        have hfp : flPl (n, .mk op nn ar t e, lv, rd) = flowL n (orI rd (ofEs lv 0 ar)) nn := by unfold flPl; dsimp only; rw [if_pos h3]
        rw [hfp] at hJ hap
        (repeat' (first | apply W_seq | refine W_true rfl rfl ?_ | refine W_false rfl rfl ?_ | (refine W_ops (id := 4) ?_ <;> refine T_ch 3 rfl ?_ <;> (refine T_go rfl ?_; first | refine G_true rfl rfl ?_ | refine G_false rfl rfl ?_ | refine G_true rfl (by with_reducible assumption) ?_ | refine G_false rfl (by with_reducible assumption) ?_ | refine G_true rfl (by assumption) ?_ | refine G_false rfl (by assumption) ?_ | refine G_split rfl (fun _ => ?_) (fun _ => ?_)) <;> apply T_nil) | refine W_region (id := 5) rfl ?_ | (refine W_ops (id := 6) ?_ <;> refine T_ch 2 rfl ?_ <;> (refine T_go rfl ?_; first | refine G_op (O_index rfl rfl rfl rfl rfl (by assumption)) ?_ | refine G_op (O_indexI rfl rfl rfl rfl rfl (by assumption)) ?_ | refine G_op (O_indexH rfl rfl rfl rfl rfl (by assumption) (by assumption) (by assumption)) ?_ | refine G_op (O_indexHI rfl rfl rfl rfl rfl (by assumption) (by assumption) (by assumption)) ?_ | refine G_op rfl ?_) <;> refine T_ch 2 rfl ?_ <;> (refine T_go rfl ?_; first | refine G_op rfl ?_ | refine G_op (O_loadS rfl rfl rfl rfl (by assumption) rfl rfl) ?_ | refine G_op (O_loadH rfl rfl rfl (by assumption) rfl rfl) ?_ | refine G_op (O_loadH rfl rfl rfl (by assumption) rfl (by assumption)) ?_) <;> refine T_ch 2 rfl ?_ <;> apply T_nil) | (refine W_ops (id := 7) ?_ <;> refine T_ch 2 rfl ?_ <;> (refine T_go rfl ?_; first | refine G_true rfl rfl ?_ | refine G_false rfl rfl ?_ | refine G_true rfl (by with_reducible assumption) ?_ | refine G_false rfl (by with_reducible assumption) ?_ | refine G_true rfl (by assumption) ?_ | refine G_false rfl (by assumption) ?_ | refine G_split rfl (fun _ => ?_) (fun _ => ?_)) <;> apply T_nil) | (refine W_dops (id := 8) (bs := [0, 0, 0, 6, 14, 30, 62, 0, 0, 384, 896, 1920, 0, 0, 12288, 28672, 61440, 0, 258048, 524160, 0, 1048576, 4194302, 8388607, 16777215]) (by decide +kernel) ?_ <;> (refine U_go rfl ?_; refine H_free (by decide +kernel) rfl rfl rfl rfl rfl ?_) <;> (refine U_go rfl ?_; refine H_free (by decide +kernel) rfl rfl rfl rfl rfl ?_) <;> (refine U_go rfl ?_; refine H_free (by decide +kernel) rfl rfl rfl rfl rfl ?_) <;> (refine U_go rfl ?_; first | refine H_free (by decide +kernel) rfl (O_index rfl rfl rfl rfl rfl (by assumption)) rfl rfl rfl ?_ | refine H_free (by decide +kernel) rfl (O_indexI rfl rfl rfl rfl rfl (by assumption)) rfl rfl rfl ?_ | refine H_free (by decide +kernel) rfl (O_indexH rfl rfl rfl rfl rfl (by assumption) (by assumption) (by assumption)) rfl rfl rfl ?_ | refine H_free (by decide +kernel) rfl (O_indexHI rfl rfl rfl rfl rfl (by assumption) (by assumption) (by assumption)) rfl rfl rfl ?_ | refine H_free (by decide +kernel) rfl rfl rfl rfl rfl ?_) <;> (refine U_go rfl ?_; refine H_free (by decide +kernel) rfl rfl rfl rfl rfl ?_) <;> (refine U_go rfl ?_; refine H_free (by decide +kernel) rfl rfl rfl rfl rfl ?_) <;> (refine U_go rfl ?_; first | refine H_free (by decide +kernel) rfl rfl rfl rfl rfl ?_ | refine H_free (by decide +kernel) rfl (O_loadS rfl rfl rfl rfl (by assumption) rfl rfl) rfl rfl rfl ?_ | refine H_free (by decide +kernel) rfl (O_loadH rfl rfl rfl (by assumption) rfl rfl) rfl rfl rfl ?_ | refine H_free (by decide +kernel) rfl (O_loadH rfl rfl rfl (by assumption) rfl (by assumption)) rfl rfl rfl ?_) <;> (refine U_go rfl ?_; refine H_free (by decide +kernel) rfl rfl rfl rfl rfl ?_) <;> (refine U_go rfl ?_; refine H_free (by decide +kernel) rfl rfl rfl rfl rfl ?_) <;> (refine U_go rfl ?_; first | refine H_free (by decide +kernel) rfl (O_index rfl rfl rfl rfl rfl (by assumption)) rfl rfl rfl ?_ | refine H_free (by decide +kernel) rfl (O_indexI rfl rfl rfl rfl rfl (by assumption)) rfl rfl rfl ?_ | refine H_free (by decide +kernel) rfl (O_indexH rfl rfl rfl rfl rfl (by assumption) (by assumption) (by assumption)) rfl rfl rfl ?_ | refine H_free (by decide +kernel) rfl (O_indexHI rfl rfl rfl rfl rfl (by assumption) (by assumption) (by assumption)) rfl rfl rfl ?_ | refine H_free (by decide +kernel) rfl rfl rfl rfl rfl ?_) <;> (refine U_go rfl ?_; refine H_free (by decide +kernel) rfl rfl rfl rfl rfl ?_) <;> (refine U_go rfl ?_; first | refine H_free (by decide +kernel) rfl rfl rfl rfl rfl ?_ | refine H_free (by decide +kernel) rfl (O_loadS rfl rfl rfl rfl (by assumption) rfl rfl) rfl rfl rfl ?_ | refine H_free (by decide +kernel) rfl (O_loadH rfl rfl rfl (by assumption) rfl rfl) rfl rfl rfl ?_ | refine H_free (by decide +kernel) rfl (O_loadH rfl rfl rfl (by assumption) rfl (by assumption)) rfl rfl rfl ?_) <;> (refine U_go rfl ?_; refine H_free (by decide +kernel) rfl rfl rfl rfl rfl ?_) <;> (refine U_go rfl ?_; refine H_free (by decide +kernel) rfl rfl rfl rfl rfl ?_) <;> (refine U_go rfl ?_; first | refine H_free (by decide +kernel) rfl (O_index rfl rfl rfl rfl rfl (by assumption)) rfl rfl rfl ?_ | refine H_free (by decide +kernel) rfl (O_indexI rfl rfl rfl rfl rfl (by assumption)) rfl rfl rfl ?_ | refine H_free (by decide +kernel) rfl (O_indexH rfl rfl rfl rfl rfl (by assumption) (by assumption) (by assumption)) rfl rfl rfl ?_ | refine H_free (by decide +kernel) rfl (O_indexHI rfl rfl rfl rfl rfl (by assumption) (by assumption) (by assumption)) rfl rfl rfl ?_ | refine H_free (by decide +kernel) rfl rfl rfl rfl rfl ?_) <;> (refine U_go rfl ?_; refine H_free (by decide +kernel) rfl rfl rfl rfl rfl ?_) <;> (refine U_go rfl ?_; first | refine H_free (by decide +kernel) rfl rfl rfl rfl rfl ?_ | refine H_free (by decide +kernel) rfl (O_loadS rfl rfl rfl rfl (by assumption) rfl rfl) rfl rfl rfl ?_ | refine H_free (by decide +kernel) rfl (O_loadH rfl rfl rfl (by assumption) rfl rfl) rfl rfl rfl ?_ | refine H_free (by decide +kernel) rfl (O_loadH rfl rfl rfl (by assumption) rfl (by assumption)) rfl rfl rfl ?_) <;> (refine U_go rfl ?_; refine H_free (by decide +kernel) rfl rfl rfl rfl rfl ?_) <;> (refine U_go rfl ?_; first | refine H_free (by decide +kernel) rfl (O_call rfl rfl rfl rfl (by assumption)) rfl rfl rfl ?_ | refine H_make (by decide +kernel) rfl (O_call rfl rfl rfl rfl (by assumption)) rfl rfl rfl ?_) <;> (refine U_go rfl ?_; first | refine H_free (by decide +kernel) rfl (O_call rfl rfl rfl rfl (by assumption)) rfl rfl rfl ?_ | refine H_make (by decide +kernel) rfl (O_call rfl rfl rfl rfl (by assumption)) rfl rfl rfl ?_) <;> (refine U_go rfl ?_; refine H_free (by decide +kernel) rfl rfl rfl rfl rfl ?_) <;> (refine U_go rfl ?_; refine H_free (by decide +kernel) rfl rfl rfl rfl rfl ?_) <;> (refine U_go rfl ?_; first | refine H_free (by decide +kernel) rfl (O_call rfl rfl rfl rfl (by assumption)) rfl rfl rfl ?_ | refine H_make (by decide +kernel) rfl (O_call rfl rfl rfl rfl (by assumption)) rfl rfl rfl ?_) <;> (refine U_go rfl ?_; first | refine H_op (by decide +kernel) (O_append rfl rfl rfl rfl rfl (by assumption)) ?_ | refine H_op (by decide +kernel) rfl ?_) <;> (refine U_go rfl ?_; refine H_op (by decide +kernel) rfl ?_) <;> apply U_nil) | apply W_skip | apply W_block | apply W_ret | apply W_exit | refine W_true rfl (by assumption) ?_ | refine W_false rfl (by assumption) ?_ | refine W_cond rfl (fun _ => ?_) (fun _ => ?_)))
        exact ⟨a ++ flowL n (orI rd (ofEs lv 0 ar)) nn, rfl, hJ⟩
      · have c3 : (op == 3) = false := by simp [h3]
        have hfp : flPl (n, .mk op nn ar t e, lv, rd) = [] := by unfold flPl; dsimp only; rw [if_neg h3]
        rw [hfp, List.append_nil] at hJ
        (repeat' (first | apply W_seq | refine W_true rfl rfl ?_ | refine W_false rfl rfl ?_ | (refine W_ops (id := 4) ?_ <;> refine T_ch 3 rfl ?_ <;> (refine T_go rfl ?_; first | refine G_true rfl rfl ?_ | refine G_false rfl rfl ?_ | refine G_true rfl (by with_reducible assumption) ?_ | refine G_false rfl (by with_reducible assumption) ?_ | refine G_true rfl (by assumption) ?_ | refine G_false rfl (by assumption) ?_ | refine G_split rfl (fun _ => ?_) (fun _ => ?_)) <;> apply T_nil) | refine W_region (id := 5) rfl ?_ | (refine W_ops (id := 6) ?_ <;> refine T_ch 2 rfl ?_ <;> (refine T_go rfl ?_; first | refine G_op (O_index rfl rfl rfl rfl rfl (by assumption)) ?_ | refine G_op (O_indexI rfl rfl rfl rfl rfl (by assumption)) ?_ | refine G_op (O_indexH rfl rfl rfl rfl rfl (by assumption) (by assumption) (by assumption)) ?_ | refine G_op (O_indexHI rfl rfl rfl rfl rfl (by assumption) (by assumption) (by assumption)) ?_ | refine G_op rfl ?_) <;> refine T_ch 2 rfl ?_ <;> (refine T_go rfl ?_; first | refine G_op rfl ?_ | refine G_op (O_loadS rfl rfl rfl rfl (by assumption) rfl rfl) ?_ | refine G_op (O_loadH rfl rfl rfl (by assumption) rfl rfl) ?_ | refine G_op (O_loadH rfl rfl rfl (by assumption) rfl (by assumption)) ?_) <;> refine T_ch 2 rfl ?_ <;> apply T_nil) | (refine W_ops (id := 7) ?_ <;> refine T_ch 2 rfl ?_ <;> (refine T_go rfl ?_; first | refine G_true rfl rfl ?_ | refine G_false rfl rfl ?_ | refine G_true rfl (by with_reducible assumption) ?_ | refine G_false rfl (by with_reducible assumption) ?_ | refine G_true rfl (by assumption) ?_ | refine G_false rfl (by assumption) ?_ | refine G_split rfl (fun _ => ?_) (fun _ => ?_)) <;> apply T_nil) | apply W_skip | apply W_block | apply W_ret | apply W_exit | refine W_true rfl (by assumption) ?_ | refine W_false rfl (by assumption) ?_ | refine W_cond rfl (fun _ => ?_) (fun _ => ?_)))
        exact ⟨a, rfl, hJ⟩
    · intro a hJ
      have hlt : decide ((pls.length : Int) < ((pls.map plC).length : Int)) = false := decide_eq_false (by rw [hll]; omega)
      have : a = R := by simpa using hJ
      subst this
      (repeat' (first | apply W_seq | refine W_true rfl rfl ?_ | refine W_false rfl rfl ?_ | (refine W_ops (id := 4) ?_ <;> refine T_ch 3 rfl ?_ <;> (refine T_go rfl ?_; first | refine G_true rfl rfl ?_ | refine G_false rfl rfl ?_ | refine G_true rfl (by with_reducible assumption) ?_ | refine G_false rfl (by with_reducible assumption) ?_ | refine G_true rfl (by assumption) ?_ | refine G_false rfl (by assumption) ?_ | refine G_split rfl (fun _ => ?_) (fun _ => ?_)) <;> apply T_nil) | refine W_region (id := 9) rfl ?_ | apply W_skip | apply W_block | apply W_ret | apply W_exit | refine W_true rfl (by assumption) ?_ | refine W_false rfl (by assumption) ?_ | refine W_cond rfl (fun _ => ?_) (fun _ => ?_)))
      exact ⟨.inl rfl, hfin⟩
end Go.Proofs.Ytelobnllkhnpaaa.L
/- Types that move, in the program: Clone, together, put, Equal; readers that are shown levels as they are. -/
open Go Go.Proofs Go.Ev Go.Proofs.Ytelobnllkhnpaaa.E
namespace Go.Proofs.Ytelobnllkhnpaaa.L
set_option linter.unusedVariables false
set_option linter.unusedSimpArgs false
set_option maxRecDepth 100000

/-- Levels, as they are handed on. -/
def LvArg (H : Heap) (v : AV) (l : List Int) : Prop := v = .vs 1 (intsC l) ∨ ∃ id, v = .sl id 1 0 l.length ∧ H[id]? = some (.cells 3 (ic l))
theorem LvArg.sl {H : Heap} {id : Nat} {l : List Int} (h : H[id]? = some (.cells 3 (ic l))) : LvArg H (.sl id 1 0 l.length) l := .inr ⟨id, rfl, h⟩
theorem clone_append {H : Heap} {lo : Nat} (hlo : lo ≤ H.length) {v : AV} {l : List Int} (hv : LvArg H v l) (hl : l.length < 100000) :
    append cfg.tab lo (H ++ [.cells 3 []]) 38 (.sl H.length 1 0 0) v = some (.sl H.length 1 0 l.length, H ++ [.cells 3 (ic l)]) := by
  have hg : (H ++ [HObj.cells 3 []])[H.length]? = some (.cells 3 []) := by simp
  have hrow : rowOf (H ++ [HObj.cells 3 []]) 1 v = some (ic l) ∧ lenOf v = some l.length := by
    rcases hv with rfl | ⟨id, rfl, hid⟩
    · simp [rowOf, lenOf, ic_flat, intsC_len]
    · refine ⟨?_, rfl⟩
      have : (H ++ [HObj.cells 3 []])[id]? = some (.cells 3 (ic l)) := by rw [List.getElem?_append_left (cells_lt hid)]; exact hid
      unfold rowOf
      dsimp only
      rw [this]
      dsimp only
      rw [if_pos ⟨rfl, by rw [ic_len]; omega⟩, List.drop_zero]
  unfold append
  rw [show Go.Ev.look cfg.tab 38 = some ⟨.slice 3, 1, 24, [.nils]⟩ from rfl]
  dsimp only
  rw [show Go.Ev.look cfg.tab 3 = some ⟨.int .i64, 1, 8, [.int .i64 0]⟩ from rfl]
  dsimp only
  rw [hrow.1, hrow.2]
  dsimp only
  rw [hg]
  dsimp only
  rw [if_pos ⟨hlo, by trivial, by trivial, by trivial, by trivial, by decide, by simp only [room]; omega, by simp only [room]; omega⟩]
  simp
theorem cloneI_run {H : Heap} {lo : Nat} (hlo : lo ≤ H.length) {v : AV} {l : List Int} (hv : LvArg H v l) (hne : l ≠ []) (hl : l.length < 100000) (k : Nat) :
    call Try.prog cfg (k + 1) lo (.func 118) [v] H = some (.sl H.length 1 0 l.length, H ++ [.cells 3 (ic l)]) := by
  have hap := clone_append hlo hv hl
  rcases hv with rfl | ⟨id, rfl, hid⟩
  · cases l with
    | nil => exact absurd rfl hne
    | cons x l =>
      apply W_call Try.func118 rfl (Nat.le_of_ble_eq_true rfl) rfl rfl
      (repeat' (first | apply W_seq | refine W_true rfl rfl ?_ | refine W_false rfl rfl ?_ | refine W_region (id := 0) rfl ?_ | (refine W_ops (id := 1) ?_ <;> refine T_ch 1 rfl ?_ <;> (refine T_go rfl ?_; first | refine G_true rfl rfl ?_ | refine G_false rfl rfl ?_ | refine G_true rfl (by with_reducible assumption) ?_ | refine G_false rfl (by with_reducible assumption) ?_ | refine G_true rfl (by assumption) ?_ | refine G_false rfl (by assumption) ?_ | refine G_split rfl (fun _ => ?_) (fun _ => ?_)) <;> apply T_nil) | refine W_region (id := 2) rfl ?_ | (refine W_ops (id := 3) ?_ <;> refine T_ch 2 rfl ?_ <;> (refine T_go rfl ?_; first | refine G_op (O_append rfl rfl rfl rfl rfl (by assumption)) ?_ | refine G_op rfl ?_) <;> refine T_ch 1 rfl ?_ <;> apply T_nil) | apply W_skip | apply W_block | apply W_ret | apply W_exit | refine W_true rfl (by assumption) ?_ | refine W_false rfl (by assumption) ?_ | refine W_cond rfl (fun _ => ?_) (fun _ => ?_)))
      exact ⟨.inl rfl, rfl⟩
  · apply W_call Try.func118 rfl (Nat.le_of_ble_eq_true rfl) rfl rfl
    (repeat' (first | apply W_seq | refine W_true rfl rfl ?_ | refine W_false rfl rfl ?_ | refine W_region (id := 0) rfl ?_ | (refine W_ops (id := 1) ?_ <;> refine T_ch 1 rfl ?_ <;> (refine T_go rfl ?_; first | refine G_true rfl rfl ?_ | refine G_false rfl rfl ?_ | refine G_true rfl (by with_reducible assumption) ?_ | refine G_false rfl (by with_reducible assumption) ?_ | refine G_true rfl (by assumption) ?_ | refine G_false rfl (by assumption) ?_ | refine G_split rfl (fun _ => ?_) (fun _ => ?_)) <;> apply T_nil) | refine W_region (id := 2) rfl ?_ | (refine W_ops (id := 3) ?_ <;> refine T_ch 2 rfl ?_ <;> (refine T_go rfl ?_; first | refine G_op (O_append rfl rfl rfl rfl rfl (by assumption)) ?_ | refine G_op rfl ?_) <;> refine T_ch 1 rfl ?_ <;> apply T_nil) | apply W_skip | apply W_block | apply W_ret | apply W_exit | refine W_true rfl (by assumption) ?_ | refine W_false rfl (by assumption) ?_ | refine W_cond rfl (fun _ => ?_) (fun _ => ?_)))
    exact ⟨.inl rfl, rfl⟩
def tgS (lo idb q m : Nat) (i : Int) (H : Heap) : St :=
  { env := [(1, .v (.sl idb 1 0 m)), (5, .v (.sl q 1 0 m)), (10, .v (.int .i64 m)), (11, .v (.int .i64 i))], loc := [], heap := H, inRound := false, lo := lo }
theorem tg_step {x y cur : List Int} {i : Nat} {v w : Int} (hv : x[i]? = some v) (hw : y[i]? = some w) (hc : cur = joinL (x.take i) (y.take i) ++ x.drop i) :
    cur[i]? = some v ∧ cur.set i (orI v w) = joinL (x.take (i + 1)) (y.take (i + 1)) ++ x.drop (i + 1) := by
  have hix : i < x.length := by
    rcases Nat.lt_or_ge i x.length with h | h
    · exact h
    · rw [List.getElem?_eq_none h] at hv; cases hv
  have hiy : i < y.length := by
    rcases Nat.lt_or_ge i y.length with h | h
    · exact h
    · rw [List.getElem?_eq_none h] at hw; cases hw
  have hl : (joinL (x.take i) (y.take i)).length = i := by simp [joinL]; omega
  have hd : x.drop i = v :: x.drop (i + 1) := by
    rw [List.drop_eq_getElem_cons hix]
    rw [List.getElem?_eq_getElem hix] at hv
    injection hv with hv; rw [hv]
  subst hc
  constructor
  · rw [List.getElem?_append_right (by omega), hl, Nat.sub_self, hd]; rfl
  · rw [List.set_append_right _ _ (by omega), hl, Nat.sub_self, hd, List.set_cons_zero, take_succ_of hv, take_succ_of hw]
    unfold joinL
    rw [List.zipWith_append (by simp; omega), List.append_assoc]
    rfl
theorem together_run {H : Heap} {lo : Nat} (hlo : lo ≤ H.length) {ida idb : Nat} {x y : List Int} (hx : H[ida]? = some (.cells 3 (ic x))) (hy : H[idb]? = some (.cells 3 (ic y))) {m : Nat} (hxm : x.length = m) (hym : y.length = m) (hm : 1 ≤ m) (hm2 : m < 1000) (k : Nat) (hk : m + 2 < k) :
    call Try.prog cfg (k + 1) lo (.func 119) [.sl ida 1 0 m, .sl idb 1 0 m] H = some (.sl H.length 1 0 m, H ++ [.cells 3 (ic (joinL x y))]) := by
  have hne : x ≠ [] := fun e => by subst e; simp at hxm; omega
  have hC := cloneI_run hlo (LvArg.sl hx) hne (by omega) (k - 1)
  rw [show k - 1 + 1 = k by omega, hxm] at hC
  apply W_call Try.func119 rfl (Nat.le_of_ble_eq_true rfl) rfl rfl
  (repeat' (first | apply W_seq | refine W_true rfl rfl ?_ | refine W_false rfl rfl ?_ | refine W_region (id := 0) rfl ?_ | (refine W_ops (id := 1) ?_ <;> refine T_ch 1 rfl ?_ <;> (refine T_go rfl ?_; refine G_op (O_call rfl rfl rfl rfl (by assumption)) ?_) <;> refine T_ch 1 rfl ?_ <;> apply T_nil) | refine W_region (id := 2) rfl ?_ | apply W_skip | apply W_block | apply W_ret | apply W_exit | refine W_true rfl (by assumption) ?_ | refine W_false rfl (by assumption) ?_ | refine W_cond rfl (fun _ => ?_) (fun _ => ?_)))
  apply W_iterI (S := tgS lo idb H.length m) (l := x) (a0 := H ++ [.cells 3 (ic x)]) (fun i rest H' => ∃ cur, cur = joinL (x.take i) (y.take i) ++ x.drop i ∧ H' = H ++ [.cells 3 (ic cur)]) (by omega) (by omega) rfl ⟨x, by simp [joinL], rfl⟩
  · intro i v rest H' hi hd hil hJ
    obtain ⟨cur, hcur, rfl⟩ := hJ
    have hiy : i < y.length := by omega
    have hw : y[i]? = some y[i] := List.getElem?_eq_getElem hiy
    obtain ⟨c1, c2⟩ := tg_step hi hw hcur
    have hcl : cur.length = m := by rw [hcur]; simp [joinL]; omega
    generalize y[i] = w at hw c2
    have g1 : (H ++ [HObj.cells 3 (ic cur)])[H.length]? = some (.cells 3 (ic cur)) := by simp
    have g2 : (H ++ [HObj.cells 3 (ic cur)])[idb]? = some (.cells 3 (ic y)) := by rw [List.getElem?_append_left (cells_lt hy)]; exact hy
    have hlt : decide ((i : Int) < (m : Int)) = true := decide_eq_true (by omega)
    have him : i < m := by omega
    have l1 : 0 + m * 1 = (ic cur).length := by rw [ic_len]; omega
    have l2 : 0 + m * 1 = (ic y).length := by rw [ic_len]; omega
    have p1 : (ic cur)[0 + i * 1]? = some (.int .i64 v) := by rw [show 0 + i * 1 = i by omega]; exact ic_get c1
    have p2 : (ic y)[0 + i * 1]? = some (.int .i64 w) := by rw [show 0 + i * 1 = i by omega]; exact ic_get hw
    have hs : lo ≤ H.length ∧ (ic cur).length = (ic cur).length ∧ 1 = 1 ∧ (0 + i * 1) + 1 ≤ (ic cur).length := ⟨hlo, rfl, rfl, by rw [ic_len]; omega⟩
    (repeat' (first | apply W_seq | refine W_true rfl rfl ?_ | refine W_false rfl rfl ?_ | (refine W_ops (id := 3) ?_ <;> (refine T_go rfl ?_; first | refine G_true rfl rfl ?_ | refine G_false rfl rfl ?_ | refine G_true rfl (by with_reducible assumption) ?_ | refine G_false rfl (by with_reducible assumption) ?_ | refine G_true rfl (by assumption) ?_ | refine G_false rfl (by assumption) ?_ | refine G_split rfl (fun _ => ?_) (fun _ => ?_)) <;> apply T_nil) | refine W_region (id := 4) rfl ?_ | (refine W_dops (id := 5) (bs := [0, 0, 3, 7, 0, 0, 48, 112, 255, 511, 1023]) (by decide +kernel) ?_ <;> (refine U_go rfl ?_; refine H_free (by decide +kernel) rfl rfl rfl rfl rfl ?_) <;> (refine U_go rfl ?_; refine H_free (by decide +kernel) rfl rfl rfl rfl rfl ?_) <;> (refine U_go rfl ?_; first | refine H_free (by decide +kernel) rfl (O_index rfl rfl rfl rfl rfl (by assumption)) rfl rfl rfl ?_ | refine H_free (by decide +kernel) rfl (O_indexI rfl rfl rfl rfl rfl (by assumption)) rfl rfl rfl ?_ | refine H_free (by decide +kernel) rfl (O_indexH rfl rfl rfl rfl rfl (by assumption) (by assumption) (by assumption)) rfl rfl rfl ?_ | refine H_free (by decide +kernel) rfl (O_indexHI rfl rfl rfl rfl rfl (by assumption) (by assumption) (by assumption)) rfl rfl rfl ?_ | refine H_free (by decide +kernel) rfl rfl rfl rfl rfl ?_) <;> (refine U_go rfl ?_; first | refine H_free (by decide +kernel) rfl rfl rfl rfl rfl ?_ | refine H_free (by decide +kernel) rfl (O_loadS rfl rfl rfl rfl (by assumption) rfl rfl) rfl rfl rfl ?_ | refine H_free (by decide +kernel) rfl (O_loadH rfl rfl rfl (by assumption) rfl rfl) rfl rfl rfl ?_ | refine H_free (by decide +kernel) rfl (O_loadH rfl rfl rfl (by assumption) rfl (by assumption)) rfl rfl rfl ?_) <;> (refine U_go rfl ?_; refine H_free (by decide +kernel) rfl rfl rfl rfl rfl ?_) <;> (refine U_go rfl ?_; refine H_free (by decide +kernel) rfl rfl rfl rfl rfl ?_) <;> (refine U_go rfl ?_; first | refine H_free (by decide +kernel) rfl (O_index rfl rfl rfl rfl rfl (by assumption)) rfl rfl rfl ?_ | refine H_free (by decide +kernel) rfl (O_indexI rfl rfl rfl rfl rfl (by assumption)) rfl rfl rfl ?_ | refine H_free (by decide +kernel) rfl (O_indexH rfl rfl rfl rfl rfl (by assumption) (by assumption) (by assumption)) rfl rfl rfl ?_ | refine H_free (by decide +kernel) rfl (O_indexHI rfl rfl rfl rfl rfl (by assumption) (by assumption) (by assumption)) rfl rfl rfl ?_ | refine H_free (by decide +kernel) rfl rfl rfl rfl rfl ?_) <;> (refine U_go rfl ?_; first | refine H_free (by decide +kernel) rfl rfl rfl rfl rfl ?_ | refine H_free (by decide +kernel) rfl (O_loadS rfl rfl rfl rfl (by assumption) rfl rfl) rfl rfl rfl ?_ | refine H_free (by decide +kernel) rfl (O_loadH rfl rfl rfl (by assumption) rfl rfl) rfl rfl rfl ?_ | refine H_free (by decide +kernel) rfl (O_loadH rfl rfl rfl (by assumption) rfl (by assumption)) rfl rfl rfl ?_) <;> (refine U_go rfl ?_; refine H_op (by decide +kernel) rfl ?_) <;> (refine U_go rfl ?_; first | refine H_op (by decide +kernel) (O_index rfl rfl rfl rfl rfl (by assumption)) ?_ | refine H_op (by decide +kernel) (O_indexI rfl rfl rfl rfl rfl (by assumption)) ?_ | refine H_op (by decide +kernel) (O_indexH rfl rfl rfl rfl rfl (by assumption) (by assumption) (by assumption)) ?_ | refine H_op (by decide +kernel) (O_indexHI rfl rfl rfl rfl rfl (by assumption) (by assumption) (by assumption)) ?_ | refine H_op (by decide +kernel) rfl ?_) <;> (refine U_go rfl ?_; first | refine H_op (by decide +kernel) (O_storeS rfl rfl rfl rfl rfl (by assumption) (by assumption) ⟨rfl, rfl, Nat.le_of_ble_eq_true rfl⟩ rfl) ?_ | refine H_op (by decide +kernel) rfl ?_ | refine H_op (by decide +kernel) (O_storeH rfl rfl rfl rfl (by assumption) ⟨by assumption, rfl, rfl, Nat.le_of_ble_eq_true rfl⟩) ?_ | refine H_op (by decide +kernel) (O_storeH rfl rfl rfl rfl (by assumption) (by assumption)) ?_) <;> apply U_nil) | refine W_region (id := 6) rfl ?_ | apply W_skip | apply W_block | apply W_ret | apply W_exit | refine W_true rfl (by assumption) ?_ | refine W_false rfl (by assumption) ?_ | refine W_cond rfl (fun _ => ?_) (fun _ => ?_)))
    refine ⟨_, rfl, cur.set i (orI v w), c2, ?_⟩
    have : setCells (ic cur) (0 + i * 1) [.int .i64 (orI v w)] = ic (cur.set i (orI v w)) := by rw [show 0 + i * 1 = i by omega]; exact ic_set _ (by omega)
    show (H ++ [HObj.cells 3 (ic cur)]).set H.length (.cells 3 (setCells (ic cur) (0 + i * 1) [.int .i64 (orI v w)])) = _
    rw [this]
    simp
  · intro H' hJ
    obtain ⟨cur, hcur, rfl⟩ := hJ
    have hlt : decide ((x.length : Int) < (m : Int)) = false := decide_eq_false (by omega)
    have : cur = joinL x y := by rw [hcur, List.take_of_length_le (Nat.le_refl _), List.take_of_length_le (by omega), List.drop_eq_nil_of_le (Nat.le_refl _), List.append_nil]
    subst this
    (repeat' (first | apply W_seq | refine W_true rfl rfl ?_ | refine W_false rfl rfl ?_ | (refine W_ops (id := 3) ?_ <;> (refine T_go rfl ?_; first | refine G_true rfl rfl ?_ | refine G_false rfl rfl ?_ | refine G_true rfl (by with_reducible assumption) ?_ | refine G_false rfl (by with_reducible assumption) ?_ | refine G_true rfl (by assumption) ?_ | refine G_false rfl (by assumption) ?_ | refine G_split rfl (fun _ => ?_) (fun _ => ?_)) <;> apply T_nil) | refine W_region (id := 7) rfl ?_ | apply W_skip | apply W_block | apply W_ret | apply W_exit | refine W_true rfl (by assumption) ?_ | refine W_false rfl (by assumption) ?_ | refine W_cond rfl (fun _ => ?_) (fun _ => ?_)))
    exact ⟨.inl rfl, rfl⟩

/-! ### Shown as they are -/
theorem frzM_one {H : Heap} {id : Nat} {l : List Int} (hg : H[id]? = some (.cells 3 (ic l))) {b : AV} (hb : frz2 H 0 b = some b) : frzM H 0 [.sl id 1 0 l.length, b] = some [.vs 1 (intsC l), b] := by
  have h1 : frz2 H 0 (.sl id 1 0 l.length) = some (.vs 1 (intsC l)) := frz_ic hg (Nat.zero_le _)
  simp only [frzM, h1, hb]
theorem ofAllV_run {H : Heap} {id : Nat} {l : List Int} (hg : H[id]? = some (.cells 3 (ic l))) (es : List Ex') (k : Nat) (hk : exsK es ≤ k) (hl : es.length < 9223372036854775808) (hb : exsB es) (hr : rdEs l.length es) (lo : Nat) :
    call Try.prog cfg (k + 2) lo (.func 59) [.sl id 1 0 l.length, .vs 4 (exsC es)] H = some (.int .i64 (ofEs l 0 es), H) :=
  view_call rfl rfl rfl (frzM_one hg rfl) rfl (ofAll_run es l k hk hl hb hr [] 0)
theorem exC_frz2 (H : Heap) (e : Ex') : frz2 H 0 (.agg (exC e)) = some (.agg (exC e)) := by
  obtain ⟨op, n, c, l⟩ := e
  rfl
theorem ofV_run {H : Heap} {id : Nat} {l : List Int} (hg : H[id]? = some (.cells 3 (ic l))) (e : Ex') (k : Nat) (hk : exK e ≤ k) (hb : exB e) (hr : rdE l.length e) (lo : Nat) :
    call Try.prog cfg (k + 1) lo (.func 47) [.sl id 1 0 l.length, .agg (exC e)] H = some (.int .i64 (ofE l e), H) :=
  view_call rfl rfl rfl (frzM_one hg (exC_frz2 H e)) rfl (of_run k e l hk hb hr 0 [])
def eqlS (h : Heap) (x y : AV) (n : Nat) (i : Int) (_ : Unit) : St :=
  { env := [(0, .v x), (1, .v y), (12, .v (.int .i64 n)), (13, .v (.int .i64 i))], loc := [], heap := h, inRound := false, lo := h.length }
theorem equal_run (x y : List Int) (hl : x.length < 100000) (k : Nat) (hk : x.length + 2 < k) (h : Heap) (lo : Nat) :
    call Try.prog cfg (k + 1) lo (.func 121) [.vs 1 (intsC x), .vs 1 (intsC y)] h = some (.bool (decide (x = y)), h) := by
  cases hc : (((intsC x).length : Int) != ((intsC y).length : Int)) with
  | true =>
    have : x ≠ y := fun e => by subst e; simp at hc
    rw [decide_eq_false this]
    apply W_call Try.func121 rfl (Nat.le_of_ble_eq_true rfl) rfl rfl
    (repeat' (first | apply W_seq | refine W_true rfl rfl ?_ | refine W_false rfl rfl ?_ | refine W_region (id := 0) rfl ?_ | (refine W_ops (id := 1) ?_ <;> refine T_ch 4 rfl ?_ <;> (refine T_go rfl ?_; first | refine G_true rfl rfl ?_ | refine G_false rfl rfl ?_ | refine G_true rfl (by with_reducible assumption) ?_ | refine G_false rfl (by with_reducible assumption) ?_ | refine G_true rfl (by assumption) ?_ | refine G_false rfl (by assumption) ?_ | refine G_split rfl (fun _ => ?_) (fun _ => ?_)) <;> apply T_nil) | refine W_region (id := 2) rfl ?_ | apply W_skip | apply W_block | apply W_ret | apply W_exit | refine W_true rfl (by assumption) ?_ | refine W_false rfl (by assumption) ?_ | refine W_cond rfl (fun _ => ?_) (fun _ => ?_)))
    exact ⟨.inl rfl, rfl⟩
  | false =>
    have hxy : x.length = y.length := by
      simp only [intsC_len, bne_eq_false_iff_eq] at hc
      omega
    apply W_call Try.func121 rfl (Nat.le_of_ble_eq_true rfl) rfl rfl
    (repeat' (first | apply W_seq | refine W_true rfl rfl ?_ | refine W_false rfl rfl ?_ | refine W_region (id := 0) rfl ?_ | (refine W_ops (id := 1) ?_ <;> refine T_ch 4 rfl ?_ <;> (refine T_go rfl ?_; first | refine G_true rfl rfl ?_ | refine G_false rfl rfl ?_ | refine G_true rfl (by with_reducible assumption) ?_ | refine G_false rfl (by with_reducible assumption) ?_ | refine G_true rfl (by assumption) ?_ | refine G_false rfl (by assumption) ?_ | refine G_split rfl (fun _ => ?_) (fun _ => ?_)) <;> apply T_nil) | refine W_region (id := 2) rfl ?_ | refine W_region (id := 3) rfl ?_ | apply W_skip | apply W_block | apply W_ret | apply W_exit | refine W_true rfl (by assumption) ?_ | refine W_false rfl (by assumption) ?_ | refine W_cond rfl (fun _ => ?_) (fun _ => ?_)))
    apply W_iterI (S := eqlS h (.vs 1 (intsC x)) (.vs 1 (intsC y)) (intsC x).length) (l := x) (a0 := ()) (fun i rest _ => (rest = y.drop i) = (x = y)) (by omega) (by omega) rfl (by simp)
    · intro i v rest a hi hd hil hJ
      have hrow := intsC_get' hi
      have hiy : i < y.length := by omega
      have hy : y[i]? = some y[i] := List.getElem?_eq_getElem hiy
      have hrow2 := intsC_get' hy
      have hlt := lt_intsL hil
      rw [List.drop_eq_getElem_cons hiy, List.cons.injEq] at hJ
      (repeat' (first | apply W_seq | refine W_true rfl rfl ?_ | refine W_false rfl rfl ?_ | (refine W_ops (id := 4) ?_ <;> (refine T_go rfl ?_; first | refine G_true rfl rfl ?_ | refine G_false rfl rfl ?_ | refine G_true rfl (by with_reducible assumption) ?_ | refine G_false rfl (by with_reducible assumption) ?_ | refine G_true rfl (by assumption) ?_ | refine G_false rfl (by assumption) ?_ | refine G_split rfl (fun _ => ?_) (fun _ => ?_)) <;> apply T_nil) | refine W_region (id := 5) rfl ?_ | (refine W_dops (id := 6) (bs := [0, 0, 3, 7, 0, 0, 48, 112, 255]) (by decide +kernel) ?_ <;> (refine U_go rfl ?_; refine H_free (by decide +kernel) rfl rfl rfl rfl rfl ?_) <;> (refine U_go rfl ?_; refine H_free (by decide +kernel) rfl rfl rfl rfl rfl ?_) <;> (refine U_go rfl ?_; first | refine H_free (by decide +kernel) rfl (O_index rfl rfl rfl rfl rfl (by assumption)) rfl rfl rfl ?_ | refine H_free (by decide +kernel) rfl (O_indexI rfl rfl rfl rfl rfl (by assumption)) rfl rfl rfl ?_ | refine H_free (by decide +kernel) rfl (O_indexH rfl rfl rfl rfl rfl (by assumption) (by assumption) (by assumption)) rfl rfl rfl ?_ | refine H_free (by decide +kernel) rfl (O_indexHI rfl rfl rfl rfl rfl (by assumption) (by assumption) (by assumption)) rfl rfl rfl ?_ | refine H_free (by decide +kernel) rfl rfl rfl rfl rfl ?_) <;> (refine U_go rfl ?_; first | refine H_free (by decide +kernel) rfl rfl rfl rfl rfl ?_ | refine H_free (by decide +kernel) rfl (O_loadS rfl rfl rfl rfl (by assumption) rfl rfl) rfl rfl rfl ?_ | refine H_free (by decide +kernel) rfl (O_loadH rfl rfl rfl (by assumption) rfl rfl) rfl rfl rfl ?_ | refine H_free (by decide +kernel) rfl (O_loadH rfl rfl rfl (by assumption) rfl (by assumption)) rfl rfl rfl ?_) <;> (refine U_go rfl ?_; refine H_free (by decide +kernel) rfl rfl rfl rfl rfl ?_) <;> (refine U_go rfl ?_; refine H_free (by decide +kernel) rfl rfl rfl rfl rfl ?_) <;> (refine U_go rfl ?_; first | refine H_free (by decide +kernel) rfl (O_index rfl rfl rfl rfl rfl (by assumption)) rfl rfl rfl ?_ | refine H_free (by decide +kernel) rfl (O_indexI rfl rfl rfl rfl rfl (by assumption)) rfl rfl rfl ?_ | refine H_free (by decide +kernel) rfl (O_indexH rfl rfl rfl rfl rfl (by assumption) (by assumption) (by assumption)) rfl rfl rfl ?_ | refine H_free (by decide +kernel) rfl (O_indexHI rfl rfl rfl rfl rfl (by assumption) (by assumption) (by assumption)) rfl rfl rfl ?_ | refine H_free (by decide +kernel) rfl rfl rfl rfl rfl ?_) <;> (refine U_go rfl ?_; first | refine H_free (by decide +kernel) rfl rfl rfl rfl rfl ?_ | refine H_free (by decide +kernel) rfl (O_loadS rfl rfl rfl rfl (by assumption) rfl rfl) rfl rfl rfl ?_ | refine H_free (by decide +kernel) rfl (O_loadH rfl rfl rfl (by assumption) rfl rfl) rfl rfl rfl ?_ | refine H_free (by decide +kernel) rfl (O_loadH rfl rfl rfl (by assumption) rfl (by assumption)) rfl rfl rfl ?_) <;> (refine U_go rfl ?_; first | refine H_true (by decide +kernel) rfl rfl ?_ | refine H_false (by decide +kernel) rfl rfl ?_ | refine H_true (by decide +kernel) rfl (by with_reducible assumption) ?_ | refine H_false (by decide +kernel) rfl (by with_reducible assumption) ?_ | refine H_true (by decide +kernel) rfl (by assumption) ?_ | refine H_false (by decide +kernel) rfl (by assumption) ?_ | refine H_split (by decide +kernel) rfl (fun _ => ?_) (fun _ => ?_)) <;> apply U_nil) | refine W_region (id := 7) rfl ?_ | refine W_region (id := 8) rfl ?_ | apply W_skip | apply W_block | apply W_ret | apply W_exit | refine W_true rfl (by assumption) ?_ | refine W_false rfl (by assumption) ?_ | refine W_cond rfl (fun _ => ?_) (fun _ => ?_)))
      · rename_i hne
        simp only [bne_iff_ne, ne_eq] at hne
        refine ⟨.inl rfl, Eq.trans (b := some (AV.bool false, _)) rfl ?_⟩
        rw [decide_eq_false (by rw [← hJ]; exact fun e => hne e.1)]
      · rename_i hne
        simp only [bne_eq_false_iff_eq] at hne
        exact ⟨(), rfl, by rw [← hJ]; simp [hne]⟩
    · intro a hJ
      have hlt := ge_intsL (l := x)
      (repeat' (first | apply W_seq | refine W_true rfl rfl ?_ | refine W_false rfl rfl ?_ | (refine W_ops (id := 4) ?_ <;> (refine T_go rfl ?_; first | refine G_true rfl rfl ?_ | refine G_false rfl rfl ?_ | refine G_true rfl (by with_reducible assumption) ?_ | refine G_false rfl (by with_reducible assumption) ?_ | refine G_true rfl (by assumption) ?_ | refine G_false rfl (by assumption) ?_ | refine G_split rfl (fun _ => ?_) (fun _ => ?_)) <;> apply T_nil) | refine W_region (id := 9) rfl ?_ | apply W_skip | apply W_block | apply W_ret | apply W_exit | refine W_true rfl (by assumption) ?_ | refine W_false rfl (by assumption) ?_ | refine W_cond rfl (fun _ => ?_) (fun _ => ?_)))
      refine ⟨.inl rfl, Eq.trans (b := some (AV.bool true, _)) rfl ?_⟩
      rw [decide_eq_true (by rw [← hJ, hxy]; simp)]
theorem equalV_run {H : Heap} {ida idb : Nat} {x y : List Int} (hx : H[ida]? = some (.cells 3 (ic x))) (hy : H[idb]? = some (.cells 3 (ic y))) (hl : x.length < 100000) (k : Nat) (hk : x.length + 2 < k) (lo : Nat) :
    call Try.prog cfg (k + 2) lo (.func 121) [.sl ida 1 0 x.length, .sl idb 1 0 y.length] H = some (.bool (decide (x = y)), H) := by
  refine view_call (xs := [.vs 1 (intsC x), .vs 1 (intsC y)]) rfl rfl rfl ?_ rfl (equal_run x y hl k hk [] 0)
  have h1 : frz2 H 0 (.sl ida 1 0 x.length) = some (.vs 1 (intsC x)) := frz_ic hx (Nat.zero_le _)
  have h2 : frz2 H 0 (.sl idb 1 0 y.length) = some (.vs 1 (intsC y)) := frz_ic hy (Nat.zero_le _)
  simp only [frzM, h1, h2]
theorem see0_run (k lo : Nat) (a b c d : AV) (h : Heap) (op nn : Int) (ar : List Ex') (t e : List Sm') : call Try.prog cfg (k + 1) lo (.func 120) [a, .agg (smC (.mk op nn ar t e)), c, d] h = some (.tup [], h) := by
  apply W_call Try.func120 rfl (Nat.le_of_ble_eq_true rfl) rfl rfl
  (repeat' (first | apply W_seq | refine W_true rfl rfl ?_ | refine W_false rfl rfl ?_ | refine W_region (id := 0) rfl ?_ | apply W_skip | apply W_block | apply W_ret | apply W_exit | refine W_true rfl (by assumption) ?_ | refine W_false rfl (by assumption) ?_ | refine W_cond rfl (fun _ => ?_) (fun _ => ?_)))
  exact ⟨.inr rfl, rfl⟩

set_option maxHeartbeats 1000000 in
theorem put_run {H : Heap} {id lo : Nat} {lv : List Int} (hg : H[id]? = some (.cells 3 (ic lv))) (hlo : lo ≤ id) {m : Nat} (hm : lv.length = m) (s : Sm') (hv : vm1 m s) (ar : Int) (k : Nat) (hk : smK s + 2 ≤ k) (hb : smB s) :
    call Try.prog cfg (k + 1) lo (.func 122) [.agg (smC s), .sl id 1 0 m, .int .i64 ar] H = some (.tup [], H.set id (.cells 3 (ic (putP lv ar s)))) := by
  obtain ⟨op, nn, a, t, e⟩ := s
  rw [smK] at hk
  rw [smB] at hb
  rw [vm1] at hv
  obtain ⟨⟨ha1, ha2⟩, _⟩ := hb
  have hA := ofAllV_run hg a (k - 2) (by omega) ha1 ha2 (by rw [hm]; exact hv.1) lo
  rw [show k - 2 + 2 = k by omega, hm] at hA
  have hself : H.set id (.cells 3 (ic lv)) = H := by
    have := cells_lt hg
    rw [List.getElem?_eq_getElem this] at hg
    injection hg with hg
    rw [← hg, List.set_getElem_self]
  have hal := exsC_len a
  have hl : 0 + m * 1 = (ic lv).length := by rw [ic_len]; omega
  have hidx : (op = 0 ∨ op = 4) → (0 ≤ nn ∧ nn.toNat < m) := fun ho => by have := hv.2.1 ho; omega
  have hset : ∀ z : Int, nn.toNat < m → H.set id (.cells 3 (setCells (ic lv) (0 + nn.toNat * 1) [.int .i64 z])) = H.set id (.cells 3 (ic (lv.set nn.toNat z))) := fun z hz => by
    rw [show 0 + nn.toNat * 1 = nn.toNat by omega, ic_set _ (by omega)]
  have hpv : nn.toNat < m → (ic lv)[0 + nn.toNat * 1]? = some (.int .i64 (lv.getD nn.toNat 0)) := fun hz => by
    rw [show 0 + nn.toNat * 1 = nn.toNat by omega]
    refine ic_get ?_
    rw [List.getD_eq_getElem?_getD, List.getElem?_eq_getElem (by omega)]; rfl
  have hst : nn.toNat < m → (lo ≤ id ∧ (ic lv).length = (ic lv).length ∧ 1 = 1 ∧ (0 + nn.toNat * 1) + 1 ≤ (ic lv).length) := fun hz => ⟨hlo, rfl, rfl, by rw [ic_len]; omega⟩
  by_cases o0 : op = 0
  · have hj := hidx (.inl o0)
    have p1 := hpv hj.2
    have hs := hst hj.2
    have hset := fun z => hset z hj.2
    clear hidx hpv hst hself
    have c0 : (op == 0) = true := by simp [o0]
    have c0n : (op != 0) = false := by simp [o0]
    have c4 : (op == 4) = false := by simp [o0]
    by_cases l2 : a.length = 2
    · have d2 : (((exsC a).length : Int) == 2) = true := by rw [hal, l2]; rfl
      have hp : putP lv ar (.mk op nn a t e) = lv.set nn.toNat (orI (lv.getD nn.toNat 0) (orI ar (ofEs lv 0 a))) := by
        unfold putP fromP
        dsimp only
        rw [if_pos (.inl o0), if_pos (.inl l2), if_neg (by omega)]
      rw [hp, ← hset]
      apply W_call Try.func122 rfl (Nat.le_of_ble_eq_true rfl) rfl rfl
      (repeat' (first | apply W_seq | refine W_true rfl rfl ?_ | refine W_false rfl rfl ?_ | refine W_region (id := 0) rfl ?_ | (refine W_ops (id := 1) ?_ <;> refine T_ch 4 rfl ?_ <;> (refine T_go rfl ?_; refine G_op (O_call rfl rfl rfl rfl (by assumption)) ?_) <;> refine T_ch 2 rfl ?_ <;> apply T_nil) | (refine W_ops (id := 2) ?_ <;> refine T_ch 3 rfl ?_ <;> (refine T_go rfl ?_; first | refine G_true rfl rfl ?_ | refine G_false rfl rfl ?_ | refine G_true rfl (by with_reducible assumption) ?_ | refine G_false rfl (by with_reducible assumption) ?_ | refine G_true rfl (by assumption) ?_ | refine G_false rfl (by assumption) ?_ | refine G_split rfl (fun _ => ?_) (fun _ => ?_)) <;> refine T_ch 3 rfl ?_ <;> (first | refine T_skip rfl ?_ | (refine T_go rfl ?_; first | refine G_true rfl rfl ?_ | refine G_false rfl rfl ?_ | refine G_true rfl (by with_reducible assumption) ?_ | refine G_false rfl (by with_reducible assumption) ?_ | refine G_true rfl (by assumption) ?_ | refine G_false rfl (by assumption) ?_ | refine G_split rfl (fun _ => ?_) (fun _ => ?_))) <;> refine T_ch 4 rfl ?_ <;> (first | refine T_skip rfl ?_ | (refine T_go rfl ?_; first | refine G_true rfl rfl ?_ | refine G_false rfl rfl ?_ | refine G_true rfl (by with_reducible assumption) ?_ | refine G_false rfl (by with_reducible assumption) ?_ | refine G_true rfl (by assumption) ?_ | refine G_false rfl (by assumption) ?_ | refine G_split rfl (fun _ => ?_) (fun _ => ?_))) <;> refine T_ch 3 rfl ?_ <;> apply T_nil) | (refine W_ops (id := 3) ?_ <;> refine T_ch 2 rfl ?_ <;> (refine T_go rfl ?_; first | refine G_true rfl rfl ?_ | refine G_false rfl rfl ?_ | refine G_true rfl (by with_reducible assumption) ?_ | refine G_false rfl (by with_reducible assumption) ?_ | refine G_true rfl (by assumption) ?_ | refine G_false rfl (by assumption) ?_ | refine G_split rfl (fun _ => ?_) (fun _ => ?_)) <;> apply T_nil) | refine W_region (id := 4) rfl ?_ | (refine W_ops (id := 5) ?_ <;> refine T_ch 4 rfl ?_ <;> (refine T_go rfl ?_; first | refine G_op (O_index rfl rfl rfl rfl rfl (by assumption)) ?_ | refine G_op (O_indexI rfl rfl rfl rfl rfl (by assumption)) ?_ | refine G_op (O_indexH rfl rfl rfl rfl rfl (by assumption) (by assumption) (by assumption)) ?_ | refine G_op (O_indexHI rfl rfl rfl rfl rfl (by assumption) (by assumption) (by assumption)) ?_ | refine G_op rfl ?_) <;> (refine T_go rfl ?_; first | refine G_op (O_storeS rfl rfl rfl rfl rfl (by assumption) (by assumption) ⟨rfl, rfl, Nat.le_of_ble_eq_true rfl⟩ rfl) ?_ | refine G_op rfl ?_ | refine G_op (O_storeH rfl rfl rfl rfl (by assumption) ⟨by assumption, rfl, rfl, Nat.le_of_ble_eq_true rfl⟩) ?_ | refine G_op (O_storeH rfl rfl rfl rfl (by assumption) (by assumption)) ?_) <;> apply T_nil) | (refine W_ops (id := 6) ?_ <;> refine T_ch 2 rfl ?_ <;> (refine T_go rfl ?_; first | refine G_true rfl rfl ?_ | refine G_false rfl rfl ?_ | refine G_true rfl (by with_reducible assumption) ?_ | refine G_false rfl (by with_reducible assumption) ?_ | refine G_true rfl (by assumption) ?_ | refine G_false rfl (by assumption) ?_ | refine G_split rfl (fun _ => ?_) (fun _ => ?_)) <;> refine T_ch 3 rfl ?_ <;> (first | refine T_skip rfl ?_ | (refine T_go rfl ?_; first | refine G_true rfl rfl ?_ | refine G_false rfl rfl ?_ | refine G_true rfl (by with_reducible assumption) ?_ | refine G_false rfl (by with_reducible assumption) ?_ | refine G_true rfl (by assumption) ?_ | refine G_false rfl (by assumption) ?_ | refine G_split rfl (fun _ => ?_) (fun _ => ?_))) <;> refine T_ch 2 rfl ?_ <;> apply T_nil) | refine W_region (id := 7) rfl ?_ | (refine W_ops (id := 8) ?_ <;> refine T_ch 3 rfl ?_ <;> (refine T_go rfl ?_; first | refine G_op (O_index rfl rfl rfl rfl rfl (by assumption)) ?_ | refine G_op (O_indexI rfl rfl rfl rfl rfl (by assumption)) ?_ | refine G_op (O_indexH rfl rfl rfl rfl rfl (by assumption) (by assumption) (by assumption)) ?_ | refine G_op (O_indexHI rfl rfl rfl rfl rfl (by assumption) (by assumption) (by assumption)) ?_ | refine G_op rfl ?_) <;> (refine T_go rfl ?_; first | refine G_op rfl ?_ | refine G_op (O_loadS rfl rfl rfl rfl (by assumption) rfl rfl) ?_ | refine G_op (O_loadH rfl rfl rfl (by assumption) rfl rfl) ?_ | refine G_op (O_loadH rfl rfl rfl (by assumption) rfl (by assumption)) ?_) <;> refine T_ch 2 rfl ?_ <;> (refine T_go rfl ?_; first | refine G_op (O_index rfl rfl rfl rfl rfl (by assumption)) ?_ | refine G_op (O_indexI rfl rfl rfl rfl rfl (by assumption)) ?_ | refine G_op (O_indexH rfl rfl rfl rfl rfl (by assumption) (by assumption) (by assumption)) ?_ | refine G_op (O_indexHI rfl rfl rfl rfl rfl (by assumption) (by assumption) (by assumption)) ?_ | refine G_op rfl ?_) <;> (refine T_go rfl ?_; first | refine G_op (O_storeS rfl rfl rfl rfl rfl (by assumption) (by assumption) ⟨rfl, rfl, Nat.le_of_ble_eq_true rfl⟩ rfl) ?_ | refine G_op rfl ?_ | refine G_op (O_storeH rfl rfl rfl rfl (by assumption) ⟨by assumption, rfl, rfl, Nat.le_of_ble_eq_true rfl⟩) ?_ | refine G_op (O_storeH rfl rfl rfl rfl (by assumption) (by assumption)) ?_) <;> apply T_nil) | apply W_skip | apply W_block | apply W_ret | apply W_exit | refine W_true rfl (by assumption) ?_ | refine W_false rfl (by assumption) ?_ | refine W_cond rfl (fun _ => ?_) (fun _ => ?_)))
      exact ⟨.inr rfl, rfl⟩
    · have d2 : (((exsC a).length : Int) == 2) = false := by rw [hal]; simp; omega
      have hp : putP lv ar (.mk op nn a t e) = lv.set nn.toNat (orI ar (ofEs lv 0 a)) := by
        unfold putP fromP
        dsimp only
        rw [if_pos (.inl o0), if_neg (by omega), if_neg (by omega)]
      rw [hp, ← hset]
      apply W_call Try.func122 rfl (Nat.le_of_ble_eq_true rfl) rfl rfl
      (repeat' (first | apply W_seq | refine W_true rfl rfl ?_ | refine W_false rfl rfl ?_ | refine W_region (id := 0) rfl ?_ | (refine W_ops (id := 1) ?_ <;> refine T_ch 4 rfl ?_ <;> (refine T_go rfl ?_; refine G_op (O_call rfl rfl rfl rfl (by assumption)) ?_) <;> refine T_ch 2 rfl ?_ <;> apply T_nil) | (refine W_ops (id := 2) ?_ <;> refine T_ch 3 rfl ?_ <;> (refine T_go rfl ?_; first | refine G_true rfl rfl ?_ | refine G_false rfl rfl ?_ | refine G_true rfl (by with_reducible assumption) ?_ | refine G_false rfl (by with_reducible assumption) ?_ | refine G_true rfl (by assumption) ?_ | refine G_false rfl (by assumption) ?_ | refine G_split rfl (fun _ => ?_) (fun _ => ?_)) <;> refine T_ch 3 rfl ?_ <;> (first | refine T_skip rfl ?_ | (refine T_go rfl ?_; first | refine G_true rfl rfl ?_ | refine G_false rfl rfl ?_ | refine G_true rfl (by with_reducible assumption) ?_ | refine G_false rfl (by with_reducible assumption) ?_ | refine G_true rfl (by assumption) ?_ | refine G_false rfl (by assumption) ?_ | refine G_split rfl (fun _ => ?_) (fun _ => ?_))) <;> refine T_ch 4 rfl ?_ <;> (first | refine T_skip rfl ?_ | (refine T_go rfl ?_; first | refine G_true rfl rfl ?_ | refine G_false rfl rfl ?_ | refine G_true rfl (by with_reducible assumption) ?_ | refine G_false rfl (by with_reducible assumption) ?_ | refine G_true rfl (by assumption) ?_ | refine G_false rfl (by assumption) ?_ | refine G_split rfl (fun _ => ?_) (fun _ => ?_))) <;> refine T_ch 3 rfl ?_ <;> apply T_nil) | (refine W_ops (id := 3) ?_ <;> refine T_ch 2 rfl ?_ <;> (refine T_go rfl ?_; first | refine G_true rfl rfl ?_ | refine G_false rfl rfl ?_ | refine G_true rfl (by with_reducible assumption) ?_ | refine G_false rfl (by with_reducible assumption) ?_ | refine G_true rfl (by assumption) ?_ | refine G_false rfl (by assumption) ?_ | refine G_split rfl (fun _ => ?_) (fun _ => ?_)) <;> apply T_nil) | refine W_region (id := 4) rfl ?_ | (refine W_ops (id := 5) ?_ <;> refine T_ch 4 rfl ?_ <;> (refine T_go rfl ?_; first | refine G_op (O_index rfl rfl rfl rfl rfl (by assumption)) ?_ | refine G_op (O_indexI rfl rfl rfl rfl rfl (by assumption)) ?_ | refine G_op (O_indexH rfl rfl rfl rfl rfl (by assumption) (by assumption) (by assumption)) ?_ | refine G_op (O_indexHI rfl rfl rfl rfl rfl (by assumption) (by assumption) (by assumption)) ?_ | refine G_op rfl ?_) <;> (refine T_go rfl ?_; first | refine G_op (O_storeS rfl rfl rfl rfl rfl (by assumption) (by assumption) ⟨rfl, rfl, Nat.le_of_ble_eq_true rfl⟩ rfl) ?_ | refine G_op rfl ?_ | refine G_op (O_storeH rfl rfl rfl rfl (by assumption) ⟨by assumption, rfl, rfl, Nat.le_of_ble_eq_true rfl⟩) ?_ | refine G_op (O_storeH rfl rfl rfl rfl (by assumption) (by assumption)) ?_) <;> apply T_nil) | (refine W_ops (id := 6) ?_ <;> refine T_ch 2 rfl ?_ <;> (refine T_go rfl ?_; first | refine G_true rfl rfl ?_ | refine G_false rfl rfl ?_ | refine G_true rfl (by with_reducible assumption) ?_ | refine G_false rfl (by with_reducible assumption) ?_ | refine G_true rfl (by assumption) ?_ | refine G_false rfl (by assumption) ?_ | refine G_split rfl (fun _ => ?_) (fun _ => ?_)) <;> refine T_ch 3 rfl ?_ <;> (first | refine T_skip rfl ?_ | (refine T_go rfl ?_; first | refine G_true rfl rfl ?_ | refine G_false rfl rfl ?_ | refine G_true rfl (by with_reducible assumption) ?_ | refine G_false rfl (by with_reducible assumption) ?_ | refine G_true rfl (by assumption) ?_ | refine G_false rfl (by assumption) ?_ | refine G_split rfl (fun _ => ?_) (fun _ => ?_))) <;> refine T_ch 2 rfl ?_ <;> apply T_nil) | refine W_region (id := 7) rfl ?_ | (refine W_ops (id := 8) ?_ <;> refine T_ch 3 rfl ?_ <;> (refine T_go rfl ?_; first | refine G_op (O_index rfl rfl rfl rfl rfl (by assumption)) ?_ | refine G_op (O_indexI rfl rfl rfl rfl rfl (by assumption)) ?_ | refine G_op (O_indexH rfl rfl rfl rfl rfl (by assumption) (by assumption) (by assumption)) ?_ | refine G_op (O_indexHI rfl rfl rfl rfl rfl (by assumption) (by assumption) (by assumption)) ?_ | refine G_op rfl ?_) <;> (refine T_go rfl ?_; first | refine G_op rfl ?_ | refine G_op (O_loadS rfl rfl rfl rfl (by assumption) rfl rfl) ?_ | refine G_op (O_loadH rfl rfl rfl (by assumption) rfl rfl) ?_ | refine G_op (O_loadH rfl rfl rfl (by assumption) rfl (by assumption)) ?_) <;> refine T_ch 2 rfl ?_ <;> (refine T_go rfl ?_; first | refine G_op (O_index rfl rfl rfl rfl rfl (by assumption)) ?_ | refine G_op (O_indexI rfl rfl rfl rfl rfl (by assumption)) ?_ | refine G_op (O_indexH rfl rfl rfl rfl rfl (by assumption) (by assumption) (by assumption)) ?_ | refine G_op (O_indexHI rfl rfl rfl rfl rfl (by assumption) (by assumption) (by assumption)) ?_ | refine G_op rfl ?_) <;> (refine T_go rfl ?_; first | refine G_op (O_storeS rfl rfl rfl rfl rfl (by assumption) (by assumption) ⟨rfl, rfl, Nat.le_of_ble_eq_true rfl⟩ rfl) ?_ | refine G_op rfl ?_ | refine G_op (O_storeH rfl rfl rfl rfl (by assumption) ⟨by assumption, rfl, rfl, Nat.le_of_ble_eq_true rfl⟩) ?_ | refine G_op (O_storeH rfl rfl rfl rfl (by assumption) (by assumption)) ?_) <;> apply T_nil) | apply W_skip | apply W_block | apply W_ret | apply W_exit | refine W_true rfl (by assumption) ?_ | refine W_false rfl (by assumption) ?_ | refine W_cond rfl (fun _ => ?_) (fun _ => ?_)))
      exact ⟨.inr rfl, rfl⟩
  by_cases o4 : op = 4
  · have hj := hidx (.inr o4)
    have p1 := hpv hj.2
    have hs := hst hj.2
    have hset := fun z => hset z hj.2
    clear hidx hpv hst hself
    have c0 : (op == 0) = false := by simp [o0]
    have c0n : (op != 0) = true := by simp [o0]
    have c4 : (op == 4) = true := by simp [o4]
    have c4n : (op != 4) = false := by simp [o4]
    by_cases l2 : a.length = 2
    · have d2 : (((exsC a).length : Int) == 2) = true := by rw [hal, l2]; rfl
      have hp : putP lv ar (.mk op nn a t e) = lv.set nn.toNat (orI (lv.getD nn.toNat 0) (orI (orI ar (ofEs lv 0 a)) 16)) := by
        unfold putP fromP
        dsimp only
        rw [if_pos (.inr o4), if_pos (.inl l2), if_pos o4]
      rw [hp, ← hset]
      apply W_call Try.func122 rfl (Nat.le_of_ble_eq_true rfl) rfl rfl
      (repeat' (first | apply W_seq | refine W_true rfl rfl ?_ | refine W_false rfl rfl ?_ | refine W_region (id := 0) rfl ?_ | (refine W_ops (id := 1) ?_ <;> refine T_ch 4 rfl ?_ <;> (refine T_go rfl ?_; refine G_op (O_call rfl rfl rfl rfl (by assumption)) ?_) <;> refine T_ch 2 rfl ?_ <;> apply T_nil) | (refine W_ops (id := 2) ?_ <;> refine T_ch 3 rfl ?_ <;> (refine T_go rfl ?_; first | refine G_true rfl rfl ?_ | refine G_false rfl rfl ?_ | refine G_true rfl (by with_reducible assumption) ?_ | refine G_false rfl (by with_reducible assumption) ?_ | refine G_true rfl (by assumption) ?_ | refine G_false rfl (by assumption) ?_ | refine G_split rfl (fun _ => ?_) (fun _ => ?_)) <;> refine T_ch 3 rfl ?_ <;> (first | refine T_skip rfl ?_ | (refine T_go rfl ?_; first | refine G_true rfl rfl ?_ | refine G_false rfl rfl ?_ | refine G_true rfl (by with_reducible assumption) ?_ | refine G_false rfl (by with_reducible assumption) ?_ | refine G_true rfl (by assumption) ?_ | refine G_false rfl (by assumption) ?_ | refine G_split rfl (fun _ => ?_) (fun _ => ?_))) <;> refine T_ch 4 rfl ?_ <;> (first | refine T_skip rfl ?_ | (refine T_go rfl ?_; first | refine G_true rfl rfl ?_ | refine G_false rfl rfl ?_ | refine G_true rfl (by with_reducible assumption) ?_ | refine G_false rfl (by with_reducible assumption) ?_ | refine G_true rfl (by assumption) ?_ | refine G_false rfl (by assumption) ?_ | refine G_split rfl (fun _ => ?_) (fun _ => ?_))) <;> refine T_ch 3 rfl ?_ <;> apply T_nil) | (refine W_ops (id := 3) ?_ <;> refine T_ch 2 rfl ?_ <;> (refine T_go rfl ?_; first | refine G_true rfl rfl ?_ | refine G_false rfl rfl ?_ | refine G_true rfl (by with_reducible assumption) ?_ | refine G_false rfl (by with_reducible assumption) ?_ | refine G_true rfl (by assumption) ?_ | refine G_false rfl (by assumption) ?_ | refine G_split rfl (fun _ => ?_) (fun _ => ?_)) <;> apply T_nil) | refine W_region (id := 4) rfl ?_ | (refine W_ops (id := 5) ?_ <;> refine T_ch 4 rfl ?_ <;> (refine T_go rfl ?_; first | refine G_op (O_index rfl rfl rfl rfl rfl (by assumption)) ?_ | refine G_op (O_indexI rfl rfl rfl rfl rfl (by assumption)) ?_ | refine G_op (O_indexH rfl rfl rfl rfl rfl (by assumption) (by assumption) (by assumption)) ?_ | refine G_op (O_indexHI rfl rfl rfl rfl rfl (by assumption) (by assumption) (by assumption)) ?_ | refine G_op rfl ?_) <;> (refine T_go rfl ?_; first | refine G_op (O_storeS rfl rfl rfl rfl rfl (by assumption) (by assumption) ⟨rfl, rfl, Nat.le_of_ble_eq_true rfl⟩ rfl) ?_ | refine G_op rfl ?_ | refine G_op (O_storeH rfl rfl rfl rfl (by assumption) ⟨by assumption, rfl, rfl, Nat.le_of_ble_eq_true rfl⟩) ?_ | refine G_op (O_storeH rfl rfl rfl rfl (by assumption) (by assumption)) ?_) <;> apply T_nil) | (refine W_ops (id := 6) ?_ <;> refine T_ch 2 rfl ?_ <;> (refine T_go rfl ?_; first | refine G_true rfl rfl ?_ | refine G_false rfl rfl ?_ | refine G_true rfl (by with_reducible assumption) ?_ | refine G_false rfl (by with_reducible assumption) ?_ | refine G_true rfl (by assumption) ?_ | refine G_false rfl (by assumption) ?_ | refine G_split rfl (fun _ => ?_) (fun _ => ?_)) <;> refine T_ch 3 rfl ?_ <;> (first | refine T_skip rfl ?_ | (refine T_go rfl ?_; first | refine G_true rfl rfl ?_ | refine G_false rfl rfl ?_ | refine G_true rfl (by with_reducible assumption) ?_ | refine G_false rfl (by with_reducible assumption) ?_ | refine G_true rfl (by assumption) ?_ | refine G_false rfl (by assumption) ?_ | refine G_split rfl (fun _ => ?_) (fun _ => ?_))) <;> refine T_ch 2 rfl ?_ <;> apply T_nil) | refine W_region (id := 7) rfl ?_ | (refine W_ops (id := 8) ?_ <;> refine T_ch 3 rfl ?_ <;> (refine T_go rfl ?_; first | refine G_op (O_index rfl rfl rfl rfl rfl (by assumption)) ?_ | refine G_op (O_indexI rfl rfl rfl rfl rfl (by assumption)) ?_ | refine G_op (O_indexH rfl rfl rfl rfl rfl (by assumption) (by assumption) (by assumption)) ?_ | refine G_op (O_indexHI rfl rfl rfl rfl rfl (by assumption) (by assumption) (by assumption)) ?_ | refine G_op rfl ?_) <;> (refine T_go rfl ?_; first | refine G_op rfl ?_ | refine G_op (O_loadS rfl rfl rfl rfl (by assumption) rfl rfl) ?_ | refine G_op (O_loadH rfl rfl rfl (by assumption) rfl rfl) ?_ | refine G_op (O_loadH rfl rfl rfl (by assumption) rfl (by assumption)) ?_) <;> refine T_ch 2 rfl ?_ <;> (refine T_go rfl ?_; first | refine G_op (O_index rfl rfl rfl rfl rfl (by assumption)) ?_ | refine G_op (O_indexI rfl rfl rfl rfl rfl (by assumption)) ?_ | refine G_op (O_indexH rfl rfl rfl rfl rfl (by assumption) (by assumption) (by assumption)) ?_ | refine G_op (O_indexHI rfl rfl rfl rfl rfl (by assumption) (by assumption) (by assumption)) ?_ | refine G_op rfl ?_) <;> (refine T_go rfl ?_; first | refine G_op (O_storeS rfl rfl rfl rfl rfl (by assumption) (by assumption) ⟨rfl, rfl, Nat.le_of_ble_eq_true rfl⟩ rfl) ?_ | refine G_op rfl ?_ | refine G_op (O_storeH rfl rfl rfl rfl (by assumption) ⟨by assumption, rfl, rfl, Nat.le_of_ble_eq_true rfl⟩) ?_ | refine G_op (O_storeH rfl rfl rfl rfl (by assumption) (by assumption)) ?_) <;> apply T_nil) | apply W_skip | apply W_block | apply W_ret | apply W_exit | refine W_true rfl (by assumption) ?_ | refine W_false rfl (by assumption) ?_ | refine W_cond rfl (fun _ => ?_) (fun _ => ?_)))
      exact ⟨.inr rfl, rfl⟩
    · have d2 : (((exsC a).length : Int) == 2) = false := by rw [hal]; simp; omega
      by_cases l1 : a.length = 1
      · have d1 : (((exsC a).length : Int) == 1) = true := by rw [hal, l1]; rfl
        have hp : putP lv ar (.mk op nn a t e) = lv.set nn.toNat (orI (lv.getD nn.toNat 0) (orI (orI ar (ofEs lv 0 a)) 16)) := by
          unfold putP fromP
          dsimp only
          rw [if_pos (.inr o4), if_pos (.inr ⟨o4, l1⟩), if_pos o4]
        rw [hp, ← hset]
        apply W_call Try.func122 rfl (Nat.le_of_ble_eq_true rfl) rfl rfl
        (repeat' (first | apply W_seq | refine W_true rfl rfl ?_ | refine W_false rfl rfl ?_ | refine W_region (id := 0) rfl ?_ | (refine W_ops (id := 1) ?_ <;> refine T_ch 4 rfl ?_ <;> (refine T_go rfl ?_; refine G_op (O_call rfl rfl rfl rfl (by assumption)) ?_) <;> refine T_ch 2 rfl ?_ <;> apply T_nil) | (refine W_ops (id := 2) ?_ <;> refine T_ch 3 rfl ?_ <;> (refine T_go rfl ?_; first | refine G_true rfl rfl ?_ | refine G_false rfl rfl ?_ | refine G_true rfl (by with_reducible assumption) ?_ | refine G_false rfl (by with_reducible assumption) ?_ | refine G_true rfl (by assumption) ?_ | refine G_false rfl (by assumption) ?_ | refine G_split rfl (fun _ => ?_) (fun _ => ?_)) <;> refine T_ch 3 rfl ?_ <;> (first | refine T_skip rfl ?_ | (refine T_go rfl ?_; first | refine G_true rfl rfl ?_ | refine G_false rfl rfl ?_ | refine G_true rfl (by with_reducible assumption) ?_ | refine G_false rfl (by with_reducible assumption) ?_ | refine G_true rfl (by assumption) ?_ | refine G_false rfl (by assumption) ?_ | refine G_split rfl (fun _ => ?_) (fun _ => ?_))) <;> refine T_ch 4 rfl ?_ <;> (first | refine T_skip rfl ?_ | (refine T_go rfl ?_; first | refine G_true rfl rfl ?_ | refine G_false rfl rfl ?_ | refine G_true rfl (by with_reducible assumption) ?_ | refine G_false rfl (by with_reducible assumption) ?_ | refine G_true rfl (by assumption) ?_ | refine G_false rfl (by assumption) ?_ | refine G_split rfl (fun _ => ?_) (fun _ => ?_))) <;> refine T_ch 3 rfl ?_ <;> apply T_nil) | (refine W_ops (id := 3) ?_ <;> refine T_ch 2 rfl ?_ <;> (refine T_go rfl ?_; first | refine G_true rfl rfl ?_ | refine G_false rfl rfl ?_ | refine G_true rfl (by with_reducible assumption) ?_ | refine G_false rfl (by with_reducible assumption) ?_ | refine G_true rfl (by assumption) ?_ | refine G_false rfl (by assumption) ?_ | refine G_split rfl (fun _ => ?_) (fun _ => ?_)) <;> apply T_nil) | refine W_region (id := 4) rfl ?_ | (refine W_ops (id := 5) ?_ <;> refine T_ch 4 rfl ?_ <;> (refine T_go rfl ?_; first | refine G_op (O_index rfl rfl rfl rfl rfl (by assumption)) ?_ | refine G_op (O_indexI rfl rfl rfl rfl rfl (by assumption)) ?_ | refine G_op (O_indexH rfl rfl rfl rfl rfl (by assumption) (by assumption) (by assumption)) ?_ | refine G_op (O_indexHI rfl rfl rfl rfl rfl (by assumption) (by assumption) (by assumption)) ?_ | refine G_op rfl ?_) <;> (refine T_go rfl ?_; first | refine G_op (O_storeS rfl rfl rfl rfl rfl (by assumption) (by assumption) ⟨rfl, rfl, Nat.le_of_ble_eq_true rfl⟩ rfl) ?_ | refine G_op rfl ?_ | refine G_op (O_storeH rfl rfl rfl rfl (by assumption) ⟨by assumption, rfl, rfl, Nat.le_of_ble_eq_true rfl⟩) ?_ | refine G_op (O_storeH rfl rfl rfl rfl (by assumption) (by assumption)) ?_) <;> apply T_nil) | (refine W_ops (id := 6) ?_ <;> refine T_ch 2 rfl ?_ <;> (refine T_go rfl ?_; first | refine G_true rfl rfl ?_ | refine G_false rfl rfl ?_ | refine G_true rfl (by with_reducible assumption) ?_ | refine G_false rfl (by with_reducible assumption) ?_ | refine G_true rfl (by assumption) ?_ | refine G_false rfl (by assumption) ?_ | refine G_split rfl (fun _ => ?_) (fun _ => ?_)) <;> refine T_ch 3 rfl ?_ <;> (first | refine T_skip rfl ?_ | (refine T_go rfl ?_; first | refine G_true rfl rfl ?_ | refine G_false rfl rfl ?_ | refine G_true rfl (by with_reducible assumption) ?_ | refine G_false rfl (by with_reducible assumption) ?_ | refine G_true rfl (by assumption) ?_ | refine G_false rfl (by assumption) ?_ | refine G_split rfl (fun _ => ?_) (fun _ => ?_))) <;> refine T_ch 2 rfl ?_ <;> apply T_nil) | refine W_region (id := 7) rfl ?_ | (refine W_ops (id := 8) ?_ <;> refine T_ch 3 rfl ?_ <;> (refine T_go rfl ?_; first | refine G_op (O_index rfl rfl rfl rfl rfl (by assumption)) ?_ | refine G_op (O_indexI rfl rfl rfl rfl rfl (by assumption)) ?_ | refine G_op (O_indexH rfl rfl rfl rfl rfl (by assumption) (by assumption) (by assumption)) ?_ | refine G_op (O_indexHI rfl rfl rfl rfl rfl (by assumption) (by assumption) (by assumption)) ?_ | refine G_op rfl ?_) <;> (refine T_go rfl ?_; first | refine G_op rfl ?_ | refine G_op (O_loadS rfl rfl rfl rfl (by assumption) rfl rfl) ?_ | refine G_op (O_loadH rfl rfl rfl (by assumption) rfl rfl) ?_ | refine G_op (O_loadH rfl rfl rfl (by assumption) rfl (by assumption)) ?_) <;> refine T_ch 2 rfl ?_ <;> (refine T_go rfl ?_; first | refine G_op (O_index rfl rfl rfl rfl rfl (by assumption)) ?_ | refine G_op (O_indexI rfl rfl rfl rfl rfl (by assumption)) ?_ | refine G_op (O_indexH rfl rfl rfl rfl rfl (by assumption) (by assumption) (by assumption)) ?_ | refine G_op (O_indexHI rfl rfl rfl rfl rfl (by assumption) (by assumption) (by assumption)) ?_ | refine G_op rfl ?_) <;> (refine T_go rfl ?_; first | refine G_op (O_storeS rfl rfl rfl rfl rfl (by assumption) (by assumption) ⟨rfl, rfl, Nat.le_of_ble_eq_true rfl⟩ rfl) ?_ | refine G_op rfl ?_ | refine G_op (O_storeH rfl rfl rfl rfl (by assumption) ⟨by assumption, rfl, rfl, Nat.le_of_ble_eq_true rfl⟩) ?_ | refine G_op (O_storeH rfl rfl rfl rfl (by assumption) (by assumption)) ?_) <;> apply T_nil) | apply W_skip | apply W_block | apply W_ret | apply W_exit | refine W_true rfl (by assumption) ?_ | refine W_false rfl (by assumption) ?_ | refine W_cond rfl (fun _ => ?_) (fun _ => ?_)))
        exact ⟨.inr rfl, rfl⟩
      · have d1 : (((exsC a).length : Int) == 1) = false := by rw [hal]; simp; omega
        have hp : putP lv ar (.mk op nn a t e) = lv.set nn.toNat (orI (orI ar (ofEs lv 0 a)) 16) := by
          unfold putP fromP
          dsimp only
          rw [if_pos (.inr o4), if_neg (by omega), if_pos o4]
        rw [hp, ← hset]
        apply W_call Try.func122 rfl (Nat.le_of_ble_eq_true rfl) rfl rfl
        (repeat' (first | apply W_seq | refine W_true rfl rfl ?_ | refine W_false rfl rfl ?_ | refine W_region (id := 0) rfl ?_ | (refine W_ops (id := 1) ?_ <;> refine T_ch 4 rfl ?_ <;> (refine T_go rfl ?_; refine G_op (O_call rfl rfl rfl rfl (by assumption)) ?_) <;> refine T_ch 2 rfl ?_ <;> apply T_nil) | (refine W_ops (id := 2) ?_ <;> refine T_ch 3 rfl ?_ <;> (refine T_go rfl ?_; first | refine G_true rfl rfl ?_ | refine G_false rfl rfl ?_ | refine G_true rfl (by with_reducible assumption) ?_ | refine G_false rfl (by with_reducible assumption) ?_ | refine G_true rfl (by assumption) ?_ | refine G_false rfl (by assumption) ?_ | refine G_split rfl (fun _ => ?_) (fun _ => ?_)) <;> refine T_ch 3 rfl ?_ <;> (first | refine T_skip rfl ?_ | (refine T_go rfl ?_; first | refine G_true rfl rfl ?_ | refine G_false rfl rfl ?_ | refine G_true rfl (by with_reducible assumption) ?_ | refine G_false rfl (by with_reducible assumption) ?_ | refine G_true rfl (by assumption) ?_ | refine G_false rfl (by assumption) ?_ | refine G_split rfl (fun _ => ?_) (fun _ => ?_))) <;> refine T_ch 4 rfl ?_ <;> (first | refine T_skip rfl ?_ | (refine T_go rfl ?_; first | refine G_true rfl rfl ?_ | refine G_false rfl rfl ?_ | refine G_true rfl (by with_reducible assumption) ?_ | refine G_false rfl (by with_reducible assumption) ?_ | refine G_true rfl (by assumption) ?_ | refine G_false rfl (by assumption) ?_ | refine G_split rfl (fun _ => ?_) (fun _ => ?_))) <;> refine T_ch 3 rfl ?_ <;> apply T_nil) | (refine W_ops (id := 3) ?_ <;> refine T_ch 2 rfl ?_ <;> (refine T_go rfl ?_; first | refine G_true rfl rfl ?_ | refine G_false rfl rfl ?_ | refine G_true rfl (by with_reducible assumption) ?_ | refine G_false rfl (by with_reducible assumption) ?_ | refine G_true rfl (by assumption) ?_ | refine G_false rfl (by assumption) ?_ | refine G_split rfl (fun _ => ?_) (fun _ => ?_)) <;> apply T_nil) | refine W_region (id := 4) rfl ?_ | (refine W_ops (id := 5) ?_ <;> refine T_ch 4 rfl ?_ <;> (refine T_go rfl ?_; first | refine G_op (O_index rfl rfl rfl rfl rfl (by assumption)) ?_ | refine G_op (O_indexI rfl rfl rfl rfl rfl (by assumption)) ?_ | refine G_op (O_indexH rfl rfl rfl rfl rfl (by assumption) (by assumption) (by assumption)) ?_ | refine G_op (O_indexHI rfl rfl rfl rfl rfl (by assumption) (by assumption) (by assumption)) ?_ | refine G_op rfl ?_) <;> (refine T_go rfl ?_; first | refine G_op (O_storeS rfl rfl rfl rfl rfl (by assumption) (by assumption) ⟨rfl, rfl, Nat.le_of_ble_eq_true rfl⟩ rfl) ?_ | refine G_op rfl ?_ | refine G_op (O_storeH rfl rfl rfl rfl (by assumption) ⟨by assumption, rfl, rfl, Nat.le_of_ble_eq_true rfl⟩) ?_ | refine G_op (O_storeH rfl rfl rfl rfl (by assumption) (by assumption)) ?_) <;> apply T_nil) | (refine W_ops (id := 6) ?_ <;> refine T_ch 2 rfl ?_ <;> (refine T_go rfl ?_; first | refine G_true rfl rfl ?_ | refine G_false rfl rfl ?_ | refine G_true rfl (by with_reducible assumption) ?_ | refine G_false rfl (by with_reducible assumption) ?_ | refine G_true rfl (by assumption) ?_ | refine G_false rfl (by assumption) ?_ | refine G_split rfl (fun _ => ?_) (fun _ => ?_)) <;> refine T_ch 3 rfl ?_ <;> (first | refine T_skip rfl ?_ | (refine T_go rfl ?_; first | refine G_true rfl rfl ?_ | refine G_false rfl rfl ?_ | refine G_true rfl (by with_reducible assumption) ?_ | refine G_false rfl (by with_reducible assumption) ?_ | refine G_true rfl (by assumption) ?_ | refine G_false rfl (by assumption) ?_ | refine G_split rfl (fun _ => ?_) (fun _ => ?_))) <;> refine T_ch 2 rfl ?_ <;> apply T_nil) | refine W_region (id := 7) rfl ?_ | (refine W_ops (id := 8) ?_ <;> refine T_ch 3 rfl ?_ <;> (refine T_go rfl ?_; first | refine G_op (O_index rfl rfl rfl rfl rfl (by assumption)) ?_ | refine G_op (O_indexI rfl rfl rfl rfl rfl (by assumption)) ?_ | refine G_op (O_indexH rfl rfl rfl rfl rfl (by assumption) (by assumption) (by assumption)) ?_ | refine G_op (O_indexHI rfl rfl rfl rfl rfl (by assumption) (by assumption) (by assumption)) ?_ | refine G_op rfl ?_) <;> (refine T_go rfl ?_; first | refine G_op rfl ?_ | refine G_op (O_loadS rfl rfl rfl rfl (by assumption) rfl rfl) ?_ | refine G_op (O_loadH rfl rfl rfl (by assumption) rfl rfl) ?_ | refine G_op (O_loadH rfl rfl rfl (by assumption) rfl (by assumption)) ?_) <;> refine T_ch 2 rfl ?_ <;> (refine T_go rfl ?_; first | refine G_op (O_index rfl rfl rfl rfl rfl (by assumption)) ?_ | refine G_op (O_indexI rfl rfl rfl rfl rfl (by assumption)) ?_ | refine G_op (O_indexH rfl rfl rfl rfl rfl (by assumption) (by assumption) (by assumption)) ?_ | refine G_op (O_indexHI rfl rfl rfl rfl rfl (by assumption) (by assumption) (by assumption)) ?_ | refine G_op rfl ?_) <;> (refine T_go rfl ?_; first | refine G_op (O_storeS rfl rfl rfl rfl rfl (by assumption) (by assumption) ⟨rfl, rfl, Nat.le_of_ble_eq_true rfl⟩ rfl) ?_ | refine G_op rfl ?_ | refine G_op (O_storeH rfl rfl rfl rfl (by assumption) ⟨by assumption, rfl, rfl, Nat.le_of_ble_eq_true rfl⟩) ?_ | refine G_op (O_storeH rfl rfl rfl rfl (by assumption) (by assumption)) ?_) <;> apply T_nil) | apply W_skip | apply W_block | apply W_ret | apply W_exit | refine W_true rfl (by assumption) ?_ | refine W_false rfl (by assumption) ?_ | refine W_cond rfl (fun _ => ?_) (fun _ => ?_)))
        exact ⟨.inr rfl, rfl⟩
  · have c0 : (op == 0) = false := by simp [o0]
    have c0n : (op != 0) = true := by simp [o0]
    have c4 : (op == 4) = false := by simp [o4]
    have c4n : (op != 4) = true := by simp [o4]
    have hp : putP lv ar (.mk op nn a t e) = lv := by
      unfold putP
      dsimp only
      rw [if_neg (by omega)]
    rw [hp, hself]
    cases d2 : (((exsC a).length : Int) == 2) <;>
    · apply W_call Try.func122 rfl (Nat.le_of_ble_eq_true rfl) rfl rfl
      (repeat' (first | apply W_seq | refine W_true rfl rfl ?_ | refine W_false rfl rfl ?_ | refine W_region (id := 0) rfl ?_ | (refine W_ops (id := 1) ?_ <;> refine T_ch 4 rfl ?_ <;> (refine T_go rfl ?_; refine G_op (O_call rfl rfl rfl rfl (by assumption)) ?_) <;> refine T_ch 2 rfl ?_ <;> apply T_nil) | (refine W_ops (id := 2) ?_ <;> refine T_ch 3 rfl ?_ <;> (refine T_go rfl ?_; first | refine G_true rfl rfl ?_ | refine G_false rfl rfl ?_ | refine G_true rfl (by with_reducible assumption) ?_ | refine G_false rfl (by with_reducible assumption) ?_ | refine G_true rfl (by assumption) ?_ | refine G_false rfl (by assumption) ?_ | refine G_split rfl (fun _ => ?_) (fun _ => ?_)) <;> refine T_ch 3 rfl ?_ <;> (first | refine T_skip rfl ?_ | (refine T_go rfl ?_; first | refine G_true rfl rfl ?_ | refine G_false rfl rfl ?_ | refine G_true rfl (by with_reducible assumption) ?_ | refine G_false rfl (by with_reducible assumption) ?_ | refine G_true rfl (by assumption) ?_ | refine G_false rfl (by assumption) ?_ | refine G_split rfl (fun _ => ?_) (fun _ => ?_))) <;> refine T_ch 4 rfl ?_ <;> (first | refine T_skip rfl ?_ | (refine T_go rfl ?_; first | refine G_true rfl rfl ?_ | refine G_false rfl rfl ?_ | refine G_true rfl (by with_reducible assumption) ?_ | refine G_false rfl (by with_reducible assumption) ?_ | refine G_true rfl (by assumption) ?_ | refine G_false rfl (by assumption) ?_ | refine G_split rfl (fun _ => ?_) (fun _ => ?_))) <;> refine T_ch 3 rfl ?_ <;> apply T_nil) | (refine W_ops (id := 3) ?_ <;> refine T_ch 2 rfl ?_ <;> (refine T_go rfl ?_; first | refine G_true rfl rfl ?_ | refine G_false rfl rfl ?_ | refine G_true rfl (by with_reducible assumption) ?_ | refine G_false rfl (by with_reducible assumption) ?_ | refine G_true rfl (by assumption) ?_ | refine G_false rfl (by assumption) ?_ | refine G_split rfl (fun _ => ?_) (fun _ => ?_)) <;> apply T_nil) | refine W_region (id := 4) rfl ?_ | (refine W_ops (id := 5) ?_ <;> refine T_ch 4 rfl ?_ <;> (refine T_go rfl ?_; first | refine G_op (O_index rfl rfl rfl rfl rfl (by assumption)) ?_ | refine G_op (O_indexI rfl rfl rfl rfl rfl (by assumption)) ?_ | refine G_op (O_indexH rfl rfl rfl rfl rfl (by assumption) (by assumption) (by assumption)) ?_ | refine G_op (O_indexHI rfl rfl rfl rfl rfl (by assumption) (by assumption) (by assumption)) ?_ | refine G_op rfl ?_) <;> (refine T_go rfl ?_; first | refine G_op (O_storeS rfl rfl rfl rfl rfl (by assumption) (by assumption) ⟨rfl, rfl, Nat.le_of_ble_eq_true rfl⟩ rfl) ?_ | refine G_op rfl ?_ | refine G_op (O_storeH rfl rfl rfl rfl (by assumption) ⟨by assumption, rfl, rfl, Nat.le_of_ble_eq_true rfl⟩) ?_ | refine G_op (O_storeH rfl rfl rfl rfl (by assumption) (by assumption)) ?_) <;> apply T_nil) | (refine W_ops (id := 6) ?_ <;> refine T_ch 2 rfl ?_ <;> (refine T_go rfl ?_; first | refine G_true rfl rfl ?_ | refine G_false rfl rfl ?_ | refine G_true rfl (by with_reducible assumption) ?_ | refine G_false rfl (by with_reducible assumption) ?_ | refine G_true rfl (by assumption) ?_ | refine G_false rfl (by assumption) ?_ | refine G_split rfl (fun _ => ?_) (fun _ => ?_)) <;> refine T_ch 3 rfl ?_ <;> (first | refine T_skip rfl ?_ | (refine T_go rfl ?_; first | refine G_true rfl rfl ?_ | refine G_false rfl rfl ?_ | refine G_true rfl (by with_reducible assumption) ?_ | refine G_false rfl (by with_reducible assumption) ?_ | refine G_true rfl (by assumption) ?_ | refine G_false rfl (by assumption) ?_ | refine G_split rfl (fun _ => ?_) (fun _ => ?_))) <;> refine T_ch 2 rfl ?_ <;> apply T_nil) | refine W_region (id := 7) rfl ?_ | (refine W_ops (id := 8) ?_ <;> refine T_ch 3 rfl ?_ <;> (refine T_go rfl ?_; first | refine G_op (O_index rfl rfl rfl rfl rfl (by assumption)) ?_ | refine G_op (O_indexI rfl rfl rfl rfl rfl (by assumption)) ?_ | refine G_op (O_indexH rfl rfl rfl rfl rfl (by assumption) (by assumption) (by assumption)) ?_ | refine G_op (O_indexHI rfl rfl rfl rfl rfl (by assumption) (by assumption) (by assumption)) ?_ | refine G_op rfl ?_) <;> (refine T_go rfl ?_; first | refine G_op rfl ?_ | refine G_op (O_loadS rfl rfl rfl rfl (by assumption) rfl rfl) ?_ | refine G_op (O_loadH rfl rfl rfl (by assumption) rfl rfl) ?_ | refine G_op (O_loadH rfl rfl rfl (by assumption) rfl (by assumption)) ?_) <;> refine T_ch 2 rfl ?_ <;> (refine T_go rfl ?_; first | refine G_op (O_index rfl rfl rfl rfl rfl (by assumption)) ?_ | refine G_op (O_indexI rfl rfl rfl rfl rfl (by assumption)) ?_ | refine G_op (O_indexH rfl rfl rfl rfl rfl (by assumption) (by assumption) (by assumption)) ?_ | refine G_op (O_indexHI rfl rfl rfl rfl rfl (by assumption) (by assumption) (by assumption)) ?_ | refine G_op rfl ?_) <;> (refine T_go rfl ?_; first | refine G_op (O_storeS rfl rfl rfl rfl rfl (by assumption) (by assumption) ⟨rfl, rfl, Nat.le_of_ble_eq_true rfl⟩ rfl) ?_ | refine G_op rfl ?_ | refine G_op (O_storeH rfl rfl rfl rfl (by assumption) ⟨by assumption, rfl, rfl, Nat.le_of_ble_eq_true rfl⟩) ?_ | refine G_op (O_storeH rfl rfl rfl rfl (by assumption) (by assumption)) ?_) <;> apply T_nil) | apply W_skip | apply W_block | apply W_ret | apply W_exit | refine W_true rfl (by assumption) ?_ | refine W_false rfl (by assumption) ?_ | refine W_cond rfl (fun _ => ?_) (fun _ => ?_)))
      exact ⟨.inr rfl, rfl⟩
end Go.Proofs.Ytelobnllkhnpaaa.L
/- Types that move, in the program: moved, with any callback that is told of the places. -/
open Go Go.Proofs Go.Ev Go.Proofs.Ytelobnllkhnpaaa.E
namespace Go.Proofs.Ytelobnllkhnpaaa.L
set_option linter.unusedVariables false
set_option linter.unusedSimpArgs false
set_option maxRecDepth 100000

/-- Objects that are not somebody's own stay; what is owned later was owned before, or is new. -/
def Fr (h : Heap) (O : Nat → Prop) (h' : Heap) (O' : Nat → Prop) : Prop := h.length ≤ h'.length ∧ (∀ i, i < h.length → ¬ O i → h'[i]? = h[i]?) ∧ ∀ i, O' i → O i ∨ h.length ≤ i
theorem Fr.refl (h : Heap) (O : Nat → Prop) : Fr h O h O := ⟨Nat.le_refl _, fun _ _ _ => rfl, fun _ h => .inl h⟩
theorem Fr.trans {h h1 h2 : Heap} {O O1 O2 : Nat → Prop} (a : Fr h O h1 O1) (b : Fr h1 O1 h2 O2) : Fr h O h2 O2 := by
  obtain ⟨a1, a2, a3⟩ := a
  obtain ⟨b1, b2, b3⟩ := b
  refine ⟨Nat.le_trans a1 b1, fun i hi ho => ?_, fun i hi => ?_⟩
  · rw [b2 i (Nat.lt_of_lt_of_le hi a1) (fun e => by rcases a3 i e with q | q
                                                     · exact ho q
                                                     · omega), a2 i hi ho]
  · rcases b3 i hi with q | q
    · exact a3 i q
    · exact .inr (Nat.le_trans a1 q)
theorem Fr.get {h h' : Heap} {O O' : Nat → Prop} (a : Fr h O h' O') {i : Nat} {o : HObj} (hg : h[i]? = some o) (hn : ¬ O i) : h'[i]? = some o := by
  rw [a.2.1 i (cells_lt hg) hn, hg]
theorem Fr.not {h h' : Heap} {O O' : Nat → Prop} (a : Fr h O h' O') {i : Nat} (hi : i < h.length) (hn : ¬ O i) : ¬ O' i := fun e => by
  rcases a.2.2 i e with q | q
  · exact hn q
  · omega
theorem Fr.set {h h1 : Heap} {O O1 : Nat → Prop} (a : Fr h O h1 O1) {id : Nat} (hid : h.length ≤ id) (o : HObj) : Fr h O (h1.set id o) O1 := by
  obtain ⟨a1, a2, a3⟩ := a
  refine ⟨by simpa using a1, fun i hi ho => ?_, a3⟩
  rw [List.getElem?_set_ne (by omega), a2 i hi ho]
theorem Fr.app {h h1 : Heap} {O O1 : Nat → Prop} (a : Fr h O h1 O1) (more : Heap) : Fr h O (h1 ++ more) O1 := by
  obtain ⟨a1, a2, a3⟩ := a
  refine ⟨by simp; omega, fun i hi ho => ?_, a3⟩
  rw [List.getElem?_append_left (by omega), a2 i hi ho]

/-- A callback: its state, what it does to it, how that lies in the heap. -/
structure See where
  σ : Type
  upd : σ → Int → Sm' → List Int → Int → σ
  B : Nat → σ → Heap → (Nat → Prop) → Prop
  f : Nat
  caps : List AV
structure SeeOk (S : See) (m lo kY : Nat) : Prop where
  frame : ∀ {b x h O h'}, S.B b x h O → h.length ≤ h'.length → (∀ i, O i → h'[i]? = h[i]?) → S.B b x h' O
  mono : ∀ {b b' x h O}, S.B b x h O → b' ≤ b → S.B b' x h O
  rng : ∀ {b x h O i}, S.B b x h O → O i → i < h.length
  run : ∀ (k b : Nat) (x : S.σ) (h : Heap) (O : Nat → Prop) (id : Nat) (lv : List Int) (ar n : Int) (s : Sm'), S.B (b + 1) x h O → h[id]? = some (.cells 3 (ic lv)) → ¬ O id → lv.length = m → lvsB lv → lvB ar → smK s + kY ≤ k → smB s → vm1 m s → lo ≤ h.length →
    ∃ (h' : Heap) (O' : Nat → Prop), call Try.prog cfg k lo (.func S.f) ([.int .i64 n, .agg (smC s), .sl id 1 0 m, .int .i64 ar] ++ S.caps) h = some (.tup [], h') ∧ S.B b (S.upd x n s lv ar) h' O' ∧ Fr h O h' O'
/-- The callback that does nothing. -/
def see0 : See := { σ := Unit, upd := fun _ _ _ _ _ => (), B := fun _ _ _ O => ∀ i, ¬ O i, f := 120, caps := [] }
theorem see0_ok (m lo : Nat) : SeeOk see0 m lo 0 where
  frame h _ _ := h
  mono h _ := h
  rng h ho := absurd ho (h _)
  run k b x h O id lv ar n s hB _ _ _ _ _ hk _ _ _ := by
    obtain ⟨op, nn, a, t, e⟩ := s
    rw [smK] at hk
    have := see0_run (k - 1) lo (.int .i64 n) .nils (.sl id 1 0 m) (.int .i64 ar) h op nn a t e
    rw [show k - 1 + 1 = k by omega] at this
    exact ⟨h, O, this, hB, Fr.refl h O⟩

structure MA (σ : Type) where
  lv : List Int
  x : σ
  n : Int
  H : Heap
  O : Nat → Prop
  id : Nat
structure MW where
  lv : List Int
  H : Heap
  id : Nat
def mvS {σ : Type} (lo m : Nat) (ar : Int) (l : List Sm') (f : Nat) (caps : List AV) (i : Int) (a : MA σ) : St :=
  { env := [(1, .v (.sl a.id 1 0 m)), (2, .v (.int .i64 ar)), (3, .v (.int .i64 a.n)), (4, .v (.fn (.func f) caps)), (24, .v (.vs 5 (smsC l))), (25, .v (.int .i64 (smsC l).length)), (26, .v (.int .i64 i))], loc := [], heap := a.H, inRound := false, lo := lo }
def mwS (lo m : Nat) (ar : Int) (l : List Sm') (f : Nat) (caps : List AV) (i n n1 : Int) (st : Sm') (a : MW) : St :=
  { env := [(1, .v (.sl a.id 1 0 m)), (2, .v (.int .i64 ar)), (3, .v (.int .i64 n1)), (4, .v (.fn (.func f) caps)), (13, .p 13 0), (14, .v (.int .i64 n)), (24, .v (.vs 5 (smsC l))), (25, .v (.int .i64 (smsC l).length)), (26, .v (.int .i64 i))], loc := [(13, smC st)], heap := a.H, inRound := false, lo := lo }
def fP (t : List Sm') (a : List Ex') (ar : Int) (x : List Int) : List Int := joinL x (mvL putP ofH t x (orI ar (ofH x a)))
set_option maxHeartbeats 4000000 in
theorem moved_run (m : Nat) (hm1 : 1 ≤ m) (hm2 : m ≤ 18) : ∀ (k : Nat) (S : See) (lo kY : Nat), SeeOk S m lo kY → ∀ (l : List Sm') (lv : List Int) (ar n : Int) (x : S.σ) (h : Heap) (O : Nat → Prop) (v : AV) (b : Nat),
    smsK l + kY + 1300 ≤ k → l.length < 9223372036854775808 → smsB l → vmL m l → lv.length = m → lvsB lv → lvB ar → LvArg h v lv → lo ≤ h.length → S.B (scs l + b) x h O →
    ∃ (id : Nat) (h' : Heap) (O' : Nat → Prop), call Try.prog cfg k lo (.func 93) [.vs 5 (smsC l), v, .int .i64 ar, .int .i64 n, .fn (.func S.f) S.caps] h = some (.tup [.sl id 1 0 m, .int .i64 (spL putP ofH S.upd l lv ar x n).2], h') ∧
      h'[id]? = some (.cells 3 (ic (mvL putP ofH l lv ar))) ∧ S.B b (spL putP ofH S.upd l lv ar x n).1 h' O' ∧ Fr h O h' O' ∧ ¬ O' id ∧ h.length ≤ id
  | 0, S, lo, kY, hS, l, lv, ar, n, x, h, O, v, b, hk, _, _, _, _, _, _, _, _, _ => by omega
  | k + 1, S, lo, kY, hS, l, lv, ar, n, x, h, O, v, b, hk, hlen, hb, hvm, hlv, hB, har, hv, hlo, hSB => by
    have hMv := mvP_ok m
    have hll := smsK_len l
    have hne : lv ≠ [] := fun e => by subst e; simp at hlv; omega
    have hC := cloneI_run hlo hv hne (by omega) (k - 1)
    rw [show k - 1 + 1 = k by omega, hlv] at hC
    have key : ∃ out : AV × Heap, call Try.prog cfg (k + 1) lo (.func 93) [.vs 5 (smsC l), v, .int .i64 ar, .int .i64 n, .fn (.func S.f) S.caps] h = some out ∧ ∃ e : MA S.σ, out = (.tup [.sl e.id 1 0 m, .int .i64 e.n], e.H) ∧
        e.lv.length = m ∧ lvsB e.lv ∧ e.H[e.id]? = some (.cells 3 (ic e.lv)) ∧ ¬ e.O e.id ∧ h.length ≤ e.id ∧ S.B (scs [] + b) e.x e.H e.O ∧ Fr h O e.H e.O ∧ mvL putP ofH [] e.lv ar = mvL putP ofH l lv ar ∧ spL putP ofH S.upd [] e.lv ar e.x e.n = spL putP ofH S.upd l lv ar x n := by
      have hvv : ∃ q, v = q ∧ LvArg h q lv := ⟨v, rfl, hv⟩
      apply W_callP Try.func93 rfl (Nat.le_of_ble_eq_true rfl) rfl rfl
      (repeat' (first | apply W_seq | refine W_true rfl rfl ?_ | refine W_false rfl rfl ?_ | refine W_region (id := 0) rfl ?_ | (refine W_ops (id := 1) ?_ <;> refine T_ch 1 rfl ?_ <;> (refine T_go rfl ?_; refine G_op (O_call rfl rfl rfl rfl (by assumption)) ?_) <;> refine T_ch 1 rfl ?_ <;> apply T_nil) | refine W_region (id := 2) rfl ?_ | apply W_skip | apply W_block | apply W_ret | apply W_exit | refine W_true rfl (by assumption) ?_ | refine W_false rfl (by assumption) ?_ | refine W_cond rfl (fun _ => ?_) (fun _ => ?_)))
      apply W_iter (S := mvS lo m ar l S.f S.caps) (l := l) (a0 := ⟨lv, x, n, h ++ [.cells 3 (ic lv)], O, h.length⟩)
        (fun rest a => a.lv.length = m ∧ lvsB a.lv ∧ a.H[a.id]? = some (.cells 3 (ic a.lv)) ∧ ¬ a.O a.id ∧ h.length ≤ a.id ∧ S.B (scs rest + b) a.x a.H a.O ∧ Fr h O a.H a.O ∧ mvL putP ofH rest a.lv ar = mvL putP ofH l lv ar ∧ spL putP ofH S.upd rest a.lv ar a.x a.n = spL putP ofH S.upd l lv ar x n) hlen (by omega) rfl
        ⟨hlv, hB, by simp, fun e => absurd (hS.rng hSB e) (Nat.lt_irrefl _), Nat.le_refl _, hS.frame hSB (by simp) (fun i hi => List.getElem?_append_left (hS.rng hSB hi)), (Fr.refl h O).app _, rfl, rfl⟩
      · intro i st rest a hi hd hil hJ
        obtain ⟨alv, ax, an, aH, aO, aid⟩ := a
        obtain ⟨j1, j2, j3, j4, j5, j6, j7, j8, j9⟩ := hJ
        dsimp only at j1 j2 j3 j4 j5 j6 j7 j8 j9
        have hlt := lt_sms hil
        have hrow := smsC_get _ _ _ hi
        have hmem := smsK_mem2 l i _ hi
        have hbm := smsB_mem l i _ hb hi
        have hvm1 := vmL_mem hvm hi
        obtain ⟨q1, q2⟩ := mv1_ok hMv st alv ar j1 j2 har hvm1
        have hloH : lo ≤ aH.length := Nat.le_trans hlo j7.1
        have hloid : lo ≤ aid := Nat.le_trans hlo j5
        rw [mvL] at j8
        rw [spL] at j9
        rw [scs] at j6
        obtain ⟨op, nn, a, t, e⟩ := st
        have hbm' := hbm
        have hvm1' := hvm1
        rw [smK] at hmem
        rw [smB] at hbm
        rw [vm1] at hvm1
        obtain ⟨⟨ha1, ha2⟩, ⟨ht1, ht2⟩, he1, he2⟩ := hbm
        obtain ⟨r1, r2, r3, r4, r5⟩ := hvm1
        have hla := exsK_len a
        have hsc : sc1 (.mk op nn a t e) = 1 + scs t + scs e := by rw [sc1]
        have hmk : smK (.mk op nn a t e) = exsK a + smsK t + smsK e + 1 := by rw [smK]
        by_cases o1 : op = 1
        · have c1 : (op == 1) = true := by simp [o1]
          obtain ⟨x0, rfl⟩ := r3 (.inl o1)
          have hx0 : (exsC [x0])[0]? = some (exC x0) := rfl
          have hxk : exK x0 ≤ exsK [x0] := exsK_mem [x0] 0 x0 rfl
          obtain ⟨H1, O1, s1, s2, s3⟩ := hS.run k (scs t + (scs e + (scs rest + b))) ax aH aO aid alv ar an _ (hS.mono j6 (by omega)) j3 j4 j1 j2 har (by omega) hbm' hvm1' hloH
          have n1 := s3.not (cells_lt j3) j4
          have g1 := s3.get j3 j4
          have hO := ofV_run g1 x0 (k - 1) (by omega) ha2.1 (by rw [j1]; exact r1.1) lo
          rw [show k - 1 + 1 = k by omega, j1] at hO
          have hfB : lvB (orI ar (ofE alv x0)) := orI_B har (ofE_B j2 x0)
          obtain ⟨id2, H2, O2, m1, m2, m3, m4, m5, m6⟩ := moved_run m hm1 hm2 k S lo kY hS t alv (orI ar (ofE alv x0)) (IntKind.i64.wrap (an + 1)) _ H1 O1 (.sl aid 1 0 m) (scs e + (scs rest + b)) (by omega) ht1 ht2 r4 j1 j2 hfB (.inr ⟨aid, by rw [j1], g1⟩) (Nat.le_trans hloH s3.1) s2
          have n2 := m4.not (cells_lt g1) n1
          have g2 := m4.get g1 n1
          obtain ⟨id3, H3, O3, e1, e2, e3, e4, e5, e6⟩ := moved_run m hm1 hm2 k S lo kY hS e alv (orI ar (ofE alv x0)) (spL putP ofH S.upd t alv (orI ar (ofE alv x0)) (S.upd ax an (.mk op nn [x0] t e) alv ar) (IntKind.i64.wrap (an + 1))).2 _ H2 O2 (.sl aid 1 0 m) (scs rest + b) (by omega) he1 he2 r5 j1 j2 hfB (.inr ⟨aid, by rw [j1], g2⟩) (Nat.le_trans (Nat.le_trans hloH s3.1) m4.1) m3
          have g3 := e4.get m2 m5
          obtain ⟨t1, t2⟩ := mvL_ok hMv t alv (orI ar (ofE alv x0)) j1 j2 hfB r4
          obtain ⟨u1, u2⟩ := mvL_ok hMv e alv (orI ar (ofE alv x0)) j1 j2 hfB r5
          have hT := together_run (Nat.le_trans (Nat.le_trans (Nat.le_trans hloH s3.1) m4.1) e4.1) g3 e2 t1 u1 hm1 (by omega) (k - 1) (by omega)
          rw [show k - 1 + 1 = k by omega] at hT
          have hm : mv1 putP ofH (.mk op nn [x0] t e) alv ar = joinL (mvL putP ofH t alv (orI ar (ofE alv x0))) (mvL putP ofH e alv (orI ar (ofE alv x0))) := by rw [mv1, if_pos o1]; rfl
          have hsp : sp1 putP ofH S.upd (.mk op nn [x0] t e) alv ar ax an = spL putP ofH S.upd e alv (orI ar (ofE alv x0)) (spL putP ofH S.upd t alv (orI ar (ofE alv x0)) (S.upd ax an (.mk op nn [x0] t e) alv ar) (IntKind.i64.wrap (an + 1))).1 (spL putP ofH S.upd t alv (orI ar (ofE alv x0)) (S.upd ax an (.mk op nn [x0] t e) alv ar) (IntKind.i64.wrap (an + 1))).2 := by rw [sp1, if_pos o1]; rfl
          rw [hm] at j8 j9 q1 q2
          rw [hsp] at j9
          have hFr : Fr h O H3 O3 := j7.trans (s3.trans (m4.trans e4))
          have hrg := fun i hi => hS.rng (i := i) e3 hi
          have hBf := hS.frame (h' := H3 ++ [.cells 3 (ic (joinL (mvL putP ofH t alv (orI ar (ofE alv x0))) (mvL putP ofH e alv (orI ar (ofE alv x0)))))]) e3 (by simp) (fun i hi => List.getElem?_append_left (hrg i hi))
          generalize spL putP ofH S.upd t alv (orI ar (ofE alv x0)) (S.upd ax an (.mk op nn [x0] t e) alv ar) (IntKind.i64.wrap (an + 1)) = X1 at *
          generalize spL putP ofH S.upd e alv (orI ar (ofE alv x0)) X1.1 X1.2 = X2 at *
          generalize joinL (mvL putP ofH t alv (orI ar (ofE alv x0))) (mvL putP ofH e alv (orI ar (ofE alv x0))) = J at *
          obtain ⟨xo, xn, xc, xs⟩ := x0
          (repeat' (first | apply W_seq | refine W_true rfl rfl ?_ | refine W_false rfl rfl ?_ | (refine W_ops (id := 3) ?_ <;> (refine T_go rfl ?_; first | refine G_true rfl rfl ?_ | refine G_false rfl rfl ?_ | refine G_true rfl (by with_reducible assumption) ?_ | refine G_false rfl (by with_reducible assumption) ?_ | refine G_true rfl (by assumption) ?_ | refine G_false rfl (by assumption) ?_ | refine G_split rfl (fun _ => ?_) (fun _ => ?_)) <;> apply T_nil) | (refine W_ops (id := 4) ?_ <;> (refine T_go rfl ?_; first | refine G_op (O_index rfl rfl rfl rfl rfl (by assumption)) ?_ | refine G_op (O_indexI rfl rfl rfl rfl rfl (by assumption)) ?_ | refine G_op (O_indexH rfl rfl rfl rfl rfl (by assumption) (by assumption) (by assumption)) ?_ | refine G_op (O_indexHI rfl rfl rfl rfl rfl (by assumption) (by assumption) (by assumption)) ?_ | refine G_op rfl ?_) <;> (refine T_go rfl ?_; first | refine G_op rfl ?_ | refine G_op (O_loadS rfl rfl rfl rfl (by assumption) rfl rfl) ?_ | refine G_op (O_loadH rfl rfl rfl (by assumption) rfl rfl) ?_ | refine G_op (O_loadH rfl rfl rfl (by assumption) rfl (by assumption)) ?_) <;> refine T_ch 2 rfl ?_ <;> apply T_nil) | refine W_region (id := 5) rfl ?_ | refine W_region (id := 6) rfl ?_ | refine W_region (id := 7) rfl ?_ | (refine W_ops (id := 10) ?_ <;> (refine T_go rfl ?_; first | refine G_true rfl rfl ?_ | refine G_false rfl rfl ?_ | refine G_true rfl (by with_reducible assumption) ?_ | refine G_false rfl (by with_reducible assumption) ?_ | refine G_true rfl (by assumption) ?_ | refine G_false rfl (by assumption) ?_ | refine G_split rfl (fun _ => ?_) (fun _ => ?_)) <;> refine T_ch 1 rfl ?_ <;> apply T_nil) | (refine W_ops (id := 11) ?_ <;> refine T_ch 5 rfl ?_ <;> (refine T_go rfl ?_; refine G_op (O_call rfl rfl rfl rfl (by assumption)) ?_) <;> apply T_nil) | (refine W_ops (id := 12) ?_ <;> refine T_ch 4 rfl ?_ <;> (refine T_go rfl ?_; first | refine G_op (O_index rfl rfl rfl rfl rfl (by assumption)) ?_ | refine G_op (O_indexI rfl rfl rfl rfl rfl (by assumption)) ?_ | refine G_op (O_indexH rfl rfl rfl rfl rfl (by assumption) (by assumption) (by assumption)) ?_ | refine G_op (O_indexHI rfl rfl rfl rfl rfl (by assumption) (by assumption) (by assumption)) ?_ | refine G_op rfl ?_) <;> (refine T_go rfl ?_; first | refine G_op rfl ?_ | refine G_op (O_loadS rfl rfl rfl rfl (by assumption) rfl rfl) ?_ | refine G_op (O_loadH rfl rfl rfl (by assumption) rfl rfl) ?_ | refine G_op (O_loadH rfl rfl rfl (by assumption) rfl (by assumption)) ?_) <;> (refine T_go rfl ?_; refine G_op (O_call rfl rfl rfl rfl (by assumption)) ?_) <;> refine T_ch 2 rfl ?_ <;> apply T_nil) | (refine W_ops (id := 13) ?_ <;> refine T_ch 6 rfl ?_ <;> (refine T_go rfl ?_; refine G_op (O_call rfl rfl rfl rfl (by assumption)) ?_) <;> refine T_ch 5 rfl ?_ <;> apply T_nil) | (refine W_ops (id := 14) ?_ <;> refine T_ch 6 rfl ?_ <;> (refine T_go rfl ?_; refine G_op (O_call rfl rfl rfl rfl (by assumption)) ?_) <;> refine T_ch 5 rfl ?_ <;> apply T_nil) | (refine W_ops (id := 15) ?_ <;> refine T_ch 2 rfl ?_ <;> (refine T_go rfl ?_; refine G_op (O_call rfl rfl rfl rfl (by assumption)) ?_) <;> refine T_ch 3 rfl ?_ <;> apply T_nil) | refine W_region (id := 23) rfl ?_ | apply W_skip | apply W_block | apply W_ret | apply W_exit | refine W_true rfl (by assumption) ?_ | refine W_false rfl (by assumption) ?_ | refine W_cond rfl (fun _ => ?_) (fun _ => ?_)))
          exact ⟨⟨J, X2.1, X2.2, H3 ++ [.cells 3 (ic J)], O3, H3.length⟩, rfl, q1, q2, by simp, fun q => absurd (hrg _ q) (Nat.lt_irrefl _), hFr.1, hBf, hFr.app _, j8, j9⟩
        have c1 : (op == 1) = false := by simp [o1]
        by_cases o2 : op = 2
        · have c2 : (op == 2) = true := by simp [o2]
          obtain ⟨x0, rfl⟩ := r3 (.inr o2)
          have hx0 : (exsC [x0])[0]? = some (exC x0) := rfl
          have hxk : exK x0 ≤ exsK [x0] := exsK_mem [x0] 0 x0 rfl
          have hm : mv1 putP ofH (.mk op nn [x0] t e) alv ar = fixN (fP t [x0] ar) 600 alv := by rw [mv1, if_neg o1, if_pos o2]; rfl
          have hsp : sp1 putP ofH S.upd (.mk op nn [x0] t e) alv ar ax an = spL putP ofH S.upd t (fixN (fP t [x0] ar) 600 alv) (orI ar (ofE (fixN (fP t [x0] ar) 600 alv) x0)) (S.upd ax an (.mk op nn [x0] t e) (fixN (fP t [x0] ar) 600 alv) ar) (IntKind.i64.wrap (an + 1)) := by rw [sp1, if_neg o1, if_pos o2, hm]; rfl
          rw [hm] at j8 j9 q1 q2
          rw [hsp] at j9
          have hrm := roomL_le j2
          have hrg := fun i hi => hS.rng (i := i) j6 hi
          generalize hF : fixN (fP t [x0] ar) 600 alv = F at *
          (repeat' (first | apply W_seq | refine W_true rfl rfl ?_ | refine W_false rfl rfl ?_ | (refine W_ops (id := 3) ?_ <;> (refine T_go rfl ?_; first | refine G_true rfl rfl ?_ | refine G_false rfl rfl ?_ | refine G_true rfl (by with_reducible assumption) ?_ | refine G_false rfl (by with_reducible assumption) ?_ | refine G_true rfl (by assumption) ?_ | refine G_false rfl (by assumption) ?_ | refine G_split rfl (fun _ => ?_) (fun _ => ?_)) <;> apply T_nil) | (refine W_ops (id := 4) ?_ <;> (refine T_go rfl ?_; first | refine G_op (O_index rfl rfl rfl rfl rfl (by assumption)) ?_ | refine G_op (O_indexI rfl rfl rfl rfl rfl (by assumption)) ?_ | refine G_op (O_indexH rfl rfl rfl rfl rfl (by assumption) (by assumption) (by assumption)) ?_ | refine G_op (O_indexHI rfl rfl rfl rfl rfl (by assumption) (by assumption) (by assumption)) ?_ | refine G_op rfl ?_) <;> (refine T_go rfl ?_; first | refine G_op rfl ?_ | refine G_op (O_loadS rfl rfl rfl rfl (by assumption) rfl rfl) ?_ | refine G_op (O_loadH rfl rfl rfl (by assumption) rfl rfl) ?_ | refine G_op (O_loadH rfl rfl rfl (by assumption) rfl (by assumption)) ?_) <;> refine T_ch 2 rfl ?_ <;> apply T_nil) | refine W_region (id := 5) rfl ?_ | refine W_region (id := 6) rfl ?_ | refine W_region (id := 7) rfl ?_ | (refine W_ops (id := 10) ?_ <;> (refine T_go rfl ?_; first | refine G_true rfl rfl ?_ | refine G_false rfl rfl ?_ | refine G_true rfl (by with_reducible assumption) ?_ | refine G_false rfl (by with_reducible assumption) ?_ | refine G_true rfl (by assumption) ?_ | refine G_false rfl (by assumption) ?_ | refine G_split rfl (fun _ => ?_) (fun _ => ?_)) <;> refine T_ch 1 rfl ?_ <;> apply T_nil) | (refine W_ops (id := 16) ?_ <;> (refine T_go rfl ?_; first | refine G_true rfl rfl ?_ | refine G_false rfl rfl ?_ | refine G_true rfl (by with_reducible assumption) ?_ | refine G_false rfl (by with_reducible assumption) ?_ | refine G_true rfl (by assumption) ?_ | refine G_false rfl (by assumption) ?_ | refine G_split rfl (fun _ => ?_) (fun _ => ?_)) <;> refine T_ch 1 rfl ?_ <;> apply T_nil) | apply W_skip | apply W_block | apply W_ret | apply W_exit | refine W_true rfl (by assumption) ?_ | refine W_false rfl (by assumption) ?_ | refine W_cond rfl (fun _ => ?_) (fun _ => ?_)))
          apply W_while (S := mwS lo m ar l S.f S.caps i an (IntKind.i64.wrap (an + 1)) (.mk op nn [x0] t e)) (a0 := ⟨alv, aH, aid⟩)
            (fun q => q.lv.length = m ∧ lvsB q.lv ∧ q.H[q.id]? = some (.cells 3 (ic q.lv)) ∧ ¬ aO q.id ∧ h.length ≤ q.id ∧ Fr aH (fun _ => False) q.H (fun _ => False) ∧ ∃ c, roomL q.lv < c ∧ fixN (fP t [x0] ar) c q.lv = F) (fun q => roomL q.lv) (by show roomL alv < k; omega) rfl ⟨j1, j2, j3, j4, j5, Fr.refl _ _, 600, by show roomL alv < 600; omega, hF⟩
          intro q hq
          obtain ⟨qlv, qH, qid⟩ := q
          obtain ⟨w1, w2, w3, w4, w5, w6, c, w7, w8⟩ := hq
          dsimp only at w1 w2 w3 w4 w5 w6 w7 w8
          have hloq : lo ≤ qH.length := Nat.le_trans hloH w6.1
          have hO := ofV_run w3 x0 (k - 1) (by omega) ha2.1 (by rw [w1]; exact r1.1) qH.length
          rw [show k - 1 + 1 = k by omega, w1] at hO
          have hfB : lvB (orI ar (ofE qlv x0)) := orI_B har (ofE_B w2 x0)
          obtain ⟨id2, H2, O2, m1, m2, m3, m4, m5, m6⟩ := moved_run m hm1 hm2 k see0 lo 0 (see0_ok m lo) t qlv (orI ar (ofE qlv x0)) (IntKind.i64.wrap (an + 1)) () qH (fun _ => False) (.sl qid 1 0 m) 0 (by omega) ht1 ht2 r4 w1 w2 hfB (.inr ⟨qid, by rw [w1], w3⟩) hloq (fun _ h => h)
          have m1' : call Try.prog cfg k lo (.func 93) [.vs 5 (smsC t), .sl qid 1 0 m, .int .i64 (orI ar (ofE qlv x0)), .int .i64 (IntKind.i64.wrap (an + 1)), .fn (.func 120) []] qH = some (.tup [.sl id2 1 0 m, .int .i64 (spL putP ofH see0.upd t qlv (orI ar (ofE qlv x0)) () (IntKind.i64.wrap (an + 1))).2], H2) := m1
          clear m1
          generalize (spL putP ofH see0.upd t qlv (orI ar (ofE qlv x0)) () (IntKind.i64.wrap (an + 1))).2 = nx at m1'
          have g2 := m4.get w3 (fun h => h)
          obtain ⟨t1, t2⟩ := mvL_ok hMv t qlv (orI ar (ofE qlv x0)) w1 w2 hfB r4
          have hT := together_run (Nat.le_trans hloq m4.1) g2 m2 w1 t1 hm1 (by omega) (k - 1) (by omega)
          rw [show k - 1 + 1 = k by omega] at hT
          obtain ⟨f1, f2, f3⟩ := round_ok hMv r4 har [x0] w1 w2
          have hfx : joinL qlv (mvL putP ofH t qlv (orI ar (ofE qlv x0))) = fP t [x0] ar qlv := rfl
          have hfx' : joinL qlv (mvL putP ofH t qlv (orI ar (ofH qlv [x0]))) = fP t [x0] ar qlv := rfl
          rw [hfx'] at f1 f2 f3
          rw [hfx] at hT
          obtain ⟨c, rfl⟩ : ∃ c', c = c' + 1 := ⟨c - 1, by omega⟩
          rw [fixN] at w8
          generalize fP t [x0] ar qlv = fx at *
          have g3 : (H2 ++ [HObj.cells 3 (ic fx)])[H2.length]? = some (.cells 3 (ic fx)) := by simp
          have g4 : (H2 ++ [HObj.cells 3 (ic fx)])[qid]? = some (.cells 3 (ic qlv)) := by rw [List.getElem?_append_left (cells_lt g2)]; exact g2
          have hEq := equalV_run g3 g4 (by omega) (k - 2) (by omega) lo
          rw [show k - 2 + 2 = k by omega, f1, w1] at hEq
          have hFr2 : Fr aH (fun _ => False) (H2 ++ [HObj.cells 3 (ic fx)]) (fun _ => False) := by
            have := (w6.trans m4).app [HObj.cells 3 (ic fx)]
            exact ⟨this.1, this.2.1, fun _ h => h.elim⟩
          by_cases hs : fx = qlv
          · rw [if_pos hs] at w8
            rw [decide_eq_true hs] at hEq
            rw [← w8] at j8 j9
            have hB3 := hS.frame (h' := H2 ++ [HObj.cells 3 (ic fx)]) j6 hFr2.1 (fun i hi => hFr2.2.1 i (hrg i hi) (fun h => h))
            obtain ⟨H4, O4, s1, s2, s3⟩ := hS.run k (scs t + (scs rest + b)) ax _ aO qid qlv ar an _ (hS.mono hB3 (by omega)) g4 w4 w1 w2 har (by omega) hbm' hvm1' (Nat.le_trans hloH hFr2.1)
            have n5 := s3.not (cells_lt g4) w4
            have g5 := s3.get g4 w4
            have hO5 := ofV_run g5 x0 (k - 1) (by omega) ha2.1 (by rw [w1]; exact r1.1) H4.length
            rw [show k - 1 + 1 = k by omega, w1] at hO5
            obtain ⟨id6, H6, O6, p1, p2, p3, p4, p5, p6⟩ := moved_run m hm1 hm2 k S lo kY hS t qlv (orI ar (ofE qlv x0)) (IntKind.i64.wrap (an + 1)) _ H4 O4 (.sl qid 1 0 m) (scs rest + b) (by omega) ht1 ht2 r4 w1 w2 hfB (.inr ⟨qid, by rw [w1], g5⟩) (Nat.le_trans (Nat.le_trans hloH hFr2.1) s3.1) s2
            have n6 := p4.not (cells_lt g5) n5
            have g6 := p4.get g5 n5
            have hFrA : Fr aH aO (H2 ++ [HObj.cells 3 (ic fx)]) aO := ⟨hFr2.1, fun i hi _ => hFr2.2.1 i hi (fun h => h), fun _ h => .inl h⟩
            have hFr6 : Fr h O H6 O6 := j7.trans (hFrA.trans (s3.trans p4))
            generalize spL putP ofH S.upd t qlv (orI ar (ofE qlv x0)) (S.upd ax an (.mk op nn [x0] t e) qlv ar) (IntKind.i64.wrap (an + 1)) = X1 at *
            obtain ⟨xo, xn, xc, xs⟩ := x0
            (repeat' (first | apply W_seq | refine W_true rfl rfl ?_ | refine W_false rfl rfl ?_ | (refine W_dops (id := 17) (bs := [0, 1, 0, 0, 0, 0, 32, 96, 224, 496, 1016, 0, 4095, 8191, 16383, 16383, 32767, 131071]) (by decide +kernel) ?_ <;> (refine U_go rfl ?_; refine H_free (by decide +kernel) rfl rfl rfl rfl rfl ?_) <;> (refine U_go rfl ?_; refine H_free (by decide +kernel) rfl rfl rfl rfl rfl ?_) <;> (refine U_go rfl ?_; refine H_free (by decide +kernel) rfl rfl rfl rfl rfl ?_) <;> (refine U_go rfl ?_; refine H_free (by decide +kernel) rfl rfl rfl rfl rfl ?_) <;> (refine U_go rfl ?_; refine H_free (by decide +kernel) rfl rfl rfl rfl rfl ?_) <;> (refine U_go rfl ?_; refine H_free (by decide +kernel) rfl rfl rfl rfl rfl ?_) <;> (refine U_go rfl ?_; refine H_free (by decide +kernel) rfl rfl rfl rfl rfl ?_) <;> (refine U_go rfl ?_; first | refine H_free (by decide +kernel) rfl (O_index rfl rfl rfl rfl rfl (by assumption)) rfl rfl rfl ?_ | refine H_free (by decide +kernel) rfl (O_indexI rfl rfl rfl rfl rfl (by assumption)) rfl rfl rfl ?_ | refine H_free (by decide +kernel) rfl (O_indexH rfl rfl rfl rfl rfl (by assumption) (by assumption) (by assumption)) rfl rfl rfl ?_ | refine H_free (by decide +kernel) rfl (O_indexHI rfl rfl rfl rfl rfl (by assumption) (by assumption) (by assumption)) rfl rfl rfl ?_ | refine H_free (by decide +kernel) rfl rfl rfl rfl rfl ?_) <;> (refine U_go rfl ?_; first | refine H_free (by decide +kernel) rfl rfl rfl rfl rfl ?_ | refine H_free (by decide +kernel) rfl (O_loadS rfl rfl rfl rfl (by assumption) rfl rfl) rfl rfl rfl ?_ | refine H_free (by decide +kernel) rfl (O_loadH rfl rfl rfl (by assumption) rfl rfl) rfl rfl rfl ?_ | refine H_free (by decide +kernel) rfl (O_loadH rfl rfl rfl (by assumption) rfl (by assumption)) rfl rfl rfl ?_) <;> (refine U_go rfl ?_; first | refine H_free (by decide +kernel) rfl (O_call rfl rfl rfl rfl (by assumption)) rfl rfl rfl ?_ | refine H_make (by decide +kernel) rfl (O_call rfl rfl rfl rfl (by assumption)) rfl rfl rfl ?_) <;> (refine U_go rfl ?_; refine H_free (by decide +kernel) rfl rfl rfl rfl rfl ?_) <;> (refine U_go rfl ?_; refine H_free (by decide +kernel) rfl rfl rfl rfl rfl ?_) <;> (refine U_go rfl ?_; refine H_op (by decide +kernel) (O_call rfl rfl rfl rfl (by assumption)) ?_) <;> (refine U_go rfl ?_; refine H_op (by decide +kernel) rfl ?_) <;> (refine U_go rfl ?_; refine H_free (by decide +kernel) rfl rfl rfl rfl rfl ?_) <;> (refine U_go rfl ?_; refine H_free (by decide +kernel) rfl rfl rfl rfl rfl ?_) <;> (refine U_go rfl ?_; refine H_free (by decide +kernel) rfl rfl rfl rfl rfl ?_) <;> (refine U_go rfl ?_; refine H_op (by decide +kernel) rfl ?_) <;> apply U_nil) | (refine W_ops (id := 18) ?_ <;> refine T_ch 2 rfl ?_ <;> (refine T_go rfl ?_; refine G_op (O_call rfl rfl rfl rfl (by assumption)) ?_) <;> refine T_ch 1 rfl ?_ <;> apply T_nil) | (refine W_ops (id := 19) ?_ <;> refine T_ch 2 rfl ?_ <;> (refine T_go rfl ?_; first | refine G_true (O_call rfl rfl rfl rfl (by assumption)) rfl ?_ | refine G_false (O_call rfl rfl rfl rfl (by assumption)) rfl ?_ | refine G_true (O_call rfl rfl rfl rfl (by assumption)) (by with_reducible assumption) ?_ | refine G_false (O_call rfl rfl rfl rfl (by assumption)) (by with_reducible assumption) ?_ | refine G_true (O_call rfl rfl rfl rfl (by assumption)) (by assumption) ?_ | refine G_false (O_call rfl rfl rfl rfl (by assumption)) (by assumption) ?_ | refine G_split (O_call rfl rfl rfl rfl (by assumption)) (fun _ => ?_) (fun _ => ?_)) <;> apply T_nil) | (refine W_ops (id := 21) ?_ <;> refine T_ch 5 rfl ?_ <;> (refine T_go rfl ?_; refine G_op (O_call rfl rfl rfl rfl (by assumption)) ?_) <;> apply T_nil) | (refine W_dops (id := 22) (bs := [0, 1, 0, 0, 0, 0, 32, 96, 224, 496, 1016, 0, 0, 8191, 16383, 32767, 32767, 131071]) (by decide +kernel) ?_ <;> (refine U_go rfl ?_; refine H_free (by decide +kernel) rfl rfl rfl rfl rfl ?_) <;> (refine U_go rfl ?_; refine H_free (by decide +kernel) rfl rfl rfl rfl rfl ?_) <;> (refine U_go rfl ?_; refine H_free (by decide +kernel) rfl rfl rfl rfl rfl ?_) <;> (refine U_go rfl ?_; refine H_free (by decide +kernel) rfl rfl rfl rfl rfl ?_) <;> (refine U_go rfl ?_; refine H_free (by decide +kernel) rfl rfl rfl rfl rfl ?_) <;> (refine U_go rfl ?_; refine H_free (by decide +kernel) rfl rfl rfl rfl rfl ?_) <;> (refine U_go rfl ?_; refine H_free (by decide +kernel) rfl rfl rfl rfl rfl ?_) <;> (refine U_go rfl ?_; first | refine H_free (by decide +kernel) rfl (O_index rfl rfl rfl rfl rfl (by assumption)) rfl rfl rfl ?_ | refine H_free (by decide +kernel) rfl (O_indexI rfl rfl rfl rfl rfl (by assumption)) rfl rfl rfl ?_ | refine H_free (by decide +kernel) rfl (O_indexH rfl rfl rfl rfl rfl (by assumption) (by assumption) (by assumption)) rfl rfl rfl ?_ | refine H_free (by decide +kernel) rfl (O_indexHI rfl rfl rfl rfl rfl (by assumption) (by assumption) (by assumption)) rfl rfl rfl ?_ | refine H_free (by decide +kernel) rfl rfl rfl rfl rfl ?_) <;> (refine U_go rfl ?_; first | refine H_free (by decide +kernel) rfl rfl rfl rfl rfl ?_ | refine H_free (by decide +kernel) rfl (O_loadS rfl rfl rfl rfl (by assumption) rfl rfl) rfl rfl rfl ?_ | refine H_free (by decide +kernel) rfl (O_loadH rfl rfl rfl (by assumption) rfl rfl) rfl rfl rfl ?_ | refine H_free (by decide +kernel) rfl (O_loadH rfl rfl rfl (by assumption) rfl (by assumption)) rfl rfl rfl ?_) <;> (refine U_go rfl ?_; first | refine H_free (by decide +kernel) rfl (O_call rfl rfl rfl rfl (by assumption)) rfl rfl rfl ?_ | refine H_make (by decide +kernel) rfl (O_call rfl rfl rfl rfl (by assumption)) rfl rfl rfl ?_) <;> (refine U_go rfl ?_; refine H_free (by decide +kernel) rfl rfl rfl rfl rfl ?_) <;> (refine U_go rfl ?_; refine H_free (by decide +kernel) rfl rfl rfl rfl rfl ?_) <;> (refine U_go rfl ?_; refine H_free (by decide +kernel) rfl rfl rfl rfl rfl ?_) <;> (refine U_go rfl ?_; refine H_op (by decide +kernel) (O_call rfl rfl rfl rfl (by assumption)) ?_) <;> (refine U_go rfl ?_; refine H_op (by decide +kernel) rfl ?_) <;> (refine U_go rfl ?_; refine H_free (by decide +kernel) rfl rfl rfl rfl rfl ?_) <;> (refine U_go rfl ?_; refine H_free (by decide +kernel) rfl rfl rfl rfl rfl ?_) <;> (refine U_go rfl ?_; refine H_op (by decide +kernel) rfl ?_) <;> apply U_nil) | refine W_region (id := 23) rfl ?_ | apply W_skip | apply W_block | apply W_ret | apply W_exit | refine W_true rfl (by assumption) ?_ | refine W_false rfl (by assumption) ?_ | refine W_cond rfl (fun _ => ?_) (fun _ => ?_)))
            exact ⟨⟨qlv, X1.1, X1.2, H6, O6, qid⟩, rfl, w1, w2, g6, n6, w5, p3, hFr6, j8, j9⟩
          · rw [if_neg hs] at w8
            rw [decide_eq_false hs] at hEq
            have hlt3 : roomL fx < roomL qlv := by
              rcases f3 with f3 | f3
              · exact absurd f3 hs
              · exact f3
            obtain ⟨xo, xn, xc, xs⟩ := x0
            (repeat' (first | apply W_seq | refine W_true rfl rfl ?_ | refine W_false rfl rfl ?_ | (refine W_dops (id := 17) (bs := [0, 1, 0, 0, 0, 0, 32, 96, 224, 496, 1016, 0, 4095, 8191, 16383, 16383, 32767, 131071]) (by decide +kernel) ?_ <;> (refine U_go rfl ?_; refine H_free (by decide +kernel) rfl rfl rfl rfl rfl ?_) <;> (refine U_go rfl ?_; refine H_free (by decide +kernel) rfl rfl rfl rfl rfl ?_) <;> (refine U_go rfl ?_; refine H_free (by decide +kernel) rfl rfl rfl rfl rfl ?_) <;> (refine U_go rfl ?_; refine H_free (by decide +kernel) rfl rfl rfl rfl rfl ?_) <;> (refine U_go rfl ?_; refine H_free (by decide +kernel) rfl rfl rfl rfl rfl ?_) <;> (refine U_go rfl ?_; refine H_free (by decide +kernel) rfl rfl rfl rfl rfl ?_) <;> (refine U_go rfl ?_; refine H_free (by decide +kernel) rfl rfl rfl rfl rfl ?_) <;> (refine U_go rfl ?_; first | refine H_free (by decide +kernel) rfl (O_index rfl rfl rfl rfl rfl (by assumption)) rfl rfl rfl ?_ | refine H_free (by decide +kernel) rfl (O_indexI rfl rfl rfl rfl rfl (by assumption)) rfl rfl rfl ?_ | refine H_free (by decide +kernel) rfl (O_indexH rfl rfl rfl rfl rfl (by assumption) (by assumption) (by assumption)) rfl rfl rfl ?_ | refine H_free (by decide +kernel) rfl (O_indexHI rfl rfl rfl rfl rfl (by assumption) (by assumption) (by assumption)) rfl rfl rfl ?_ | refine H_free (by decide +kernel) rfl rfl rfl rfl rfl ?_) <;> (refine U_go rfl ?_; first | refine H_free (by decide +kernel) rfl rfl rfl rfl rfl ?_ | refine H_free (by decide +kernel) rfl (O_loadS rfl rfl rfl rfl (by assumption) rfl rfl) rfl rfl rfl ?_ | refine H_free (by decide +kernel) rfl (O_loadH rfl rfl rfl (by assumption) rfl rfl) rfl rfl rfl ?_ | refine H_free (by decide +kernel) rfl (O_loadH rfl rfl rfl (by assumption) rfl (by assumption)) rfl rfl rfl ?_) <;> (refine U_go rfl ?_; first | refine H_free (by decide +kernel) rfl (O_call rfl rfl rfl rfl (by assumption)) rfl rfl rfl ?_ | refine H_make (by decide +kernel) rfl (O_call rfl rfl rfl rfl (by assumption)) rfl rfl rfl ?_) <;> (refine U_go rfl ?_; refine H_free (by decide +kernel) rfl rfl rfl rfl rfl ?_) <;> (refine U_go rfl ?_; refine H_free (by decide +kernel) rfl rfl rfl rfl rfl ?_) <;> (refine U_go rfl ?_; refine H_op (by decide +kernel) (O_call rfl rfl rfl rfl (by assumption)) ?_) <;> (refine U_go rfl ?_; refine H_op (by decide +kernel) rfl ?_) <;> (refine U_go rfl ?_; refine H_free (by decide +kernel) rfl rfl rfl rfl rfl ?_) <;> (refine U_go rfl ?_; refine H_free (by decide +kernel) rfl rfl rfl rfl rfl ?_) <;> (refine U_go rfl ?_; refine H_free (by decide +kernel) rfl rfl rfl rfl rfl ?_) <;> (refine U_go rfl ?_; refine H_op (by decide +kernel) rfl ?_) <;> apply U_nil) | (refine W_ops (id := 18) ?_ <;> refine T_ch 2 rfl ?_ <;> (refine T_go rfl ?_; refine G_op (O_call rfl rfl rfl rfl (by assumption)) ?_) <;> refine T_ch 1 rfl ?_ <;> apply T_nil) | (refine W_ops (id := 19) ?_ <;> refine T_ch 2 rfl ?_ <;> (refine T_go rfl ?_; first | refine G_true (O_call rfl rfl rfl rfl (by assumption)) rfl ?_ | refine G_false (O_call rfl rfl rfl rfl (by assumption)) rfl ?_ | refine G_true (O_call rfl rfl rfl rfl (by assumption)) (by with_reducible assumption) ?_ | refine G_false (O_call rfl rfl rfl rfl (by assumption)) (by with_reducible assumption) ?_ | refine G_true (O_call rfl rfl rfl rfl (by assumption)) (by assumption) ?_ | refine G_false (O_call rfl rfl rfl rfl (by assumption)) (by assumption) ?_ | refine G_split (O_call rfl rfl rfl rfl (by assumption)) (fun _ => ?_) (fun _ => ?_)) <;> apply T_nil) | refine W_region (id := 20) rfl ?_ | apply W_skip | apply W_block | apply W_ret | apply W_exit | refine W_true rfl (by assumption) ?_ | refine W_false rfl (by assumption) ?_ | refine W_cond rfl (fun _ => ?_) (fun _ => ?_)))
            exact ⟨⟨fx, H2 ++ [.cells 3 (ic fx)], H2.length⟩, rfl, ⟨f1, f2, g3, fun q => by have h1 : H2.length < aH.length := hrg _ q; have := w6.1; have := m4.1; omega, by have := j7.1; have := w6.1; have := m4.1; show h.length ≤ H2.length; omega, hFr2, c, by show roomL fx < c; omega, w8⟩, hlt3⟩
        · have c2 : (op == 2) = false := by simp [o2]
          obtain ⟨H1, O1, s1, s2, s3⟩ := hS.run k (scs rest + b) ax aH aO aid alv ar an _ (hS.mono j6 (by omega)) j3 j4 j1 j2 har (by omega) hbm' hvm1' hloH
          have n1 := s3.not (cells_lt j3) j4
          have g1 := s3.get j3 j4
          have hP := put_run g1 hloid j1 _ hvm1' ar (k - 1) (by omega) hbm'
          rw [show k - 1 + 1 = k by omega] at hP
          have hm : mv1 putP ofH (.mk op nn a t e) alv ar = putP alv ar (.mk op nn a t e) := by rw [mv1, if_neg o1, if_neg o2]
          have hsp : sp1 putP ofH S.upd (.mk op nn a t e) alv ar ax an = (S.upd ax an (.mk op nn a t e) alv ar, IntKind.i64.wrap (an + 1)) := by rw [sp1, if_neg o1, if_neg o2]
          rw [hm] at j8 j9 q1 q2
          rw [hsp] at j9
          generalize putP alv ar (.mk op nn a t e) = pl at *
          have hBf := hS.frame (h' := H1.set aid (.cells 3 (ic pl))) s2 (by simp) (fun i hi => List.getElem?_set_ne (fun q => n1 (by rw [q]; exact hi)))
          have hget : (H1.set aid (HObj.cells 3 (ic pl)))[aid]? = some (.cells 3 (ic pl)) := List.getElem?_set_self (cells_lt g1)
          (repeat' (first | apply W_seq | refine W_true rfl rfl ?_ | refine W_false rfl rfl ?_ | (refine W_ops (id := 3) ?_ <;> (refine T_go rfl ?_; first | refine G_true rfl rfl ?_ | refine G_false rfl rfl ?_ | refine G_true rfl (by with_reducible assumption) ?_ | refine G_false rfl (by with_reducible assumption) ?_ | refine G_true rfl (by assumption) ?_ | refine G_false rfl (by assumption) ?_ | refine G_split rfl (fun _ => ?_) (fun _ => ?_)) <;> apply T_nil) | (refine W_ops (id := 4) ?_ <;> (refine T_go rfl ?_; first | refine G_op (O_index rfl rfl rfl rfl rfl (by assumption)) ?_ | refine G_op (O_indexI rfl rfl rfl rfl rfl (by assumption)) ?_ | refine G_op (O_indexH rfl rfl rfl rfl rfl (by assumption) (by assumption) (by assumption)) ?_ | refine G_op (O_indexHI rfl rfl rfl rfl rfl (by assumption) (by assumption) (by assumption)) ?_ | refine G_op rfl ?_) <;> (refine T_go rfl ?_; first | refine G_op rfl ?_ | refine G_op (O_loadS rfl rfl rfl rfl (by assumption) rfl rfl) ?_ | refine G_op (O_loadH rfl rfl rfl (by assumption) rfl rfl) ?_ | refine G_op (O_loadH rfl rfl rfl (by assumption) rfl (by assumption)) ?_) <;> refine T_ch 2 rfl ?_ <;> apply T_nil) | refine W_region (id := 5) rfl ?_ | refine W_region (id := 6) rfl ?_ | refine W_region (id := 7) rfl ?_ | (refine W_ops (id := 8) ?_ <;> refine T_ch 5 rfl ?_ <;> (refine T_go rfl ?_; refine G_op (O_call rfl rfl rfl rfl (by assumption)) ?_) <;> apply T_nil) | (refine W_ops (id := 9) ?_ <;> refine T_ch 3 rfl ?_ <;> (refine T_go rfl ?_; refine G_op (O_call rfl rfl rfl rfl (by assumption)) ?_) <;> apply T_nil) | (refine W_ops (id := 10) ?_ <;> (refine T_go rfl ?_; first | refine G_true rfl rfl ?_ | refine G_false rfl rfl ?_ | refine G_true rfl (by with_reducible assumption) ?_ | refine G_false rfl (by with_reducible assumption) ?_ | refine G_true rfl (by assumption) ?_ | refine G_false rfl (by assumption) ?_ | refine G_split rfl (fun _ => ?_) (fun _ => ?_)) <;> refine T_ch 1 rfl ?_ <;> apply T_nil) | (refine W_ops (id := 16) ?_ <;> (refine T_go rfl ?_; first | refine G_true rfl rfl ?_ | refine G_false rfl rfl ?_ | refine G_true rfl (by with_reducible assumption) ?_ | refine G_false rfl (by with_reducible assumption) ?_ | refine G_true rfl (by assumption) ?_ | refine G_false rfl (by assumption) ?_ | refine G_split rfl (fun _ => ?_) (fun _ => ?_)) <;> refine T_ch 1 rfl ?_ <;> apply T_nil) | refine W_region (id := 23) rfl ?_ | apply W_skip | apply W_block | apply W_ret | apply W_exit | refine W_true rfl (by assumption) ?_ | refine W_false rfl (by assumption) ?_ | refine W_cond rfl (fun _ => ?_) (fun _ => ?_)))
          exact ⟨⟨pl, S.upd ax an (.mk op nn a t e) alv ar, IntKind.i64.wrap (an + 1), H1.set aid (.cells 3 (ic pl)), O1, aid⟩, rfl, q1, q2, hget, n1, j5, hBf, (j7.trans s3).set j5 _, j8, j9⟩
      · intro a hJ
        have hlt := ge_sms (l := l)
        (repeat' (first | apply W_seq | refine W_true rfl rfl ?_ | refine W_false rfl rfl ?_ | (refine W_ops (id := 3) ?_ <;> (refine T_go rfl ?_; first | refine G_true rfl rfl ?_ | refine G_false rfl rfl ?_ | refine G_true rfl (by with_reducible assumption) ?_ | refine G_false rfl (by with_reducible assumption) ?_ | refine G_true rfl (by assumption) ?_ | refine G_false rfl (by assumption) ?_ | refine G_split rfl (fun _ => ?_) (fun _ => ?_)) <;> apply T_nil) | refine W_region (id := 24) rfl ?_ | apply W_skip | apply W_block | apply W_ret | apply W_exit | refine W_true rfl (by assumption) ?_ | refine W_false rfl (by assumption) ?_ | refine W_cond rfl (fun _ => ?_) (fun _ => ?_)))
        exact ⟨.inl rfl, _, rfl, a, rfl, hJ⟩
    obtain ⟨_, h1, e, rfl, _, _, h4, h5, h6, h7, h8, h9, h10⟩ := key
    rw [mvL] at h9
    rw [spL] at h10
    rw [← h9, ← h10]
    refine ⟨e.id, e.H, e.O, h1, h4, ?_, h8, h5, h6⟩
    rw [scs, Nat.zero_add] at h7
    exact h7
end Go.Proofs.Ytelobnllkhnpaaa.L
/- Types that move, in the program: All, Moved; the law LevelMoves. -/
open Go Go.Proofs Go.Ev Go.Proofs.Ytelobnllkhnpaaa.E
namespace Go.Proofs.Ytelobnllkhnpaaa.L
set_option linter.unusedVariables false
set_option linter.unusedSimpArgs false
set_option maxRecDepth 100000

theorem all_run (p : Pr') (S : See) (lo kY : Nat) (hS : SeeOk S p.vars.length lo kY) (k : Nat) (hk : smsK p.body + p.vars.length + kY + 1310 ≤ k) (hb : prB p) (hv1 : 1 ≤ p.vars.length) (hv2 : p.vars.length ≤ 18) (hvm : vmL p.vars.length p.body) (hB : lvsB (levs p))
    (x : S.σ) (h : Heap) (hlo : lo ≤ h.length) (O : Nat → Prop) (b : Nat) (hSB : S.B (scs p.body + b) x h O) :
    ∃ out : AV × Heap, call Try.prog cfg (k + 1) lo (.func 57) [.agg (prC p), .fn (.func S.f) S.caps] h = some out ∧
    ∃ (id : Nat) (O' : Nat → Prop), out.1 = .sl id 1 0 p.vars.length ∧ out.2[id]? = some (.cells 3 (ic (mvL putP ofH p.body (levs p) 0))) ∧ S.B b (spL putP ofH S.upd p.body (levs p) 0 x 0).1 out.2 O' ∧ Fr h O out.2 O' ∧ ¬ O' id ∧ h.length ≤ id := by
  have hL := levels_run p (k - 1) (by omega) (by omega) h h.length
  rw [show k - 1 + 1 = k by omega, accV_ne (levs_ne hv1)] at hL
  obtain ⟨id, H', O', m1, m2, m3, m4, m5, m6⟩ := moved_run p.vars.length hv1 hv2 k S lo kY hS p.body (levs p) 0 0 x h O (.vs 1 (intsC (levs p))) b (by omega) hb.2.1 hb.2.2 hvm (levs_len p) hB lvB0 (.inl rfl) hlo hSB
  generalize hX : (spL putP ofH S.upd p.body (levs p) 0 x 0).2 = n at m1
  have hend : ∃ (id' : Nat) (O'' : Nat → Prop), ((AV.sl id 1 0 p.vars.length, H') : AV × Heap).1 = .sl id' 1 0 p.vars.length ∧ ((AV.sl id 1 0 p.vars.length, H') : AV × Heap).2[id']? = some (.cells 3 (ic (mvL putP ofH p.body (levs p) 0))) ∧ S.B b (spL putP ofH S.upd p.body (levs p) 0 x 0).1 ((AV.sl id 1 0 p.vars.length, H') : AV × Heap).2 O'' ∧ Fr h O ((AV.sl id 1 0 p.vars.length, H') : AV × Heap).2 O'' ∧ ¬ O'' id' ∧ h.length ≤ id' := ⟨id, O', rfl, m2, m3, m4, m5, m6⟩
  generalize mvL putP ofH p.body (levs p) 0 = M at hend
  generalize (spL putP ofH S.upd p.body (levs p) 0 x 0).1 = X at hend
  generalize levs p = lv at hL m1
  obtain ⟨w, vs, body⟩ := p
  dsimp only at m1 hend
  apply W_callP Try.func57 rfl (Nat.le_of_ble_eq_true rfl) rfl rfl
  (repeat' (first | apply W_seq | refine W_true rfl rfl ?_ | refine W_false rfl rfl ?_ | refine W_region (id := 0) rfl ?_ | (refine W_dops (id := 1) (bs := [0, 1, 0, 4, 0, 31, 63, 127, 127, 255, 1023]) (by decide +kernel) ?_ <;> (refine U_go rfl ?_; refine H_free (by decide +kernel) rfl rfl rfl rfl rfl ?_) <;> (refine U_go rfl ?_; refine H_free (by decide +kernel) rfl rfl rfl rfl rfl ?_) <;> (refine U_go rfl ?_; refine H_free (by decide +kernel) rfl rfl rfl rfl rfl ?_) <;> (refine U_go rfl ?_; first | refine H_free (by decide +kernel) rfl (O_call rfl rfl rfl rfl (by assumption)) rfl rfl rfl ?_ | refine H_make (by decide +kernel) rfl (O_call rfl rfl rfl rfl (by assumption)) rfl rfl rfl ?_) <;> (refine U_go rfl ?_; refine H_free (by decide +kernel) rfl rfl rfl rfl rfl ?_) <;> (refine U_go rfl ?_; refine H_op (by decide +kernel) (O_call rfl rfl rfl rfl (by assumption)) ?_) <;> (refine U_go rfl ?_; refine H_op (by decide +kernel) rfl ?_) <;> (refine U_go rfl ?_; refine H_free (by decide +kernel) rfl rfl rfl rfl rfl ?_) <;> (refine U_go rfl ?_; refine H_free (by decide +kernel) rfl rfl rfl rfl rfl ?_) <;> (refine U_go rfl ?_; refine H_free (by decide +kernel) rfl rfl rfl rfl rfl ?_) <;> (refine U_go rfl ?_; refine H_op (by decide +kernel) rfl ?_) <;> apply U_nil) | refine W_region (id := 2) rfl ?_ | apply W_skip | apply W_block | apply W_ret | apply W_exit | refine W_true rfl (by assumption) ?_ | refine W_false rfl (by assumption) ?_ | refine W_cond rfl (fun _ => ?_) (fun _ => ?_)))
  exact ⟨.inl rfl, _, rfl, hend⟩

def updM (x : List (List AV)) (n : Int) (s : Sm') (lv : List Int) (ar : Int) : List (List AV) := x ++ flPl (n, s, lv, ar)
/-- Moved's callback: the flows so far, in a variable of its own and a list. -/
def seeM (L : Nat) : See :=
  { σ := List (List AV), upd := updM
    B := fun b x h O => Row3 x ∧ x.length + b ≤ 90000 ∧ ((x = [] ∧ h[L]? = some (.cells 41 [.nils]) ∧ ∀ i, O i ↔ i = L) ∨
      ∃ id, L < id ∧ x ≠ [] ∧ h[L]? = some (.cells 41 [.sl id 3 0 x.length]) ∧ h[id]? = some (.cells 94 x.flatten) ∧ ∀ i, O i ↔ i = L ∨ i = id)
    f := 58, caps := [.hp L 1 0] }
theorem row3_flPl {x : List (List AV)} (hx : Row3 x) (p : Pl) : Row3 (x ++ flPl p) := fun r hr => by
  rcases List.mem_append.1 hr with hr | hr
  · exact hx r hr
  · exact flPl_row p r hr
set_option maxHeartbeats 2000000 in
theorem seeM_ok (L m lo : Nat) (hlo : lo ≤ L) : SeeOk (seeM L) m lo 10 where
  frame := by
    rintro b (x : List (List AV)) h O h' ⟨h1, h2, h3⟩ hl hO
    refine ⟨h1, h2, ?_⟩
    rcases h3 with ⟨q1, q2, q3⟩ | ⟨id, q0, q1, q2, q3, q4⟩
    · exact .inl ⟨q1, by rw [hO L ((q3 L).2 rfl)]; exact q2, q3⟩
    · exact .inr ⟨id, q0, q1, by rw [hO L ((q4 L).2 (.inl rfl))]; exact q2, by rw [hO id ((q4 id).2 (.inr rfl))]; exact q3, q4⟩
  mono := by
    rintro b b' x h O ⟨h1, h2, h3⟩ hb
    exact ⟨h1, by omega, h3⟩
  rng := by
    rintro b x h O i ⟨h1, h2, h3⟩ hi
    rcases h3 with ⟨q1, q2, q3⟩ | ⟨id, q0, q1, q2, q3, q4⟩
    · rw [(q3 i).1 hi]; exact cells_lt q2
    · rcases (q4 i).1 hi with e | e
      · rw [e]; exact cells_lt q2
      · rw [e]; exact cells_lt q3
  run := by
    rintro k b (x : List (List AV)) H O id lv ar n s ⟨h1, h2, h3⟩ hg hnO hlv hB har hk hbs hvm hloH
    show ∃ (h' : Heap) (O' : Nat → Prop), call Try.prog cfg k lo (.func 58) [.int .i64 n, .agg (smC s), .sl id 1 0 m, .int .i64 ar, .hp L 1 0] H = some (.tup [], h') ∧ (seeM L).B b (x ++ flPl (n, s, lv, ar)) h' O' ∧ Fr H O h' O'
    obtain ⟨op, nn, a, t, e⟩ := s
    have hrow3 := row3_flPl h1 (n, .mk op nn a t e, lv, ar)
    rw [smK] at hk
    rw [smB] at hbs
    rw [vm1] at hvm
    obtain ⟨⟨ha1, ha2⟩, _⟩ := hbs
    have hA := ofAllV_run hg a (k - 3) (by omega) ha1 ha2 (by rw [hlv]; exact hvm.1) lo
    rw [show k - 3 + 2 = k - 1 by omega, hlv] at hA
    have hW := within_run (orI ar (ofEs lv 0 a)) nn (k - 2) lo H
    rw [show k - 2 + 1 = k - 1 by omega] at hW
    obtain ⟨k, rfl⟩ : ∃ k', k = k' + 1 := ⟨k - 1, by omega⟩
    rw [Nat.add_sub_cancel] at hA hW
    have stay : flPl (n, .mk op nn a t e, lv, ar) = [] → (seeM L).B b (x ++ flPl (n, .mk op nn a t e, lv, ar)) H O ∧ Fr H O H O := fun he => by
      rw [he, List.append_nil]
      exact ⟨⟨h1, by omega, h3⟩, Fr.refl H O⟩
    by_cases o3 : op = 3
    · have c3 : (op == 3) = true := by simp [o3]
      cases hw : withinB (orI ar (ofEs lv 0 a)) nn with
      | true =>
        rw [hw] at hW
        have hf : flPl (n, .mk op nn a t e, lv, ar) = [] := by unfold flPl flowL; dsimp only; rw [if_pos o3, if_pos hw]
        obtain ⟨s1, s2⟩ := stay hf
        refine ⟨H, O, ?_, s1, s2⟩
        apply W_call Try.func58 rfl (Nat.le_of_ble_eq_true rfl) rfl rfl
        (repeat' (first | apply W_seq | refine W_true rfl rfl ?_ | refine W_false rfl rfl ?_ | refine W_region (id := 0) rfl ?_ | (refine W_ops (id := 1) ?_ <;> refine T_ch 4 rfl ?_ <;> (refine T_go rfl ?_; refine G_op (O_call rfl rfl rfl rfl (by assumption)) ?_) <;> refine T_ch 2 rfl ?_ <;> apply T_nil) | (refine W_ops (id := 2) ?_ <;> refine T_ch 2 rfl ?_ <;> (refine T_go rfl ?_; first | refine G_true rfl rfl ?_ | refine G_false rfl rfl ?_ | refine G_true rfl (by with_reducible assumption) ?_ | refine G_false rfl (by with_reducible assumption) ?_ | refine G_true rfl (by assumption) ?_ | refine G_false rfl (by assumption) ?_ | refine G_split rfl (fun _ => ?_) (fun _ => ?_)) <;> refine T_ch 4 rfl ?_ <;> (first | refine T_skip rfl ?_ | (refine T_go rfl ?_; first | refine G_true (O_call rfl rfl rfl rfl (by assumption)) rfl ?_ | refine G_false (O_call rfl rfl rfl rfl (by assumption)) rfl ?_ | refine G_true (O_call rfl rfl rfl rfl (by assumption)) (by with_reducible assumption) ?_ | refine G_false (O_call rfl rfl rfl rfl (by assumption)) (by with_reducible assumption) ?_ | refine G_true (O_call rfl rfl rfl rfl (by assumption)) (by assumption) ?_ | refine G_false (O_call rfl rfl rfl rfl (by assumption)) (by assumption) ?_ | refine G_split (O_call rfl rfl rfl rfl (by assumption)) (fun _ => ?_) (fun _ => ?_))) <;> refine T_ch 2 rfl ?_ <;> apply T_nil) | (refine W_ops (id := 3) ?_ <;> (refine T_go rfl ?_; first | refine G_op (O_loadS rfl rfl rfl rfl (by assumption) rfl rfl) ?_ | refine G_op rfl ?_ | refine G_op (O_loadH rfl rfl rfl (by assumption) rfl rfl) ?_ | refine G_op (O_loadH rfl rfl rfl (by assumption) rfl (by assumption)) ?_) <;> refine T_ch 6 rfl ?_ <;> (refine T_go rfl ?_; first | refine G_op (O_append rfl rfl rfl rfl rfl (by assumption)) ?_ | refine G_op rfl ?_) <;> (refine T_go rfl ?_; first | refine G_op (O_storeS rfl rfl rfl rfl rfl (by assumption) (by assumption) ⟨rfl, rfl, Nat.le_of_ble_eq_true rfl⟩ rfl) ?_ | refine G_op rfl ?_ | refine G_op (O_storeH rfl rfl rfl rfl (by assumption) ⟨by assumption, rfl, rfl, Nat.le_of_ble_eq_true rfl⟩) ?_ | refine G_op (O_storeH rfl rfl rfl rfl (by assumption) (by assumption)) ?_) <;> apply T_nil) | apply W_skip | apply W_block | apply W_ret | apply W_exit | refine W_true rfl (by assumption) ?_ | refine W_false rfl (by assumption) ?_ | refine W_cond rfl (fun _ => ?_) (fun _ => ?_)))
        exact ⟨.inr rfl, rfl⟩
      | false =>
        rw [hw] at hW
        have hf : flPl (n, .mk op nn a t e, lv, ar) = [[.int .i64 n, .int .i64 (orI ar (ofEs lv 0 a)), .int .i64 nn]] := by unfold flPl flowL; dsimp only; rw [if_pos o3, if_neg (by rw [hw]; simp)]
        rw [hf] at hrow3 ⊢
        rcases h3 with ⟨q1, q2, q3⟩ | ⟨jd, q0, q1, q2, q3, q4⟩
        · subst q1
          have hL := cells_lt q2
          have hap : append cfg.tab lo H 41 .nils (.vs 3 [[.int .i64 n, .int .i64 (orI ar (ofEs lv 0 a)), .int .i64 nn]]) = some (.sl H.length 3 0 1, H ++ [.cells 94 [.int .i64 n, .int .i64 (orI ar (ofEs lv 0 a)), .int .i64 nn]]) := rfl
          have g2 : (H ++ [HObj.cells 94 [.int .i64 n, .int .i64 (orI ar (ofEs lv 0 a)), .int .i64 nn]])[L]? = some (.cells 41 [.nils]) := by rw [List.getElem?_append_left hL]; exact q2
          refine ⟨(H ++ [HObj.cells 94 [.int .i64 n, .int .i64 (orI ar (ofEs lv 0 a)), .int .i64 nn]]).set L (.cells 41 [.sl H.length 3 0 1]), fun i => i = L ∨ i = H.length, ?_, ⟨hrow3, by simp at h2 ⊢; omega, .inr ⟨H.length, hL, by simp, ?_, ?_, fun i => Iff.rfl⟩⟩, ?_⟩
          · apply W_call Try.func58 rfl (Nat.le_of_ble_eq_true rfl) rfl rfl
            (repeat' (first | apply W_seq | refine W_true rfl rfl ?_ | refine W_false rfl rfl ?_ | refine W_region (id := 0) rfl ?_ | (refine W_ops (id := 1) ?_ <;> refine T_ch 4 rfl ?_ <;> (refine T_go rfl ?_; refine G_op (O_call rfl rfl rfl rfl (by assumption)) ?_) <;> refine T_ch 2 rfl ?_ <;> apply T_nil) | (refine W_ops (id := 2) ?_ <;> refine T_ch 2 rfl ?_ <;> (refine T_go rfl ?_; first | refine G_true rfl rfl ?_ | refine G_false rfl rfl ?_ | refine G_true rfl (by with_reducible assumption) ?_ | refine G_false rfl (by with_reducible assumption) ?_ | refine G_true rfl (by assumption) ?_ | refine G_false rfl (by assumption) ?_ | refine G_split rfl (fun _ => ?_) (fun _ => ?_)) <;> refine T_ch 4 rfl ?_ <;> (first | refine T_skip rfl ?_ | (refine T_go rfl ?_; first | refine G_true (O_call rfl rfl rfl rfl (by assumption)) rfl ?_ | refine G_false (O_call rfl rfl rfl rfl (by assumption)) rfl ?_ | refine G_true (O_call rfl rfl rfl rfl (by assumption)) (by with_reducible assumption) ?_ | refine G_false (O_call rfl rfl rfl rfl (by assumption)) (by with_reducible assumption) ?_ | refine G_true (O_call rfl rfl rfl rfl (by assumption)) (by assumption) ?_ | refine G_false (O_call rfl rfl rfl rfl (by assumption)) (by assumption) ?_ | refine G_split (O_call rfl rfl rfl rfl (by assumption)) (fun _ => ?_) (fun _ => ?_))) <;> refine T_ch 2 rfl ?_ <;> apply T_nil) | (refine W_ops (id := 3) ?_ <;> (refine T_go rfl ?_; first | refine G_op (O_loadS rfl rfl rfl rfl (by assumption) rfl rfl) ?_ | refine G_op rfl ?_ | refine G_op (O_loadH rfl rfl rfl (by assumption) rfl rfl) ?_ | refine G_op (O_loadH rfl rfl rfl (by assumption) rfl (by assumption)) ?_) <;> refine T_ch 6 rfl ?_ <;> (refine T_go rfl ?_; first | refine G_op (O_append rfl rfl rfl rfl rfl (by assumption)) ?_ | refine G_op rfl ?_) <;> (refine T_go rfl ?_; first | refine G_op (O_storeS rfl rfl rfl rfl rfl (by assumption) (by assumption) ⟨rfl, rfl, Nat.le_of_ble_eq_true rfl⟩ rfl) ?_ | refine G_op rfl ?_ | refine G_op (O_storeH rfl rfl rfl rfl (by assumption) ⟨by assumption, rfl, rfl, Nat.le_of_ble_eq_true rfl⟩) ?_ | refine G_op (O_storeH rfl rfl rfl rfl (by assumption) (by assumption)) ?_) <;> apply T_nil) | apply W_skip | apply W_block | apply W_ret | apply W_exit | refine W_true rfl (by assumption) ?_ | refine W_false rfl (by assumption) ?_ | refine W_cond rfl (fun _ => ?_) (fun _ => ?_)))
            exact ⟨.inr rfl, rfl⟩
          · exact List.getElem?_set_self (by simp; omega)
          · rw [List.getElem?_set_ne (by omega)]; simp
          · refine ⟨by simp, fun i hi ho => ?_, fun i hi => ?_⟩
            · rw [List.getElem?_set_ne (fun q => ho ((q3 i).2 q.symm)), List.getElem?_append_left hi]
            · rcases hi with rfl | rfl
              · exact .inl ((q3 _).2 rfl)
              · exact .inr (Nat.le_refl _)
        · have hL := cells_lt q2
          have hJ := cells_lt q3
          have hap : append cfg.tab lo H 41 (.sl jd 3 0 x.length) (.vs 3 [[.int .i64 n, .int .i64 (orI ar (ofEs lv 0 a)), .int .i64 nn]]) = some (.sl jd 3 0 (x.length + 1), H.set jd (.cells 94 (x.flatten ++ [.int .i64 n, .int .i64 (orI ar (ofEs lv 0 a)), .int .i64 nn]))) := by
            have := append_slV (tab := cfg.tab) (lo := lo) (h := H) (t := 41) (e := 94) (id := jd) (len := x.length) (xs := x.flatten) rfl rfl q3 (by omega) (by rw [flat_len _ (fun r hr => (h1 r hr).1)]) (by decide) [[.int .i64 n, .int .i64 (orI ar (ofEs lv 0 a)), .int .i64 nn]] (by simp only [room, List.length_cons, List.length_nil]; show (x.length + (0 + 1)) * 24 ≤ _; omega) (by simp only [room, List.length_cons, List.length_nil]; omega)
            rw [List.flatten_cons, List.flatten_nil, List.append_nil] at this
            exact this
          have g2 : (H.set jd (HObj.cells 94 (x.flatten ++ [.int .i64 n, .int .i64 (orI ar (ofEs lv 0 a)), .int .i64 nn])))[L]? = some (.cells 41 [.sl jd 3 0 x.length]) := by rw [List.getElem?_set_ne (by omega)]; exact q2
          refine ⟨(H.set jd (HObj.cells 94 (x.flatten ++ [.int .i64 n, .int .i64 (orI ar (ofEs lv 0 a)), .int .i64 nn]))).set L (.cells 41 [.sl jd 3 0 (x.length + 1)]), fun i => i = L ∨ i = jd, ?_, ⟨hrow3, by simp at h2 ⊢; omega, .inr ⟨jd, q0, by simp, ?_, ?_, fun i => Iff.rfl⟩⟩, ?_⟩
          · apply W_call Try.func58 rfl (Nat.le_of_ble_eq_true rfl) rfl rfl
            (repeat' (first | apply W_seq | refine W_true rfl rfl ?_ | refine W_false rfl rfl ?_ | refine W_region (id := 0) rfl ?_ | (refine W_ops (id := 1) ?_ <;> refine T_ch 4 rfl ?_ <;> (refine T_go rfl ?_; refine G_op (O_call rfl rfl rfl rfl (by assumption)) ?_) <;> refine T_ch 2 rfl ?_ <;> apply T_nil) | (refine W_ops (id := 2) ?_ <;> refine T_ch 2 rfl ?_ <;> (refine T_go rfl ?_; first | refine G_true rfl rfl ?_ | refine G_false rfl rfl ?_ | refine G_true rfl (by with_reducible assumption) ?_ | refine G_false rfl (by with_reducible assumption) ?_ | refine G_true rfl (by assumption) ?_ | refine G_false rfl (by assumption) ?_ | refine G_split rfl (fun _ => ?_) (fun _ => ?_)) <;> refine T_ch 4 rfl ?_ <;> (first | refine T_skip rfl ?_ | (refine T_go rfl ?_; first | refine G_true (O_call rfl rfl rfl rfl (by assumption)) rfl ?_ | refine G_false (O_call rfl rfl rfl rfl (by assumption)) rfl ?_ | refine G_true (O_call rfl rfl rfl rfl (by assumption)) (by with_reducible assumption) ?_ | refine G_false (O_call rfl rfl rfl rfl (by assumption)) (by with_reducible assumption) ?_ | refine G_true (O_call rfl rfl rfl rfl (by assumption)) (by assumption) ?_ | refine G_false (O_call rfl rfl rfl rfl (by assumption)) (by assumption) ?_ | refine G_split (O_call rfl rfl rfl rfl (by assumption)) (fun _ => ?_) (fun _ => ?_))) <;> refine T_ch 2 rfl ?_ <;> apply T_nil) | (refine W_ops (id := 3) ?_ <;> (refine T_go rfl ?_; first | refine G_op (O_loadS rfl rfl rfl rfl (by assumption) rfl rfl) ?_ | refine G_op rfl ?_ | refine G_op (O_loadH rfl rfl rfl (by assumption) rfl rfl) ?_ | refine G_op (O_loadH rfl rfl rfl (by assumption) rfl (by assumption)) ?_) <;> refine T_ch 6 rfl ?_ <;> (refine T_go rfl ?_; first | refine G_op (O_append rfl rfl rfl rfl rfl (by assumption)) ?_ | refine G_op rfl ?_) <;> (refine T_go rfl ?_; first | refine G_op (O_storeS rfl rfl rfl rfl rfl (by assumption) (by assumption) ⟨rfl, rfl, Nat.le_of_ble_eq_true rfl⟩ rfl) ?_ | refine G_op rfl ?_ | refine G_op (O_storeH rfl rfl rfl rfl (by assumption) ⟨by assumption, rfl, rfl, Nat.le_of_ble_eq_true rfl⟩) ?_ | refine G_op (O_storeH rfl rfl rfl rfl (by assumption) (by assumption)) ?_) <;> apply T_nil) | apply W_skip | apply W_block | apply W_ret | apply W_exit | refine W_true rfl (by assumption) ?_ | refine W_false rfl (by assumption) ?_ | refine W_cond rfl (fun _ => ?_) (fun _ => ?_)))
            exact ⟨.inr rfl, rfl⟩
          · rw [List.getElem?_set_self (by simp; omega)]; simp
          · rw [List.getElem?_set_ne (by omega), List.getElem?_set_self hJ]; simp
          · refine ⟨by simp, fun i hi ho => ?_, fun i hi => .inl ((q4 i).2 hi)⟩
            rw [List.getElem?_set_ne (fun q => ho ((q4 i).2 (.inl q.symm))), List.getElem?_set_ne (fun q => ho ((q4 i).2 (.inr q.symm)))]
    · have c3 : (op == 3) = false := by simp [o3]
      have hf : flPl (n, .mk op nn a t e, lv, ar) = [] := by unfold flPl; dsimp only; rw [if_neg o3]
      obtain ⟨s1, s2⟩ := stay hf
      refine ⟨H, O, ?_, s1, s2⟩
      apply W_call Try.func58 rfl (Nat.le_of_ble_eq_true rfl) rfl rfl
      (repeat' (first | apply W_seq | refine W_true rfl rfl ?_ | refine W_false rfl rfl ?_ | refine W_region (id := 0) rfl ?_ | (refine W_ops (id := 1) ?_ <;> refine T_ch 4 rfl ?_ <;> (refine T_go rfl ?_; refine G_op (O_call rfl rfl rfl rfl (by assumption)) ?_) <;> refine T_ch 2 rfl ?_ <;> apply T_nil) | (refine W_ops (id := 2) ?_ <;> refine T_ch 2 rfl ?_ <;> (refine T_go rfl ?_; first | refine G_true rfl rfl ?_ | refine G_false rfl rfl ?_ | refine G_true rfl (by with_reducible assumption) ?_ | refine G_false rfl (by with_reducible assumption) ?_ | refine G_true rfl (by assumption) ?_ | refine G_false rfl (by assumption) ?_ | refine G_split rfl (fun _ => ?_) (fun _ => ?_)) <;> refine T_ch 4 rfl ?_ <;> (first | refine T_skip rfl ?_ | (refine T_go rfl ?_; first | refine G_true (O_call rfl rfl rfl rfl (by assumption)) rfl ?_ | refine G_false (O_call rfl rfl rfl rfl (by assumption)) rfl ?_ | refine G_true (O_call rfl rfl rfl rfl (by assumption)) (by with_reducible assumption) ?_ | refine G_false (O_call rfl rfl rfl rfl (by assumption)) (by with_reducible assumption) ?_ | refine G_true (O_call rfl rfl rfl rfl (by assumption)) (by assumption) ?_ | refine G_false (O_call rfl rfl rfl rfl (by assumption)) (by assumption) ?_ | refine G_split (O_call rfl rfl rfl rfl (by assumption)) (fun _ => ?_) (fun _ => ?_))) <;> refine T_ch 2 rfl ?_ <;> apply T_nil) | (refine W_ops (id := 3) ?_ <;> (refine T_go rfl ?_; first | refine G_op (O_loadS rfl rfl rfl rfl (by assumption) rfl rfl) ?_ | refine G_op rfl ?_ | refine G_op (O_loadH rfl rfl rfl (by assumption) rfl rfl) ?_ | refine G_op (O_loadH rfl rfl rfl (by assumption) rfl (by assumption)) ?_) <;> refine T_ch 6 rfl ?_ <;> (refine T_go rfl ?_; first | refine G_op (O_append rfl rfl rfl rfl rfl (by assumption)) ?_ | refine G_op rfl ?_) <;> (refine T_go rfl ?_; first | refine G_op (O_storeS rfl rfl rfl rfl rfl (by assumption) (by assumption) ⟨rfl, rfl, Nat.le_of_ble_eq_true rfl⟩ rfl) ?_ | refine G_op rfl ?_ | refine G_op (O_storeH rfl rfl rfl rfl (by assumption) ⟨by assumption, rfl, rfl, Nat.le_of_ble_eq_true rfl⟩) ?_ | refine G_op (O_storeH rfl rfl rfl rfl (by assumption) (by assumption)) ?_) <;> apply T_nil) | apply W_skip | apply W_block | apply W_ret | apply W_exit | refine W_true rfl (by assumption) ?_ | refine W_false rfl (by assumption) ?_ | refine W_cond rfl (fun _ => ?_) (fun _ => ?_)))
      exact ⟨.inr rfl, rfl⟩
end Go.Proofs.Ytelobnllkhnpaaa.L
/- Types that move: Moved in the program; the law LevelMoves. -/
open Go Go.Proofs Go.Ev Go.Proofs.Ytelobnllkhnpaaa.E
namespace Go.Proofs.Ytelobnllkhnpaaa.L
set_option linter.unusedVariables false
set_option linter.unusedSimpArgs false
set_option maxRecDepth 100000

theorem headRF_mem {all : List Vr'} : ∀ (vs : List Vr') (i sum : Int), headRF all vs i sum = true → ∀ v, v ∈ vs → nameB v.name = true ∧ varB v = true
  | [], _, _, _, v, hv => by cases hv
  | x :: vs, i, sum, h, v, hv => by
    rw [headRF] at h
    simp only [Bool.and_eq_true] at h
    obtain ⟨⟨⟨h1, h2⟩, _⟩, h4⟩ := h
    rcases List.mem_cons.1 hv with rfl | hv
    · exact ⟨h1, h2⟩
    · exact headRF_mem vs _ _ h4 v hv
theorem isP_var {p : Pr'} (h : isP p = true) {v : Vr'} (hv : v ∈ p.vars) : nameB v.name = true ∧ varB v = true := by
  unfold isP at h
  simp only [Bool.and_eq_true] at h
  have h1 := h.1.1.1
  unfold headRB at h1
  simp only [Bool.and_eq_true] at h1
  exact headRF_mem p.vars 0 0 h1.2 v hv
theorem isP_level {p : Pr'} (h : isP p = true) (hs : singleR p = true) {v : Vr'} (hv : v ∈ p.vars) : 0 ≤ v.level ∧ v.level ≤ 15 := by
  have h1 := (isP_var h hv).2
  unfold varB at h1
  simp only [Bool.and_eq_true, Bool.not_eq_true', decide_eq_false_iff_not] at h1
  unfold singleR at hs
  simp only [Bool.and_eq_true] at hs
  have h2 := List.all_eq_true.1 hs.1 v hv
  simp only [Bool.not_eq_true', decide_eq_false_iff_not] at h2
  omega
theorem levs_B {p : Pr'} (h : isP p = true) (hs : singleR p = true) : lvsB (levs p) := fun x hx => by
  obtain ⟨v, hv, rfl⟩ := List.mem_map.1 hx
  have := isP_level h hs hv
  unfold lvB; omega
theorem hand_three {h H : Heap} {a b a' b' : AV} {n : Int} (h1 : frz1 H h.length a = some a') (h2 : frz1 H h.length b = some b') (n1 : ∀ xs, a ≠ .agg xs) (n2 : ∀ xs, b ≠ .agg xs) : hand true h (.tup [a, b, .int .i64 n]) H = some (.tup [a', b', .int .i64 n], h) := by
  have q1 : frz2 H h.length a = some a' := by
    unfold frz2
    split
    · exact absurd rfl (n1 _)
    · exact h1
  have q2 : frz2 H h.length b = some b' := by
    unfold frz2
    split
    · exact absurd rfl (n2 _)
    · exact h2
  have q3 : frz2 H h.length (.int .i64 n) = some (.int .i64 n) := rfl
  unfold hand
  rw [if_pos rfl]
  simp only [frz, frzM, q1, q2, q3]

def lastP (p : Pr') : List Int := mvL putP ofH p.body (levs p) 0
def flsP (p : Pr') : List (List AV) := (plL putP ofH p.body (levs p) 0 0).flatMap flPl
theorem foldl_flat {α β : Type} (f : α → List β) : ∀ (l : List α) (x : List β), l.foldl (fun x p => x ++ f p) x = x ++ l.flatMap f
  | [], x => by simp
  | a :: l, x => by rw [List.foldl_cons, foldl_flat f l, List.flatMap_cons, List.append_assoc]
theorem spM_eq {p : Pr'} (hP : isP p = true) (hN : smsN p.body ≤ 600) : (spL putP ofH updM p.body (levs p) 0 [] 0).1 = flsP p := by
  rw [spL_eq updM p.body (levs p) 0 _ 0 (isP_rows hP) (by omega) (by omega)]
  have : updP updM = fun x q => x ++ flPl q := rfl
  dsimp only
  rw [this, foldl_flat, List.nil_append]
  rfl
set_option maxHeartbeats 1000000 in
theorem movedP_run (p : Pr') (hP : isP p = true) (hS : singleR p = true) (hN : smsN p.body ≤ 600) (k : Nat) (hk : smsK p.body + p.vars.length + 1340 ≤ k) (hb : prB p) (h : Heap) (lo : Nat) :
    call Try.prog cfg (k + 1) lo (.func 23) [.agg (prC p)] h = some (.tup [.vs 1 (intsC (lastP p)), accV 3 (flsP p), .int .i64 0], h) := by
  obtain ⟨_, hv1, hv2⟩ := isP_head hP
  have hvm := rows_vm _ (isP_rows hP)
  have hB := levs_B hP hS
  have hC := levcheck_run p (k - 1) (by omega) hb h h.length
  have hf : faultI p = 0 := by unfold faultI; rw [hP, hS]; rfl
  rw [show k - 1 + 1 = k by omega, chk_eq p hN, hf] at hC
  have hsc := scs_le p.body
  have hSB : (seeM h.length).B (scs p.body + 0) ([] : List (List AV)) (h ++ [HObj.cells 41 [.nils]]) (fun i => i = h.length) := by
    refine ⟨(fun r hr => by cases hr), (by simp; omega), .inl ⟨rfl, by simp, fun i => Iff.rfl⟩⟩
  obtain ⟨out, c1, id, O', o1, o2, o3, o4, o5, o6⟩ := all_run p (seeM h.length) h.length 10 (seeM_ok h.length p.vars.length h.length (Nat.le_refl _)) (k - 1) (by omega) hb hv1 hv2 hvm hB ([] : List (List AV)) (h ++ [HObj.cells 41 [.nils]]) (by simp) (fun i => i = h.length) 0 hSB
  have c1' : call Try.prog cfg k h.length (.func 57) [.agg (prC p), .fn (.func 58) [.hp h.length 1 0]] (h ++ [.cells 41 [.nils]]) = some out := by
    rw [show k - 1 + 1 = k by omega] at c1
    exact c1
  clear c1
  obtain ⟨ov, H'⟩ := out
  dsimp only at o1 o2 o3 o4 o6
  subst o1
  have o3' : (seeM h.length).B 0 (spL putP ofH updM p.body (levs p) 0 [] 0).1 H' O' := o3
  clear o3
  rw [spM_eq hP hN] at o3'
  have hlast : (lastP p).length = p.vars.length := (mvL_ok (mvP_ok p.vars.length) p.body (levs p) 0 (levs_len p) hB lvB0 hvm).1
  have o2' : H'[id]? = some (.cells 3 (ic (lastP p))) := o2
  have z1 := frz_ic o2' (show h.length ≤ id by simp at o6; omega)
  rw [hlast] at z1
  have z2 : ∃ ov, H'[h.length]? = some (.cells 41 [ov]) ∧ frz1 H' h.length ov = some (accV 3 (flsP p)) ∧ ∀ xs, ov ≠ .agg xs := by
    obtain ⟨r1, r2, r3⟩ := o3'
    generalize flsP p = X at r1 r2 r3
    rcases r3 with ⟨rfl, q2, _⟩ | ⟨jd, q0, q1, q2, q3, _⟩
    · exact ⟨.nils, q2, rfl, fun _ => by simp⟩
    · refine ⟨_, q2, ?_, fun _ => by simp⟩
      rw [frz_rows X (fun r hr => r1 r hr) q3 (by omega)]
      cases X with
      | nil => exact absurd rfl q1
      | cons _ _ => rfl
  obtain ⟨fv, z2, z3, z4⟩ := z2
  have hfin := hand_three (n := 0) z1 z3 (fun _ => by simp) z4
  generalize lastP p = M at hfin
  generalize flsP p = X at hfin
  obtain ⟨w, vs, body⟩ := p
  dsimp only at hfin c1'
  apply W_call Try.func23 rfl (Nat.le_of_ble_eq_true rfl) rfl rfl
  (repeat' (first | apply W_seq | refine W_true rfl rfl ?_ | refine W_false rfl rfl ?_ | refine W_region (id := 0) rfl ?_ | (refine W_ops (id := 1) ?_ <;> refine T_ch 1 rfl ?_ <;> (refine T_go rfl ?_; refine G_op (O_call rfl rfl rfl rfl (by assumption)) ?_) <;> refine T_ch 1 rfl ?_ <;> apply T_nil) | (refine W_ops (id := 2) ?_ <;> refine T_ch 1 rfl ?_ <;> (refine T_go rfl ?_; first | refine G_true rfl rfl ?_ | refine G_false rfl rfl ?_ | refine G_true rfl (by with_reducible assumption) ?_ | refine G_false rfl (by with_reducible assumption) ?_ | refine G_true rfl (by assumption) ?_ | refine G_false rfl (by assumption) ?_ | refine G_split rfl (fun _ => ?_) (fun _ => ?_)) <;> apply T_nil) | refine W_region (id := 3) rfl ?_ | refine W_region (id := 4) rfl ?_ | (refine W_ops (id := 5) ?_ <;> refine T_ch 2 rfl ?_ <;> (refine T_go rfl ?_; refine G_op (O_call rfl rfl rfl rfl (by assumption)) ?_) <;> refine T_ch 1 rfl ?_ <;> apply T_nil) | (refine W_dops (id := 6) (bs := [0, 0, 1, 7, 15]) (by decide +kernel) ?_ <;> (refine U_go rfl ?_; refine H_free (by decide +kernel) rfl rfl rfl rfl rfl ?_) <;> (refine U_go rfl ?_; first | refine H_free (by decide +kernel) rfl (O_loadS rfl rfl rfl rfl (by assumption) rfl rfl) rfl rfl rfl ?_ | refine H_free (by decide +kernel) rfl rfl rfl rfl rfl ?_ | refine H_free (by decide +kernel) rfl (O_loadH rfl rfl rfl (by assumption) rfl rfl) rfl rfl rfl ?_ | refine H_free (by decide +kernel) rfl (O_loadH rfl rfl rfl (by assumption) rfl (by assumption)) rfl rfl rfl ?_) <;> (refine U_go rfl ?_; refine H_free (by decide +kernel) rfl rfl rfl rfl rfl ?_) <;> (refine U_go rfl ?_; refine H_op (by decide +kernel) rfl ?_) <;> (refine U_go rfl ?_; refine H_op (by decide +kernel) rfl ?_) <;> apply U_nil) | apply W_skip | apply W_block | apply W_ret | apply W_exit | refine W_true rfl (by assumption) ?_ | refine W_false rfl (by assumption) ?_ | refine W_cond rfl (fun _ => ?_) (fun _ => ?_)))
  exact ⟨.inl rfl, hfin⟩
theorem movedP_bad (p : Pr') (hN : smsN p.body ≤ 600) (hf : faultI p ≠ 0) (k : Nat) (hk : smsK p.body + p.vars.length + 100 ≤ k) (hb : prB p) (h : Heap) (lo : Nat) :
    call Try.prog cfg (k + 1) lo (.func 23) [.agg (prC p)] h = some (.tup [.nils, .nils, .int .i64 (faultI p)], h) := by
  have hC := levcheck_run p (k - 1) (by omega) hb h h.length
  rw [show k - 1 + 1 = k by omega, chk_eq p hN] at hC
  rcases faultI_cases p with ⟨h0, _, _⟩ | h1 | h1
  · exact absurd h0 hf
  · rw [h1] at hC ⊢
    obtain ⟨w, vs, body⟩ := p
    apply W_call Try.func23 rfl (Nat.le_of_ble_eq_true rfl) rfl rfl
    (repeat' (first | apply W_seq | refine W_true rfl rfl ?_ | refine W_false rfl rfl ?_ | refine W_region (id := 0) rfl ?_ | (refine W_ops (id := 1) ?_ <;> refine T_ch 1 rfl ?_ <;> (refine T_go rfl ?_; refine G_op (O_call rfl rfl rfl rfl (by assumption)) ?_) <;> refine T_ch 1 rfl ?_ <;> apply T_nil) | (refine W_ops (id := 2) ?_ <;> refine T_ch 1 rfl ?_ <;> (refine T_go rfl ?_; first | refine G_true rfl rfl ?_ | refine G_false rfl rfl ?_ | refine G_true rfl (by with_reducible assumption) ?_ | refine G_false rfl (by with_reducible assumption) ?_ | refine G_true rfl (by assumption) ?_ | refine G_false rfl (by assumption) ?_ | refine G_split rfl (fun _ => ?_) (fun _ => ?_)) <;> apply T_nil) | refine W_region (id := 3) rfl ?_ | refine W_region (id := 4) rfl ?_ | (refine W_ops (id := 5) ?_ <;> refine T_ch 2 rfl ?_ <;> (refine T_go rfl ?_; refine G_op (O_call rfl rfl rfl rfl (by assumption)) ?_) <;> refine T_ch 1 rfl ?_ <;> apply T_nil) | (refine W_dops (id := 6) (bs := [0, 0, 1, 7, 15]) (by decide +kernel) ?_ <;> (refine U_go rfl ?_; refine H_free (by decide +kernel) rfl rfl rfl rfl rfl ?_) <;> (refine U_go rfl ?_; first | refine H_free (by decide +kernel) rfl (O_loadS rfl rfl rfl rfl (by assumption) rfl rfl) rfl rfl rfl ?_ | refine H_free (by decide +kernel) rfl rfl rfl rfl rfl ?_ | refine H_free (by decide +kernel) rfl (O_loadH rfl rfl rfl (by assumption) rfl rfl) rfl rfl rfl ?_ | refine H_free (by decide +kernel) rfl (O_loadH rfl rfl rfl (by assumption) rfl (by assumption)) rfl rfl rfl ?_) <;> (refine U_go rfl ?_; refine H_free (by decide +kernel) rfl rfl rfl rfl rfl ?_) <;> (refine U_go rfl ?_; refine H_op (by decide +kernel) rfl ?_) <;> (refine U_go rfl ?_; refine H_op (by decide +kernel) rfl ?_) <;> apply U_nil) | apply W_skip | apply W_block | apply W_ret | apply W_exit | refine W_true rfl (by assumption) ?_ | refine W_false rfl (by assumption) ?_ | refine W_cond rfl (fun _ => ?_) (fun _ => ?_)))
    exact ⟨.inl rfl, rfl⟩
  · rw [h1] at hC ⊢
    obtain ⟨w, vs, body⟩ := p
    apply W_call Try.func23 rfl (Nat.le_of_ble_eq_true rfl) rfl rfl
    (repeat' (first | apply W_seq | refine W_true rfl rfl ?_ | refine W_false rfl rfl ?_ | refine W_region (id := 0) rfl ?_ | (refine W_ops (id := 1) ?_ <;> refine T_ch 1 rfl ?_ <;> (refine T_go rfl ?_; refine G_op (O_call rfl rfl rfl rfl (by assumption)) ?_) <;> refine T_ch 1 rfl ?_ <;> apply T_nil) | (refine W_ops (id := 2) ?_ <;> refine T_ch 1 rfl ?_ <;> (refine T_go rfl ?_; first | refine G_true rfl rfl ?_ | refine G_false rfl rfl ?_ | refine G_true rfl (by with_reducible assumption) ?_ | refine G_false rfl (by with_reducible assumption) ?_ | refine G_true rfl (by assumption) ?_ | refine G_false rfl (by assumption) ?_ | refine G_split rfl (fun _ => ?_) (fun _ => ?_)) <;> apply T_nil) | refine W_region (id := 3) rfl ?_ | refine W_region (id := 4) rfl ?_ | (refine W_ops (id := 5) ?_ <;> refine T_ch 2 rfl ?_ <;> (refine T_go rfl ?_; refine G_op (O_call rfl rfl rfl rfl (by assumption)) ?_) <;> refine T_ch 1 rfl ?_ <;> apply T_nil) | (refine W_dops (id := 6) (bs := [0, 0, 1, 7, 15]) (by decide +kernel) ?_ <;> (refine U_go rfl ?_; refine H_free (by decide +kernel) rfl rfl rfl rfl rfl ?_) <;> (refine U_go rfl ?_; first | refine H_free (by decide +kernel) rfl (O_loadS rfl rfl rfl rfl (by assumption) rfl rfl) rfl rfl rfl ?_ | refine H_free (by decide +kernel) rfl rfl rfl rfl rfl ?_ | refine H_free (by decide +kernel) rfl (O_loadH rfl rfl rfl (by assumption) rfl rfl) rfl rfl rfl ?_ | refine H_free (by decide +kernel) rfl (O_loadH rfl rfl rfl (by assumption) rfl (by assumption)) rfl rfl rfl ?_) <;> (refine U_go rfl ?_; refine H_free (by decide +kernel) rfl rfl rfl rfl rfl ?_) <;> (refine U_go rfl ?_; refine H_op (by decide +kernel) rfl ?_) <;> (refine U_go rfl ?_; refine H_op (by decide +kernel) rfl ?_) <;> apply U_nil) | apply W_skip | apply W_block | apply W_ret | apply W_exit | refine W_true rfl (by assumption) ?_ | refine W_false rfl (by assumption) ?_ | refine W_cond rfl (fun _ => ?_) (fun _ => ?_)))
    exact ⟨.inl rfl, rfl⟩
theorem flPls_num : ∀ l : List Pl, ∃ fl : List (Int × Int × Int), l.flatMap flPl = fl.map flC
  | [] => ⟨[], rfl⟩
  | p :: l => by
    obtain ⟨f2, h2⟩ := flPls_num l
    obtain ⟨f1, h1⟩ : ∃ f1 : List (Int × Int × Int), flPl p = f1.map flC := by
      obtain ⟨n, ⟨op, nn, a, t, e⟩, lv, ar⟩ := p
      unfold flPl
      dsimp only
      split
      · exact flowL_num _ _ _
      · exact ⟨[], rfl⟩
    exact ⟨f1 ++ f2, by rw [List.flatMap_cons, h1, h2, List.map_append]⟩

theorem levelMoves_run (p : Pr') (k : Nat) (hk : smsK p.body + p.vars.length + 1400 ≤ k) (hb : prB p) (h : Heap) (lo : Nat) :
    call Try.prog cfg (k + 1) lo (.func 5) [.agg (prC p)] h = some (.bool true, h) := by
  have hA := awake_run k h.length h (by omega)
  have h1 := fitsS_run (k - 1) h h.length p.body (by omega) hb.2.1 hb.2.2 600
  rw [show k - 1 + 1 = k by omega] at h1
  cases hf : fitsS p.body 600 with
  | false =>
    rw [hf] at h1
    obtain ⟨w, vs, body⟩ := p
    apply W_call Try.func5 rfl (Nat.le_of_ble_eq_true rfl) rfl rfl
    (repeat' (first | apply W_seq | refine W_true rfl rfl ?_ | refine W_false rfl rfl ?_ | refine W_region (id := 0) rfl ?_ | (refine W_ops (id := 1) ?_ <;> refine T_ch 2 rfl ?_ <;> (refine T_go rfl ?_; first | refine G_true (O_call rfl rfl rfl rfl (by assumption)) rfl ?_ | refine G_false (O_call rfl rfl rfl rfl (by assumption)) rfl ?_ | refine G_true (O_call rfl rfl rfl rfl (by assumption)) (by with_reducible assumption) ?_ | refine G_false (O_call rfl rfl rfl rfl (by assumption)) (by with_reducible assumption) ?_ | refine G_true (O_call rfl rfl rfl rfl (by assumption)) (by assumption) ?_ | refine G_false (O_call rfl rfl rfl rfl (by assumption)) (by assumption) ?_ | refine G_split (O_call rfl rfl rfl rfl (by assumption)) (fun _ => ?_) (fun _ => ?_)) <;> refine T_ch 1 rfl ?_ <;> apply T_nil) | (refine W_ops (id := 2) ?_ <;> (refine T_go rfl ?_; first | refine G_true (O_call rfl rfl rfl rfl (by assumption)) rfl ?_ | refine G_false (O_call rfl rfl rfl rfl (by assumption)) rfl ?_ | refine G_true (O_call rfl rfl rfl rfl (by assumption)) (by with_reducible assumption) ?_ | refine G_false (O_call rfl rfl rfl rfl (by assumption)) (by with_reducible assumption) ?_ | refine G_true (O_call rfl rfl rfl rfl (by assumption)) (by assumption) ?_ | refine G_false (O_call rfl rfl rfl rfl (by assumption)) (by assumption) ?_ | refine G_split (O_call rfl rfl rfl rfl (by assumption)) (fun _ => ?_) (fun _ => ?_)) <;> refine T_ch 1 rfl ?_ <;> apply T_nil) | apply W_skip | apply W_block | apply W_ret | apply W_exit | refine W_true rfl (by assumption) ?_ | refine W_false rfl (by assumption) ?_ | refine W_cond rfl (fun _ => ?_) (fun _ => ?_)))
    all_goals exact ⟨.inl rfl, rfl⟩
  | true =>
  rw [hf] at h1
  have hN : smsN p.body ≤ 600 := by
    rw [fitsS_eq _ _ (by omega) (by omega)] at hf
    have := of_decide_eq_true hf
    omega
  have hF := fault_run p (k - 1) (by omega) hb h h.length
  rw [show k - 1 + 1 = k by omega] at hF
  rcases faultI_cases p with ⟨hf, hP, hS⟩ | hf | hf
  · rw [hf] at hF
    have hC := movedP_run p hP hS hN (k - 1) (by omega) hb h h.length
    obtain ⟨_, hv1, hv2⟩ := isP_head hP
    have hrows := isP_rows hP
    have hvm := rows_vm _ hrows
    have hB := levs_B hP hS
    have hR := movedR_run p (k - 1) (by omega) hN hb hv1 hv2 hvm hB h h.length
    have e1 : lastP p = lastR p := mvL_eq p.body (levs p) 0 hrows (levs_len p) hB lvB0
    have e2 : flsP p = (plsR p).flatMap flPl := by
      unfold flsP plsR
      rw [plL_eq p.body (levs p) 0 0 hrows (levs_len p) hB lvB0]
    rw [e1, e2] at hC
    have hlast : (lastR p).length = p.vars.length := (mvL_ok (mvR_ok p.vars p.vars.length) p.body (levs p) 0 (levs_len p) hB lvB0 hvm).1
    have hlen := plL_len (putR p.vars) ofA p.body (levs p) 0 0
    have hlen2 := flPls_len (plsR p)
    obtain ⟨fl, hfl⟩ := flPls_num (plsR p)
    rw [hfl] at hC hR hlen2
    rw [List.length_map] at hlen2
    have hlen3 : fl.length ≤ 600 := Nat.le_trans hlen2 (Nat.le_trans hlen hN)
    have hW := lawflows_run fl (k - 1) (by omega) (by omega) h h.length
    have hSm := same_run fl (k - 1) (by omega) (by omega) h h.length
    have hWs := wsame_run (lastR p) (lastR p) (by omega) (k - 1) (by omega) h h.length
    rw [show k - 1 + 1 = k by omega] at hC hR hW hSm hWs
    rw [decide_eq_true rfl] at hWs
    generalize accV 3 (fl.map flC) = V at hC hR hW hSm
    generalize intsC (lastR p) = M at hC hR hWs
    obtain ⟨w, vs, body⟩ := p
    apply W_call Try.func5 rfl (Nat.le_of_ble_eq_true rfl) rfl rfl
    (repeat' (first | apply W_seq | refine W_true rfl rfl ?_ | refine W_false rfl rfl ?_ | refine W_region (id := 0) rfl ?_ | (refine W_ops (id := 1) ?_ <;> refine T_ch 2 rfl ?_ <;> (refine T_go rfl ?_; first | refine G_true (O_call rfl rfl rfl rfl (by assumption)) rfl ?_ | refine G_false (O_call rfl rfl rfl rfl (by assumption)) rfl ?_ | refine G_true (O_call rfl rfl rfl rfl (by assumption)) (by with_reducible assumption) ?_ | refine G_false (O_call rfl rfl rfl rfl (by assumption)) (by with_reducible assumption) ?_ | refine G_true (O_call rfl rfl rfl rfl (by assumption)) (by assumption) ?_ | refine G_false (O_call rfl rfl rfl rfl (by assumption)) (by assumption) ?_ | refine G_split (O_call rfl rfl rfl rfl (by assumption)) (fun _ => ?_) (fun _ => ?_)) <;> refine T_ch 1 rfl ?_ <;> apply T_nil) | (refine W_ops (id := 3) ?_ <;> refine T_ch 1 rfl ?_ <;> (refine T_go rfl ?_; refine G_op (O_call rfl rfl rfl rfl (by assumption)) ?_) <;> refine T_ch 7 rfl ?_ <;> apply T_nil) | (refine W_ops (id := 4) ?_ <;> refine T_ch 1 rfl ?_ <;> (refine T_go rfl ?_; refine G_op (O_call rfl rfl rfl rfl (by assumption)) ?_) <;> refine T_ch 1 rfl ?_ <;> apply T_nil) | (refine W_ops (id := 5) ?_ <;> refine T_ch 1 rfl ?_ <;> (refine T_go rfl ?_; first | refine G_true rfl rfl ?_ | refine G_false rfl rfl ?_ | refine G_true rfl (by with_reducible assumption) ?_ | refine G_false rfl (by with_reducible assumption) ?_ | refine G_true rfl (by assumption) ?_ | refine G_false rfl (by assumption) ?_ | refine G_split rfl (fun _ => ?_) (fun _ => ?_)) <;> apply T_nil) | (refine W_ops (id := 7) ?_ <;> refine T_ch 1 rfl ?_ <;> (refine T_go rfl ?_; refine G_op (O_call rfl rfl rfl rfl (by assumption)) ?_) <;> refine T_ch 5 rfl ?_ <;> apply T_nil) | (refine W_ops (id := 8) ?_ <;> refine T_ch 1 rfl ?_ <;> (refine T_go rfl ?_; first | refine G_true rfl rfl ?_ | refine G_false rfl rfl ?_ | refine G_true rfl (by with_reducible assumption) ?_ | refine G_false rfl (by with_reducible assumption) ?_ | refine G_true rfl (by assumption) ?_ | refine G_false rfl (by assumption) ?_ | refine G_split rfl (fun _ => ?_) (fun _ => ?_)) <;> refine T_ch 3 rfl ?_ <;> (first | refine T_skip rfl ?_ | (refine T_go rfl ?_; first | refine G_true (O_call rfl rfl rfl rfl (by assumption)) rfl ?_ | refine G_false (O_call rfl rfl rfl rfl (by assumption)) rfl ?_ | refine G_true (O_call rfl rfl rfl rfl (by assumption)) (by with_reducible assumption) ?_ | refine G_false (O_call rfl rfl rfl rfl (by assumption)) (by with_reducible assumption) ?_ | refine G_true (O_call rfl rfl rfl rfl (by assumption)) (by assumption) ?_ | refine G_false (O_call rfl rfl rfl rfl (by assumption)) (by assumption) ?_ | refine G_split (O_call rfl rfl rfl rfl (by assumption)) (fun _ => ?_) (fun _ => ?_))) <;> refine T_ch 3 rfl ?_ <;> (first | refine T_skip rfl ?_ | (refine T_go rfl ?_; refine G_op (O_call rfl rfl rfl rfl (by assumption)) ?_)) <;> refine T_ch 1 rfl ?_ <;> (first | refine T_skip rfl ?_ | (refine T_go rfl ?_; first | refine G_true (O_call rfl rfl rfl rfl (by assumption)) rfl ?_ | refine G_false (O_call rfl rfl rfl rfl (by assumption)) rfl ?_ | refine G_true (O_call rfl rfl rfl rfl (by assumption)) (by with_reducible assumption) ?_ | refine G_false (O_call rfl rfl rfl rfl (by assumption)) (by with_reducible assumption) ?_ | refine G_true (O_call rfl rfl rfl rfl (by assumption)) (by assumption) ?_ | refine G_false (O_call rfl rfl rfl rfl (by assumption)) (by assumption) ?_ | refine G_split (O_call rfl rfl rfl rfl (by assumption)) (fun _ => ?_) (fun _ => ?_))) <;> refine T_ch 2 rfl ?_ <;> (first | refine T_skip rfl ?_ | (refine T_go rfl ?_; first | refine G_true (O_call rfl rfl rfl rfl (by assumption)) rfl ?_ | refine G_false (O_call rfl rfl rfl rfl (by assumption)) rfl ?_ | refine G_true (O_call rfl rfl rfl rfl (by assumption)) (by with_reducible assumption) ?_ | refine G_false (O_call rfl rfl rfl rfl (by assumption)) (by with_reducible assumption) ?_ | refine G_true (O_call rfl rfl rfl rfl (by assumption)) (by assumption) ?_ | refine G_false (O_call rfl rfl rfl rfl (by assumption)) (by assumption) ?_ | refine G_split (O_call rfl rfl rfl rfl (by assumption)) (fun _ => ?_) (fun _ => ?_))) <;> refine T_ch 2 rfl ?_ <;> apply T_nil) | apply W_skip | apply W_block | apply W_ret | apply W_exit | refine W_true rfl (by assumption) ?_ | refine W_false rfl (by assumption) ?_ | refine W_cond rfl (fun _ => ?_) (fun _ => ?_)))
    all_goals exact ⟨.inl rfl, rfl⟩
  · have hC := movedP_bad p hN (by omega) (k - 1) (by omega) hb h h.length
    rw [show k - 1 + 1 = k by omega] at hC
    rw [hf] at hC hF
    obtain ⟨w, vs, body⟩ := p
    apply W_call Try.func5 rfl (Nat.le_of_ble_eq_true rfl) rfl rfl
    (repeat' (first | apply W_seq | refine W_true rfl rfl ?_ | refine W_false rfl rfl ?_ | refine W_region (id := 0) rfl ?_ | (refine W_ops (id := 1) ?_ <;> refine T_ch 2 rfl ?_ <;> (refine T_go rfl ?_; first | refine G_true (O_call rfl rfl rfl rfl (by assumption)) rfl ?_ | refine G_false (O_call rfl rfl rfl rfl (by assumption)) rfl ?_ | refine G_true (O_call rfl rfl rfl rfl (by assumption)) (by with_reducible assumption) ?_ | refine G_false (O_call rfl rfl rfl rfl (by assumption)) (by with_reducible assumption) ?_ | refine G_true (O_call rfl rfl rfl rfl (by assumption)) (by assumption) ?_ | refine G_false (O_call rfl rfl rfl rfl (by assumption)) (by assumption) ?_ | refine G_split (O_call rfl rfl rfl rfl (by assumption)) (fun _ => ?_) (fun _ => ?_)) <;> refine T_ch 1 rfl ?_ <;> apply T_nil) | (refine W_ops (id := 3) ?_ <;> refine T_ch 1 rfl ?_ <;> (refine T_go rfl ?_; refine G_op (O_call rfl rfl rfl rfl (by assumption)) ?_) <;> refine T_ch 7 rfl ?_ <;> apply T_nil) | (refine W_ops (id := 4) ?_ <;> refine T_ch 1 rfl ?_ <;> (refine T_go rfl ?_; refine G_op (O_call rfl rfl rfl rfl (by assumption)) ?_) <;> refine T_ch 1 rfl ?_ <;> apply T_nil) | (refine W_ops (id := 5) ?_ <;> refine T_ch 1 rfl ?_ <;> (refine T_go rfl ?_; first | refine G_true rfl rfl ?_ | refine G_false rfl rfl ?_ | refine G_true rfl (by with_reducible assumption) ?_ | refine G_false rfl (by with_reducible assumption) ?_ | refine G_true rfl (by assumption) ?_ | refine G_false rfl (by assumption) ?_ | refine G_split rfl (fun _ => ?_) (fun _ => ?_)) <;> apply T_nil) | (refine W_ops (id := 6) ?_ <;> refine T_ch 2 rfl ?_ <;> (refine T_go rfl ?_; first | refine G_true rfl rfl ?_ | refine G_false rfl rfl ?_ | refine G_true rfl (by with_reducible assumption) ?_ | refine G_false rfl (by with_reducible assumption) ?_ | refine G_true rfl (by assumption) ?_ | refine G_false rfl (by assumption) ?_ | refine G_split rfl (fun _ => ?_) (fun _ => ?_)) <;> refine T_ch 3 rfl ?_ <;> (first | refine T_skip rfl ?_ | (refine T_go rfl ?_; first | refine G_true rfl rfl ?_ | refine G_false rfl rfl ?_ | refine G_true rfl (by with_reducible assumption) ?_ | refine G_false rfl (by with_reducible assumption) ?_ | refine G_true rfl (by assumption) ?_ | refine G_false rfl (by assumption) ?_ | refine G_split rfl (fun _ => ?_) (fun _ => ?_))) <;> refine T_ch 4 rfl ?_ <;> (first | refine T_skip rfl ?_ | (refine T_go rfl ?_; first | refine G_true rfl rfl ?_ | refine G_false rfl rfl ?_ | refine G_true rfl (by with_reducible assumption) ?_ | refine G_false rfl (by with_reducible assumption) ?_ | refine G_true rfl (by assumption) ?_ | refine G_false rfl (by assumption) ?_ | refine G_split rfl (fun _ => ?_) (fun _ => ?_))) <;> refine T_ch 2 rfl ?_ <;> (first | refine T_skip rfl ?_ | (refine T_go rfl ?_; first | refine G_true (O_call rfl rfl rfl rfl (by assumption)) rfl ?_ | refine G_false (O_call rfl rfl rfl rfl (by assumption)) rfl ?_ | refine G_true (O_call rfl rfl rfl rfl (by assumption)) (by with_reducible assumption) ?_ | refine G_false (O_call rfl rfl rfl rfl (by assumption)) (by with_reducible assumption) ?_ | refine G_true (O_call rfl rfl rfl rfl (by assumption)) (by assumption) ?_ | refine G_false (O_call rfl rfl rfl rfl (by assumption)) (by assumption) ?_ | refine G_split (O_call rfl rfl rfl rfl (by assumption)) (fun _ => ?_) (fun _ => ?_))) <;> refine T_ch 2 rfl ?_ <;> apply T_nil) | apply W_skip | apply W_block | apply W_ret | apply W_exit | refine W_true rfl (by assumption) ?_ | refine W_false rfl (by assumption) ?_ | refine W_cond rfl (fun _ => ?_) (fun _ => ?_)))
    all_goals exact ⟨.inl rfl, rfl⟩
  · have hC := movedP_bad p hN (by omega) (k - 1) (by omega) hb h h.length
    rw [show k - 1 + 1 = k by omega] at hC
    rw [hf] at hC hF
    obtain ⟨w, vs, body⟩ := p
    apply W_call Try.func5 rfl (Nat.le_of_ble_eq_true rfl) rfl rfl
    (repeat' (first | apply W_seq | refine W_true rfl rfl ?_ | refine W_false rfl rfl ?_ | refine W_region (id := 0) rfl ?_ | (refine W_ops (id := 1) ?_ <;> refine T_ch 2 rfl ?_ <;> (refine T_go rfl ?_; first | refine G_true (O_call rfl rfl rfl rfl (by assumption)) rfl ?_ | refine G_false (O_call rfl rfl rfl rfl (by assumption)) rfl ?_ | refine G_true (O_call rfl rfl rfl rfl (by assumption)) (by with_reducible assumption) ?_ | refine G_false (O_call rfl rfl rfl rfl (by assumption)) (by with_reducible assumption) ?_ | refine G_true (O_call rfl rfl rfl rfl (by assumption)) (by assumption) ?_ | refine G_false (O_call rfl rfl rfl rfl (by assumption)) (by assumption) ?_ | refine G_split (O_call rfl rfl rfl rfl (by assumption)) (fun _ => ?_) (fun _ => ?_)) <;> refine T_ch 1 rfl ?_ <;> apply T_nil) | (refine W_ops (id := 3) ?_ <;> refine T_ch 1 rfl ?_ <;> (refine T_go rfl ?_; refine G_op (O_call rfl rfl rfl rfl (by assumption)) ?_) <;> refine T_ch 7 rfl ?_ <;> apply T_nil) | (refine W_ops (id := 4) ?_ <;> refine T_ch 1 rfl ?_ <;> (refine T_go rfl ?_; refine G_op (O_call rfl rfl rfl rfl (by assumption)) ?_) <;> refine T_ch 1 rfl ?_ <;> apply T_nil) | (refine W_ops (id := 5) ?_ <;> refine T_ch 1 rfl ?_ <;> (refine T_go rfl ?_; first | refine G_true rfl rfl ?_ | refine G_false rfl rfl ?_ | refine G_true rfl (by with_reducible assumption) ?_ | refine G_false rfl (by with_reducible assumption) ?_ | refine G_true rfl (by assumption) ?_ | refine G_false rfl (by assumption) ?_ | refine G_split rfl (fun _ => ?_) (fun _ => ?_)) <;> apply T_nil) | (refine W_ops (id := 6) ?_ <;> refine T_ch 2 rfl ?_ <;> (refine T_go rfl ?_; first | refine G_true rfl rfl ?_ | refine G_false rfl rfl ?_ | refine G_true rfl (by with_reducible assumption) ?_ | refine G_false rfl (by with_reducible assumption) ?_ | refine G_true rfl (by assumption) ?_ | refine G_false rfl (by assumption) ?_ | refine G_split rfl (fun _ => ?_) (fun _ => ?_)) <;> refine T_ch 3 rfl ?_ <;> (first | refine T_skip rfl ?_ | (refine T_go rfl ?_; first | refine G_true rfl rfl ?_ | refine G_false rfl rfl ?_ | refine G_true rfl (by with_reducible assumption) ?_ | refine G_false rfl (by with_reducible assumption) ?_ | refine G_true rfl (by assumption) ?_ | refine G_false rfl (by assumption) ?_ | refine G_split rfl (fun _ => ?_) (fun _ => ?_))) <;> refine T_ch 4 rfl ?_ <;> (first | refine T_skip rfl ?_ | (refine T_go rfl ?_; first | refine G_true rfl rfl ?_ | refine G_false rfl rfl ?_ | refine G_true rfl (by with_reducible assumption) ?_ | refine G_false rfl (by with_reducible assumption) ?_ | refine G_true rfl (by assumption) ?_ | refine G_false rfl (by assumption) ?_ | refine G_split rfl (fun _ => ?_) (fun _ => ?_))) <;> refine T_ch 2 rfl ?_ <;> (first | refine T_skip rfl ?_ | (refine T_go rfl ?_; first | refine G_true (O_call rfl rfl rfl rfl (by assumption)) rfl ?_ | refine G_false (O_call rfl rfl rfl rfl (by assumption)) rfl ?_ | refine G_true (O_call rfl rfl rfl rfl (by assumption)) (by with_reducible assumption) ?_ | refine G_false (O_call rfl rfl rfl rfl (by assumption)) (by with_reducible assumption) ?_ | refine G_true (O_call rfl rfl rfl rfl (by assumption)) (by assumption) ?_ | refine G_false (O_call rfl rfl rfl rfl (by assumption)) (by assumption) ?_ | refine G_split (O_call rfl rfl rfl rfl (by assumption)) (fun _ => ?_) (fun _ => ?_))) <;> refine T_ch 2 rfl ?_ <;> apply T_nil) | apply W_skip | apply W_block | apply W_ret | apply W_exit | refine W_true rfl (by assumption) ?_ | refine W_false rfl (by assumption) ?_ | refine W_cond rfl (fun _ => ?_) (fun _ => ?_)))
    all_goals exact ⟨.inl rfl, rfl⟩
end Go.Proofs.Ytelobnllkhnpaaa.L
/- The arguments, as the evaluator's values. -/
open Go Go.Proofs Go.Ev Go.Proofs.Ytelobnllkhnpaaa.E
namespace Go.Proofs.Ytelobnllkhnpaaa.L
set_option linter.unusedVariables false
set_option linter.unusedSimpArgs false
set_option maxRecDepth 100000

section
variable {H : Type} {enc : TypeId × Value → H} {P : Program} {w : World} {spare : Nat → Bool} {held : Bool}

theorem trod_int {t : TypeId} {k : IntKind} (ht : P.underlying t = some (.int k)) {fuel : Nat} {cs : List Value} {x : DataW H × List MemPlace} (h : DataW.trod enc P w 0 spare held fuel t cs = some x) : ∃ n : Int, cs = [.int k n] := by
  cases fuel with
  | zero => cases h
  | succ fuel =>
    unfold DataW.trod at h
    rw [ht] at h
    split at h <;> first | (cases h; done) | (rename_i e; injection e with e; cases e; done) | skip
    all_goals try (rename_i e; injection e with e; injection e with e; subst e)
    · split at h
      · rename_i hc; obtain ⟨hc, _⟩ := hc; subst hc; exact ⟨_, rfl⟩
      · cases h

theorem trod_str {t : TypeId} (ht : P.underlying t = some .string) {fuel : Nat} {cs : List Value} {x : DataW H × List MemPlace} (h : DataW.trod enc P w 0 spare held fuel t cs = some x) : ∃ s : ByteArray, cs = [.string s] ∧ s.size ≤ maxLen := by
  cases fuel with
  | zero => cases h
  | succ fuel =>
    unfold DataW.trod at h
    rw [ht] at h
    split at h <;> first | (cases h; done) | (rename_i e; injection e with e; cases e; done) | skip
    · split at h
      · rename_i hc; exact ⟨_, rfl, hc⟩
      · cases h

theorem mapM_some {α β : Type} {F : α → Option β} : ∀ {l : List α} {ys : List β}, l.mapM F = some ys → ∀ x, x ∈ l → ∃ y, F x = some y
  | [], _, _, x, hx => by cases hx
  | a :: l, ys, h, x, hx => by
    rw [List.mapM_cons] at h
    cases ha : F a with
    | none => rw [ha] at h; cases h
    | some b =>
      rw [ha] at h
      cases hl : l.mapM F with
      | none => rw [hl] at h; cases h
      | some bs =>
        rcases List.mem_cons.1 hx with rfl | hx
        · exact ⟨b, ha⟩
        · exact mapM_some hl x hx

theorem trod_slice {t e : TypeId} (ht : P.underlying t = some (.slice e)) {fuel : Nat} {cs : List Value} {x : DataW H × List MemPlace} (h : DataW.trod enc P w 0 spare held (fuel + 1) t cs = some x) :
    cs = [.slice none 0 0] ∨ ∃ a len cap, cs = [.slice (some a) len cap] ∧ len ≤ cap ∧ cap ≤ maxLen ∧ ∀ i, i < len → ∃ row y, w.cells? 0 (a.add (i * P.cellsOf e)) (P.cellsOf e) = some row ∧ DataW.trod enc P w 0 spare held fuel e row = some y := by
  unfold DataW.trod at h
  rw [ht] at h
  split at h <;> first | (cases h; done) | (rename_i e; injection e with e; cases e; done) | skip
  · exact .inl rfl
  · rename_i e' a len cap he
    injection he with he; injection he with he; subst he
    dsimp only at h
    split at h
    · rename_i hc
      refine .inr ⟨a, len, cap, rfl, hc.2.1, hc.2.2, fun i hi => ?_⟩
      obtain ⟨elems, h1, h2⟩ := Option.bind_eq_some_iff.1 h
      obtain ⟨y, hy⟩ := mapM_some h1 i (List.mem_range.2 hi)
      obtain ⟨row, h3, h4⟩ := Option.bind_eq_some_iff.1 hy
      exact ⟨row, y, h3, h4⟩
    · cases h

theorem mapM_get {α β : Type} {F : α → Option β} : ∀ {l : List α} {ys : List β}, l.mapM F = some ys → ys.length = l.length ∧ ∀ (i : Nat) (x : α), l[i]? = some x → F x = ys[i]?
  | [], ys, h => by simp at h; subst h; simp
  | a :: l, ys, h => by
    rw [List.mapM_cons] at h
    cases ha : F a with
    | none => rw [ha] at h; cases h
    | some b =>
      rw [ha] at h
      cases hl : l.mapM F with
      | none => rw [hl] at h; cases h
      | some bs =>
        rw [hl] at h
        injection h with h
        subst h
        obtain ⟨h1, h2⟩ := mapM_get hl
        refine ⟨by simp [h1], fun i x hx => ?_⟩
        cases i with
        | zero => simp at hx; subst hx; exact ha
        | succ i => simp at hx; simpa using h2 i x hx

theorem cells_get {base : Nat} {a : Addr} {n : Nat} {row : List Value} (h : w.cells? base a n = some row) : row.length = n ∧ ∀ j, j < n → w.cell? (a.add j) = row[j]? := by
  unfold World.cells? at h
  split at h
  · obtain ⟨h1, h2⟩ := mapM_get h
    refine ⟨by simpa using h1, fun j hj => h2 j j (by simp [hj])⟩
  · cases h

theorem static_one {a : AV} (h : static a = true) : oneCell a = true := by cases a <;> first | rfl | (cases h; done)

/-- A slice whose elements are rows, each related to its cells. -/
theorem rel_vs {S : Nat → Prop} (hS : ∀ b, b < w.heap.size → S b) {t e : TypeId} {sz : Nat} (hsz : P.cellsOf e = sz) (ht : P.underlying t = some (.slice e)) {fuel : Nat} {v : Value} {x : DataW H × List MemPlace} (h : DataW.trod enc P w 0 spare held (fuel + 1) t [v] = some x)
    {α : Type} (C : α → List AV) (B : α → Prop) (hrow : ∀ row y, DataW.trod enc P w 0 spare held fuel e row = some y → ∃ c : α, RelVs (Ctx.start w S) (C c) row ∧ (∀ a, a ∈ C c → static a = true) ∧ B c) (h0 : 0 < sz) :
    ∃ l : List α, RelV (Ctx.start w S) (.vs sz (l.map C)) v ∧ l.length ≤ maxLen ∧ ∀ c, c ∈ l → B c := by
  rcases trod_slice ht h with hv | ⟨a, len, cap, hv, h1, h2, h3⟩
  · injection hv with hv; subst hv
    exact ⟨[], .vs (.vs (fun _ _ => undef) rfl (Nat.le_refl _) (by simp) (by simp) (by simp) (by simp)), by simp, by simp⟩
  · injection hv with hv; subst hv
    rw [hsz] at h3
    have hall : ∀ i, i < len → ∃ (row : List Value) (c : α), w.cells? 0 (a.add (i * sz)) sz = some row ∧ RelVs (Ctx.start w S) (C c) row ∧ (∀ a, a ∈ C c → static a = true) ∧ B c := fun i hi => by
      obtain ⟨row, y, q1, q2⟩ := h3 i hi
      obtain ⟨c, q3⟩ := hrow row y q2
      exact ⟨row, c, q1, q3⟩
    have hex : ∃ (l : List α), l.length = len ∧ ∀ i c, l[i]? = some c → ∃ row : List Value, w.cells? 0 (a.add (i * sz)) sz = some row ∧ RelVs (Ctx.start w S) (C c) row ∧ (∀ a, a ∈ C c → static a = true) ∧ B c := by
      clear h h1 h2 h3
      induction len with
      | zero => exact ⟨[], rfl, fun i c hi => by simp at hi⟩
      | succ n ih =>
        obtain ⟨l, q1, q2⟩ := ih (fun i hi => hall i (by omega))
        obtain ⟨row, c, q3⟩ := hall n (by omega)
        refine ⟨l ++ [c], by simp [q1], fun i c' hi => ?_⟩
        rcases Nat.lt_or_ge i l.length with hlt | hge
        · rw [List.getElem?_append_left hlt] at hi; exact q2 i c' hi
        · rw [List.getElem?_append_right hge] at hi
          have : i - l.length = 0 := by
            rcases Nat.eq_zero_or_pos (i - l.length) with e | e
            · exact e
            · rw [List.getElem?_eq_none (by simp; omega)] at hi; cases hi
          rw [this] at hi
          simp at hi; subst hi
          have : i = n := by omega
          subst this
          exact ⟨row, q3⟩
    obtain ⟨l, hl, hl2⟩ := hex
    have hcell : ∀ i c j, l[i]? = some c → j < sz → ∃ u, w.cell? (a.add (i * sz + j)) = some u ∧ ∀ y, (C c)[j]? = some y → RelV (Ctx.start w S) y u := fun i c j hi hj => by
      obtain ⟨row, q1, q2, _⟩ := hl2 i c hi
      obtain ⟨q4, q5⟩ := cells_get q1
      have := q5 j hj
      rw [add_add] at this
      refine ⟨row[j], by rw [this]; exact List.getElem?_eq_getElem (by omega), fun y hy => ?_⟩
      obtain ⟨u, q6, q7⟩ := q2.get j y hy
      rw [List.getElem?_eq_getElem (by omega)] at q6
      injection q6 with q6; rw [q6]; exact q7
    refine ⟨l, .vs (.vs (fun i j => (w.cell? (a.add (i * sz + j))).getD undef) (by simp [hl]) h1 (fun r hr => ?_) (fun _ => ⟨a, rfl⟩) (fun ad had i j hi hj => ?_) (fun i j r y hr hy => ?_)), by omega, fun c hc => ?_⟩
    · obtain ⟨c, hc, rfl⟩ := List.mem_map.1 hr
      obtain ⟨i, hi⟩ := List.mem_iff_getElem?.1 hc
      obtain ⟨row, q1, q2, q3, _⟩ := hl2 i c hi
      have := q2.len
      exact ⟨by rw [← this]; exact (cells_get q1).1, fun x hx => static_one (q3 x hx)⟩
    · injection had with had; subst had
      obtain ⟨c, hc⟩ : ∃ c, l[i]? = some c := ⟨l[i], List.getElem?_eq_getElem (by omega)⟩
      obtain ⟨u, q1, _⟩ := hcell i c j hc hj
      refine ⟨by show w.cell? _ = _; rw [q1]; rfl, hS _ ?_⟩
      have : w.cell? (a.add (i * sz + j)) = some u := q1
      unfold World.cell? at this
      rw [add_block] at this
      split at this
      · rename_i hb; exact heap_lt hb
      · cases this
    · rw [List.getElem?_map] at hr
      obtain ⟨c, hc, rfl⟩ := Option.map_eq_some_iff.1 hr
      obtain ⟨row, q1, q2, _⟩ := hl2 i c hc
      have hj : j < sz := by
        have := q2.len
        have h4 := (cells_get q1).1
        rcases Nat.lt_or_ge j (C c).length with h' | h'
        · omega
        · rw [List.getElem?_eq_none h'] at hy; cases hy
      obtain ⟨_, _, _, qs, _⟩ := hl2 i c hc
      obtain ⟨u, q3, q4⟩ := hcell i c j hc hj
      rw [q3]
      exact (q4 y hy).toT (qs y (List.mem_of_getElem? hy))
    · obtain ⟨i, hi⟩ := List.mem_iff_getElem?.1 hc
      obtain ⟨row, _, _, _, q⟩ := hl2 i c hi
      exact q

theorem trod_struct {t : TypeId} {fs : Array Field} (ht : P.underlying t = some (.struct fs)) {fuel : Nat} {cs : List Value} {x : DataW H × List MemPlace} (h : DataW.trod enc P w 0 spare held (fuel + 1) t cs = some x) :
    cs.length = P.cellsOf t ∧ ∀ f, f ∈ fs.toList → ∃ y, DataW.trod enc P w 0 spare held fuel f.type ((cs.drop f.offset).take (P.cellsOf f.type)) = some y := by
  unfold DataW.trod at h
  rw [ht] at h
  split at h <;> first | (cases h; done) | (rename_i e; injection e with e; cases e; done) | skip
  · rename_i he
    injection he with he; injection he with he; subst he
    split at h
    · rename_i hl
      refine ⟨hl, fun f hf => ?_⟩
      simp only [Option.map_eq_some_iff] at h
      obtain ⟨xs, h1, _⟩ := h
      exact mapM_some h1 f hf
    · cases h
  · exfalso
    have hh : ∀ (fs_1 : Array Field), some (TypeDesc.struct fs) = some (TypeDesc.struct fs_1) → False := by assumption
    exact hh fs rfl
end

theorem c3 : Try.prog.cellsOf 3 = 1 := by kernel_rfl
theorem c26 : Try.prog.cellsOf 26 = 1 := by kernel_rfl
theorem c28 : Try.prog.cellsOf 28 = 4 := by kernel_rfl
theorem exsC_map : ∀ l : List Ex', exsC l = l.map exC
  | [] => rfl
  | e :: l => by rw [exsC, exsC_map l]; rfl
theorem exsB_of : ∀ {l : List Ex'}, (∀ e, e ∈ l → exB e) → exsB l
  | [], _ => trivial
  | e :: l, h => ⟨h e (List.mem_cons_self ..), exsB_of fun e he => h e (List.mem_cons_of_mem _ he)⟩
theorem exC_one (e : Ex') : ∀ a, a ∈ exC e → static a = true := by
  obtain ⟨op, n, c, l⟩ := e
  intro a ha
  rw [exC] at ha
  simp only [List.mem_cons, List.not_mem_nil, or_false] at ha
  rcases ha with rfl | rfl | rfl | rfl <;> rfl
theorem maxLen_small : maxLen < 9223372036854775808 := by decide

section
variable {H : Type} {enc : TypeId × Value → H} {w : World} {spare : Nat → Bool} {held : Bool} {S : Nat → Prop}

theorem trod_exprs_of (hS : ∀ b, b < w.heap.size → S b) {fuel : Nat} (ih : ∀ row y, DataW.trod enc Try.prog w 0 spare held fuel 28 row = some y → ∃ e : Ex', RelVs (Ctx.start w S) (exC e) row ∧ exB e) {v : Value} {x : DataW H × List MemPlace}
    (h : DataW.trod enc Try.prog w 0 spare held (fuel + 1) 26 [v] = some x) : ∃ l : List Ex', RelV (Ctx.start w S) (.vs 4 (exsC l)) v ∧ l.length < 9223372036854775808 ∧ exsB l := by
  obtain ⟨l, h1, h2, h3⟩ := rel_vs hS c28 Try.underlying26 h exC exB (fun row y hy => let ⟨e, a, b⟩ := ih row y hy; ⟨e, a, exC_one e, b⟩) (by decide)
  exact ⟨l, by rw [exsC_map]; exact h1, Nat.lt_of_le_of_lt h2 maxLen_small, exsB_of h3⟩

theorem trod_expr (hS : ∀ b, b < w.heap.size → S b) : ∀ (fuel : Nat) (cs : List Value) (x : DataW H × List MemPlace), DataW.trod enc Try.prog w 0 spare held fuel 28 cs = some x → ∃ e : Ex', RelVs (Ctx.start w S) (exC e) cs ∧ exB e := by
  intro fuel
  induction fuel using Nat.strongRecOn with
  | _ fuel ih =>
    intro cs x h
    cases fuel with
    | zero => cases h
    | succ fuel =>
      obtain ⟨hl, hf⟩ := trod_struct Try.underlying28 h
      rw [c28] at hl
      match cs, hl with
      | [a0, a1, a2, a3], _ =>
        obtain ⟨y0, g0⟩ := hf _ (List.mem_cons_self ..)
        obtain ⟨y1, g1⟩ := hf _ (List.mem_cons_of_mem _ (List.mem_cons_self ..))
        obtain ⟨y2, g2⟩ := hf _ (List.mem_cons_of_mem _ (List.mem_cons_of_mem _ (List.mem_cons_self ..)))
        obtain ⟨y3, g3⟩ := hf _ (List.mem_cons_of_mem _ (List.mem_cons_of_mem _ (List.mem_cons_of_mem _ (List.mem_cons_self ..))))
        rw [c3] at g0 g1 g2
        rw [c26] at g3
        obtain ⟨n0, e0⟩ := trod_int Try.underlying3 g0
        obtain ⟨n1, e1⟩ := trod_int Try.underlying3 g1
        obtain ⟨n2, e2⟩ := trod_int Try.underlying3 g2
        simp at e0 e1 e2 g3
        subst e0 e1 e2
        cases fuel with
        | zero => cases g3
        | succ fuel =>
          obtain ⟨l, r1, r2, r3⟩ := trod_exprs_of hS (ih fuel (by omega)) g3
          exact ⟨.mk n0 n1 n2 l, .cons (.int _ _) (.cons (.int _ _) (.cons (.int _ _) (.cons r1 .nil))), r2, r3⟩

theorem trod_exprs (hS : ∀ b, b < w.heap.size → S b) (fuel : Nat) {v : Value} {x : DataW H × List MemPlace} (h : DataW.trod enc Try.prog w 0 spare held fuel 26 [v] = some x) : ∃ l : List Ex', RelV (Ctx.start w S) (.vs 4 (exsC l)) v ∧ l.length < 9223372036854775808 ∧ exsB l := by
  cases fuel with
  | zero => cases h
  | succ fuel => exact trod_exprs_of hS (trod_expr hS fuel) h

theorem c86 : Try.prog.cellsOf 86 = 5 := by kernel_rfl
theorem c23 : Try.prog.cellsOf 23 = 1 := by kernel_rfl
theorem smsC_map : ∀ l : List Sm', smsC l = l.map smC
  | [] => rfl
  | e :: l => by rw [smsC, smsC_map l]; rfl
theorem smsB_of : ∀ {l : List Sm'}, (∀ e, e ∈ l → smB e) → smsB l
  | [], _ => trivial
  | e :: l, h => ⟨h e (List.mem_cons_self ..), smsB_of fun e he => h e (List.mem_cons_of_mem _ he)⟩
theorem smC_one (e : Sm') : ∀ a, a ∈ smC e → static a = true := by
  obtain ⟨op, n, l, t, e⟩ := e
  intro a ha
  rw [smC] at ha
  simp only [List.mem_cons, List.not_mem_nil, or_false] at ha
  rcases ha with rfl | rfl | rfl | rfl | rfl <;> rfl

theorem trod_stmts_of (hS : ∀ b, b < w.heap.size → S b) {fuel : Nat} (ih : ∀ row y, DataW.trod enc Try.prog w 0 spare held fuel 86 row = some y → ∃ e : Sm', RelVs (Ctx.start w S) (smC e) row ∧ smB e) {v : Value} {x : DataW H × List MemPlace}
    (h : DataW.trod enc Try.prog w 0 spare held (fuel + 1) 23 [v] = some x) : ∃ l : List Sm', RelV (Ctx.start w S) (.vs 5 (smsC l)) v ∧ l.length < 9223372036854775808 ∧ smsB l := by
  obtain ⟨l, h1, h2, h3⟩ := rel_vs hS c86 Try.underlying23 h smC smB (fun row y hy => let ⟨e, a, b⟩ := ih row y hy; ⟨e, a, smC_one e, b⟩) (by decide)
  exact ⟨l, by rw [smsC_map]; exact h1, Nat.lt_of_le_of_lt h2 maxLen_small, smsB_of h3⟩

theorem trod_stmt (hS : ∀ b, b < w.heap.size → S b) : ∀ (fuel : Nat) (cs : List Value) (x : DataW H × List MemPlace), DataW.trod enc Try.prog w 0 spare held fuel 86 cs = some x → ∃ e : Sm', RelVs (Ctx.start w S) (smC e) cs ∧ smB e := by
  intro fuel
  induction fuel using Nat.strongRecOn with
  | _ fuel ih =>
    intro cs x h
    cases fuel with
    | zero => cases h
    | succ fuel =>
      obtain ⟨hl, hf⟩ := trod_struct Try.underlying86 h
      rw [c86] at hl
      match cs, hl with
      | [a0, a1, a2, a3, a4], _ =>
        obtain ⟨y0, g0⟩ := hf _ (List.mem_cons_self ..)
        obtain ⟨y1, g1⟩ := hf _ (List.mem_cons_of_mem _ (List.mem_cons_self ..))
        obtain ⟨y2, g2⟩ := hf _ (List.mem_cons_of_mem _ (List.mem_cons_of_mem _ (List.mem_cons_self ..)))
        obtain ⟨y3, g3⟩ := hf _ (List.mem_cons_of_mem _ (List.mem_cons_of_mem _ (List.mem_cons_of_mem _ (List.mem_cons_self ..))))
        obtain ⟨y4, g4⟩ := hf _ (List.mem_cons_of_mem _ (List.mem_cons_of_mem _ (List.mem_cons_of_mem _ (List.mem_cons_of_mem _ (List.mem_cons_self ..)))))
        rw [c3] at g0 g1
        rw [c26] at g2
        rw [c23] at g3 g4
        obtain ⟨n0, e0⟩ := trod_int Try.underlying3 g0
        obtain ⟨n1, e1⟩ := trod_int Try.underlying3 g1
        simp at e0 e1 g2 g3 g4
        subst e0 e1
        obtain ⟨l, r1, r2, r3⟩ := trod_exprs hS fuel g2
        cases fuel with
        | zero => cases g3
        | succ fuel =>
          obtain ⟨t, t1, t2, t3⟩ := trod_stmts_of hS (ih fuel (by omega)) g3
          obtain ⟨e, u1, u2, u3⟩ := trod_stmts_of hS (ih fuel (by omega)) g4
          exact ⟨.mk n0 n1 l t e, .cons (.int _ _) (.cons (.int _ _) (.cons r1 (.cons t1 (.cons u1 .nil)))), ⟨r2, r3⟩, ⟨t2, t3⟩, u2, u3⟩

theorem c76 : Try.prog.cellsOf 76 = 3 := by kernel_rfl
theorem c22 : Try.prog.cellsOf 22 = 1 := by kernel_rfl
theorem c9 : Try.prog.cellsOf 9 = 1 := by kernel_rfl
theorem c25 : Try.prog.cellsOf 25 = 3 := by kernel_rfl

theorem trod_var (fuel : Nat) (cs : List Value) (x : DataW H × List MemPlace) (h : DataW.trod enc Try.prog w 0 spare held fuel 76 cs = some x) : ∃ e : Vr', RelVs (Ctx.start w S) (vrC e) cs ∧ (∀ a, a ∈ vrC e → static a = true) ∧ vrB e := by
  cases fuel with
  | zero => cases h
  | succ fuel =>
    obtain ⟨hl, hf⟩ := trod_struct Try.underlying76 h
    rw [c76] at hl
    match cs, hl with
    | [a0, a1, a2], _ =>
      obtain ⟨y0, g0⟩ := hf _ (List.mem_cons_self ..)
      obtain ⟨y1, g1⟩ := hf _ (List.mem_cons_of_mem _ (List.mem_cons_self ..))
      obtain ⟨y2, g2⟩ := hf _ (List.mem_cons_of_mem _ (List.mem_cons_of_mem _ (List.mem_cons_self ..)))
      rw [c9] at g0
      rw [c3] at g1 g2
      obtain ⟨n0, e0, hn⟩ := trod_str Try.underlying9 g0
      obtain ⟨n1, e1⟩ := trod_int Try.underlying3 g1
      obtain ⟨n2, e2⟩ := trod_int Try.underlying3 g2
      simp at e0 e1 e2
      subst e0 e1 e2
      refine ⟨⟨n0, n1, n2⟩, .cons (.str _) (.cons (.int _ _) (.cons (.int _ _) .nil)), fun a ha => ?_, Nat.lt_of_le_of_lt hn maxLen_small⟩
      simp only [vrC, List.mem_cons, List.not_mem_nil, or_false] at ha
      rcases ha with rfl | rfl | rfl <;> rfl

theorem trod_prog (hS : ∀ b, b < w.heap.size → S b) (fuel : Nat) (cs : List Value) (x : DataW H × List MemPlace) (h : DataW.trod enc Try.prog w 0 spare held fuel 25 cs = some x) : ∃ p : Pr', RelVs (Ctx.start w S) (prC p) cs ∧ prB p := by
  cases fuel with
  | zero => cases h
  | succ fuel =>
    obtain ⟨hl, hf⟩ := trod_struct Try.underlying25 h
    rw [c25] at hl
    match cs, hl with
    | [a0, a1, a2], _ =>
      obtain ⟨y0, g0⟩ := hf _ (List.mem_cons_self ..)
      obtain ⟨y1, g1⟩ := hf _ (List.mem_cons_of_mem _ (List.mem_cons_self ..))
      obtain ⟨y2, g2⟩ := hf _ (List.mem_cons_of_mem _ (List.mem_cons_of_mem _ (List.mem_cons_self ..)))
      rw [c3] at g0
      rw [c22] at g1
      rw [c23] at g2
      obtain ⟨n0, e0⟩ := trod_int Try.underlying3 g0
      simp at e0 g1 g2
      subst e0
      cases fuel with
      | zero => cases g1
      | succ fuel =>
        obtain ⟨vs, v1, v2, v3⟩ := rel_vs hS c76 Try.underlying22 g1 vrC vrB (fun row y hy => trod_var (S := S) fuel row y hy) (by decide)
        obtain ⟨l, r1, r2, r3⟩ := trod_stmts_of hS (trod_stmt hS fuel) g2
        exact ⟨⟨n0, vs, l⟩, .cons (.int _ _) (.cons v1 (.cons r1 .nil)), ⟨Nat.lt_of_le_of_lt v2 maxLen_small, v3⟩, r2, r3⟩
end
end Go.Proofs.Ytelobnllkhnpaaa.L
/- An argument of ints. -/
open Go Go.Proofs Go.Ev Go.Proofs.Ytelobnllkhnpaaa.E
namespace Go.Proofs.Ytelobnllkhnpaaa.L
set_option linter.unusedVariables false
set_option linter.unusedSimpArgs false
set_option maxRecDepth 100000

section
variable {H : Type} {enc : TypeId × Value → H} {w : World} {spare : Nat → Bool} {held : Bool} {S : Nat → Prop}
theorem cells_int : Try.prog.cellsOf 3 = 1 := by kernel_rfl
theorem trod_ints (hS : ∀ b, b < w.heap.size → S b) (fuel : Nat) {v : Value} {x : DataW H × List MemPlace} (h : DataW.trod enc Try.prog w 0 spare held fuel 38 [v] = some x) : ∃ l : List Int, RelV (Ctx.start w S) (.vs 1 (intsC l)) v ∧ l.length < 9223372036854775808 := by
  cases fuel with
  | zero => cases h
  | succ fuel =>
    obtain ⟨l, h1, h2, _⟩ := rel_vs hS cells_int Try.underlying38 h (fun n : Int => [AV.int .i64 n]) (fun _ => True) (fun row y hy => by
      obtain ⟨n, e⟩ := trod_int Try.underlying3 hy
      subst e
      exact ⟨n, .cons (.int _ _) .nil, fun a ha => by simp at ha; subst ha; rfl, trivial⟩) (by decide)
    exact ⟨l, h1, Nat.lt_of_le_of_lt h2 maxLen_small⟩
end
end Go.Proofs.Ytelobnllkhnpaaa.L
