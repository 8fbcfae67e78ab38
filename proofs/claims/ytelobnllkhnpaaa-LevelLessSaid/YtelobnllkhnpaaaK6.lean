/- Copies of statements, in prog; prog.All; targets. -/
import Derived.Test.YtelobnllkhnpaaaK5
open Go Go.Proofs Go.Ev Go.Proofs.Ytelobnllkhnpaaa.E
namespace Go.Proofs.Ytelobnllkhnpaaa.L
set_option linter.unusedVariables false
set_option linter.unusedSimpArgs false
set_option maxHeartbeats 2000000
set_option maxRecDepth 100000

theorem copiedPs_run : ∀ (k : Nat) (l : List Ex'), exsK l + 1 ≤ k → exsK l ≤ 1000000 → ∀ (h : Heap) (lo : Nat), call Try.prog cfg k lo (.func 144) [.vs 4 (exsC l)] h = some (.vs 4 (exsC l), h)
  | 0, l, hk, _, _, _ => by have := exsK_pos l; omega
  | k + 1, l, hk, hK, h, lo => by
    have hlen := exsK_len l
    have hfin := acc_fin0 (h := h) (e := 28) (sz := 4) (by decide) (exsC l) (exsC_row l)
    apply W_call Try.func144 rfl (Nat.le_of_ble_eq_true rfl) rfl rfl
    (repeat' (first | apply W_seq | refine W_true rfl rfl ?_ | refine W_false rfl rfl ?_ | refine W_region (id := 0) rfl rfl ?_ | refine W_region (id := 1) rfl rfl ?_ | refine W_region (id := 2) rfl rfl ?_ | apply W_skip | apply W_block | apply W_ret | apply W_exit | refine W_true rfl (by assumption) ?_ | refine W_false rfl (by assumption) ?_ | refine W_cond rfl (fun _ => ?_) (fun _ => ?_)))
    apply W_iterI (S := ceS h l) (l := l) (a0 := []) (fun i rest a => a ++ rest = l ∧ a.length = i) (by omega) (by omega) rfl ⟨rfl, rfl⟩
    · intro i e rest a hi hd hil hJ
      have hrow := exsC_get _ _ _ hi
      have hlt := lt_exs hil
      have hap := ex_append h a e (by omega)
      have hm := exsK_mem1 l i _ hi
      obtain ⟨op, n, c, es⟩ := e
      rw [exK] at hm
      have ih := copiedPs_run k es (by omega) (by omega) (accH h 28 (exsC a)) h.length
      (repeat' (first | apply W_seq | refine W_true rfl rfl ?_ | refine W_false rfl rfl ?_ | (refine W_ops (id := 3) rfl ?_ <;> (refine T_go rfl ?_; refine G_true rfl (by with_reducible assumption) ?_) <;> apply T_nil) | (refine W_ops (id := 4) rfl ?_ <;> (refine T_go rfl ?_; refine G_op (O_index rfl rfl rfl rfl rfl (by assumption)) ?_) <;> (refine T_go rfl ?_; refine G_op rfl ?_) <;> refine T_ch 2 rfl ?_ <;> apply T_nil) | (refine W_ops (id := 5) rfl ?_ <;> refine T_ch 2 rfl ?_ <;> (refine T_go rfl ?_; refine G_op (O_call rfl rfl rfl rfl (by assumption)) ?_) <;> refine T_ch 2 rfl ?_ <;> apply T_nil) | (refine W_ops (id := 6) rfl ?_ <;> refine T_ch 3 rfl ?_ <;> (refine T_go rfl ?_; refine G_op (O_append rfl rfl rfl rfl rfl (by assumption)) ?_) <;> refine T_ch 1 rfl ?_ <;> apply T_nil) | refine W_region (id := 7) rfl rfl ?_ | apply W_skip | apply W_block | apply W_ret | apply W_exit | refine W_true rfl (by assumption) ?_ | refine W_false rfl (by assumption) ?_ | refine W_cond rfl (fun _ => ?_) (fun _ => ?_)))
      exact ⟨a ++ [.mk op n c es], rfl, by rw [← hJ.1]; simp, by simp [hJ.2]⟩
    · intro a hJ
      have hlt := ge_exs (l := l)
      (repeat' (first | apply W_seq | refine W_true rfl rfl ?_ | refine W_false rfl rfl ?_ | (refine W_ops (id := 3) rfl ?_ <;> (refine T_go rfl ?_; refine G_false rfl (by with_reducible assumption) ?_) <;> apply T_nil) | refine W_region (id := 8) rfl rfl ?_ | apply W_skip | apply W_block | apply W_ret | apply W_exit | refine W_true rfl (by assumption) ?_ | refine W_false rfl (by assumption) ?_ | refine W_cond rfl (fun _ => ?_) (fun _ => ?_)))
      have : a = l := by simpa using hJ.1
      subst this
      exact ⟨.inl rfl, hfin⟩

theorem smC_row' (s : Sm') : (smC s).length = 5 ∧ ∀ x, x ∈ smC s → static x = true := smC_row s
theorem sm_appendL (h : Heap) (lo : Nat) (hlo : lo ≤ h.length) (l : List Sm') (s : Sm') (hl : l.length < 1000000) : append cfg.tab lo (accH h 86 (smsC l)) 23 (accA h 5 (smsC l)) (.vs 5 [smC s]) = some (accA h 5 (smsC (l ++ [s])), accH h 86 (smsC (l ++ [s]))) := by
  have := acc_append (tab := cfg.tab) (lo := lo) (h := h) (t := 23) (e := 86) rfl rfl (by decide) hlo (smsC l) [smC s] (fun r hr => (smsC_row l r hr).1) (by rw [smsC_len]; simp only [List.length_cons, List.length_nil, room]; show (l.length + (0 + 1)) * 88 ≤ _; omega) (by rw [smsC_len]; simp [room]; omega)
  rw [this]
  simp [smsC_mp]
theorem acc_frzG {h h0 H : Heap} {e sz : Nat} (rows : List (List AV)) (hr : ∀ r, r ∈ rows → r.length = sz ∧ ∀ x, x ∈ r → static x = true) (hlo : h0.length ≤ h.length) (hH : rows ≠ [] → H[h.length]? = some (.cells e rows.flatten)) : frz1 H h0.length (accA h sz rows) = some (accV sz rows) := by
  cases rows with
  | nil => rfl
  | cons r l => exact frz_rows (T := e) (r :: l) hr (hH (by simp)) hlo
theorem scopy_fin (h : Heap) (op n : Int) (a : List Ex') (t e : List Sm') : handF (some ⟨0, [0, 0, 4, 5, 5]⟩) true h (.agg [.int .i64 op, .int .i64 n, .vs 4 (exsC a), accA h 5 (smsC t), accA (accH h 86 (smsC t)) 5 (smsC e)]) (accH (accH h 86 (smsC t)) 86 (smsC e)) = some (.agg (smC (.mk op n a t e)), h) := by
  generalize hH : accH (accH h 86 (smsC t)) 86 (smsC e) = H
  have h1 : frz1 H h.length (accA h 5 (smsC t)) = some (accV 5 (smsC t)) := by
    refine acc_frzG (e := 86) (smsC t) (smsC_row t) (Nat.le_refl _) (fun hne => ?_)
    rw [← hH]
    cases t with
    | nil => exact absurd rfl hne
    | cons x t =>
      cases e with
      | nil => simp [smsC, accH]
      | cons y e => simp [smsC, accH]
  have h2 : frz1 H h.length (accA (accH h 86 (smsC t)) 5 (smsC e)) = some (accV 5 (smsC e)) := by
    refine acc_frzG (e := 86) (smsC e) (smsC_row e) (by cases t <;> simp [smsC, accH]) (fun hne => ?_)
    rw [← hH]
    cases e with
    | nil => exact absurd rfl hne
    | cons y e => simp [smsC, accH]
  have hi : ∀ (z : Int), frz1 H h.length (.int .i64 z) = some (.int .i64 z) := fun _ => rfl
  have hv : frz1 H h.length (.vs 4 (exsC a)) = some (.vs 4 (exsC a)) := rfl
  have h3 : frz H h.length (.agg [.int .i64 op, .int .i64 n, .vs 4 (exsC a), accA h 5 (smsC t), accA (accH h 86 (smsC t)) 5 (smsC e)]) = some (.agg [.int .i64 op, .int .i64 n, .vs 4 (exsC a), accV 5 (smsC t), accV 5 (smsC e)]) := by
    simp only [frz, frz2, frzL, hi, hv, h1, h2]
  have z5 : ∀ rows : List (List AV), nilz 5 (accV 5 rows) = .vs 5 rows := fun rows => by cases rows <;> simp [accV, nilz]
  have z4 : nilz 4 (.vs 4 (exsC a)) = .vs 4 (exsC a) := rfl
  unfold handF hand
  simp only [if_true, h3, nzA, nilzL, z5, z4, smC]
  rfl
def cdS (h : Heap) (s : Sm') (l : List Sm') (i : Int) (a : List Sm') : St :=
  { env := [(1, .p 1 0), (2, .p 2 0), (3, .v (accA h 5 (smsC a))), (4, .v .nils), (14, .v (.vs 5 (smsC l))), (15, .v (.int .i64 (smsC l).length)), (16, .v (.int .i64 i))], loc := [(1, smC s), (2, [.int .i64 0, .int .i64 0, .nils, .nils, .nils])], heap := accH h 86 (smsC a), inRound := false, lo := h.length }
def ceeS (h0 h : Heap) (v : AV) (s : Sm') (l : List Sm') (i : Int) (a : List Sm') : St :=
  { env := [(1, .p 1 0), (2, .p 2 0), (3, .v v), (4, .v (accA h 5 (smsC a))), (27, .v (.vs 5 (smsC l))), (28, .v (.int .i64 (smsC l).length)), (29, .v (.int .i64 i))], loc := [(1, smC s), (2, [.int .i64 0, .int .i64 0, .nils, .nils, .nils])], heap := accH h 86 (smsC a), inRound := false, lo := h0.length }
theorem copiedP_run : ∀ (k : Nat) (s : Sm'), smK s + 1 ≤ k → smK s ≤ 100000 → ∀ (h : Heap) (lo : Nat), call Try.prog cfg k lo (.func 127) [.agg (smC s)] h = some (.agg (smC s), h)
  | 0, s, hk, _, _, _ => by omega
  | k + 1, .mk op n a t e, hk, hK, h, lo => by
    rw [smK] at hk hK
    have hlt' := smsK_len t
    have hle' := smsK_len e
    have hp1 := exsK_pos a
    have hC := copiedPs_run k a (by omega) (by omega) h h.length
    have hfin := scopy_fin h op n a t e
    apply W_call Try.func127 rfl (Nat.le_of_ble_eq_true rfl) rfl rfl
    (repeat' (first | apply W_seq | refine W_true rfl rfl ?_ | refine W_false rfl rfl ?_ | refine W_region (id := 0) rfl rfl ?_ | (refine W_ops (id := 1) rfl ?_ <;> refine T_ch 2 rfl ?_ <;> (refine T_go rfl ?_; refine G_op (O_call rfl rfl rfl rfl (by assumption)) ?_) <;> refine T_ch 2 rfl ?_ <;> apply T_nil) | refine W_region (id := 2) rfl rfl ?_ | refine W_region (id := 3) rfl rfl ?_ | apply W_skip | apply W_block | apply W_ret | apply W_exit | refine W_true rfl (by assumption) ?_ | refine W_false rfl (by assumption) ?_ | refine W_cond rfl (fun _ => ?_) (fun _ => ?_)))
    apply W_iterI (S := cdS h (.mk op n a t e) t) (l := t) (a0 := []) (fun i rest b => b ++ rest = t ∧ b.length = i) (by omega) (by omega) rfl ⟨rfl, rfl⟩
    · intro i s rest b hi hd hil hJ
      have hrow := smsC_get _ _ _ hi
      have hlt := lt_sms hil
      have hap := sm_appendL h h.length (Nat.le_refl _) b s (by omega)
      have hm := smsK_mem2 t i _ hi
      have ih := copiedP_run k s (by omega) (by omega) (accH h 86 (smsC b)) h.length
      obtain ⟨op', n', a', t', e'⟩ := s
      (repeat' (first | apply W_seq | refine W_true rfl rfl ?_ | refine W_false rfl rfl ?_ | (refine W_ops (id := 4) rfl ?_ <;> (refine T_go rfl ?_; refine G_true rfl (by with_reducible assumption) ?_) <;> apply T_nil) | (refine W_ops (id := 5) rfl ?_ <;> (refine T_go rfl ?_; refine G_op (O_index rfl rfl rfl rfl rfl (by assumption)) ?_) <;> (refine T_go rfl ?_; refine G_op rfl ?_) <;> refine T_ch 2 rfl ?_ <;> apply T_nil) | (refine W_ops (id := 6) rfl ?_ <;> refine T_ch 2 rfl ?_ <;> (refine T_go rfl ?_; refine G_op (O_call rfl rfl rfl rfl (by assumption)) ?_) <;> refine T_ch 1 rfl ?_ <;> (refine T_go rfl ?_; refine G_op (O_append rfl rfl rfl rfl rfl (by assumption)) ?_) <;> refine T_ch 1 rfl ?_ <;> apply T_nil) | refine W_region (id := 7) rfl rfl ?_ | apply W_skip | apply W_block | apply W_ret | apply W_exit | refine W_true rfl (by assumption) ?_ | refine W_false rfl (by assumption) ?_ | refine W_cond rfl (fun _ => ?_) (fun _ => ?_)))
      exact ⟨b ++ [.mk op' n' a' t' e'], rfl, by rw [← hJ.1]; simp, by simp [hJ.2]⟩
    · intro b hJ
      have hlt := ge_sms (l := t)
      have : b = t := by simpa using hJ.1
      subst this
      (repeat' (first | apply W_seq | refine W_true rfl rfl ?_ | refine W_false rfl rfl ?_ | (refine W_ops (id := 4) rfl ?_ <;> (refine T_go rfl ?_; refine G_false rfl (by with_reducible assumption) ?_) <;> apply T_nil) | refine W_region (id := 8) rfl rfl ?_ | apply W_skip | apply W_block | apply W_ret | apply W_exit | refine W_true rfl (by assumption) ?_ | refine W_false rfl (by assumption) ?_ | refine W_cond rfl (fun _ => ?_) (fun _ => ?_)))
      have hlo1 : h.length ≤ (accH h 86 (smsC b)).length := by cases b <;> simp [smsC, accH]
      apply W_iterI (S := ceeS h (accH h 86 (smsC b)) (accA h 5 (smsC b)) (.mk op n a b e) e) (l := e) (a0 := []) (fun i rest c => c ++ rest = e ∧ c.length = i) (by omega) (by omega) rfl ⟨rfl, rfl⟩
      · intro i s rest c hi hd hil hJ2
        have hrow := smsC_get _ _ _ hi
        have hlt := lt_sms hil
        have hap := sm_appendL (accH h 86 (smsC b)) h.length hlo1 c s (by omega)
        have hm := smsK_mem2 e i _ hi
        have ih := copiedP_run k s (by omega) (by omega) (accH (accH h 86 (smsC b)) 86 (smsC c)) h.length
        obtain ⟨op', n', a', t', e'⟩ := s
        (repeat' (first | apply W_seq | refine W_true rfl rfl ?_ | refine W_false rfl rfl ?_ | (refine W_ops (id := 9) rfl ?_ <;> (refine T_go rfl ?_; refine G_true rfl (by with_reducible assumption) ?_) <;> apply T_nil) | (refine W_ops (id := 10) rfl ?_ <;> (refine T_go rfl ?_; refine G_op (O_index rfl rfl rfl rfl rfl (by assumption)) ?_) <;> (refine T_go rfl ?_; refine G_op rfl ?_) <;> refine T_ch 2 rfl ?_ <;> apply T_nil) | (refine W_ops (id := 11) rfl ?_ <;> refine T_ch 2 rfl ?_ <;> (refine T_go rfl ?_; refine G_op (O_call rfl rfl rfl rfl (by assumption)) ?_) <;> refine T_ch 1 rfl ?_ <;> (refine T_go rfl ?_; refine G_op (O_append rfl rfl rfl rfl rfl (by assumption)) ?_) <;> refine T_ch 1 rfl ?_ <;> apply T_nil) | refine W_region (id := 12) rfl rfl ?_ | apply W_skip | apply W_block | apply W_ret | apply W_exit | refine W_true rfl (by assumption) ?_ | refine W_false rfl (by assumption) ?_ | refine W_cond rfl (fun _ => ?_) (fun _ => ?_)))
        exact ⟨c ++ [.mk op' n' a' t' e'], rfl, by rw [← hJ2.1]; simp, by simp [hJ2.2]⟩
      · intro c hJ2
        have hlt := ge_sms (l := e)
        have : c = e := by simpa using hJ2.1
        subst this
        cases b <;> cases c <;>
        · (repeat' (first | apply W_seq | refine W_true rfl rfl ?_ | refine W_false rfl rfl ?_ | (refine W_ops (id := 9) rfl ?_ <;> (refine T_go rfl ?_; first | refine G_false rfl rfl ?_ | refine G_false rfl (by with_reducible assumption) ?_) <;> apply T_nil) | refine W_region (id := 13) rfl rfl ?_ | refine W_region (id := 14) rfl rfl ?_ | apply W_skip | apply W_block | apply W_ret | apply W_exit | refine W_true rfl (by assumption) ?_ | refine W_false rfl (by assumption) ?_ | refine W_cond rfl (fun _ => ?_) (fun _ => ?_)))
          exact ⟨.inl rfl, hfin⟩
end Go.Proofs.Ytelobnllkhnpaaa.L
/- prog.All; targets. -/
open Go Go.Proofs Go.Ev Go.Proofs.Ytelobnllkhnpaaa.E
namespace Go.Proofs.Ytelobnllkhnpaaa.L
set_option linter.unusedVariables false
set_option linter.unusedSimpArgs false
set_option maxHeartbeats 2000000
set_option maxRecDepth 100000

/-! ### Maps of numbers -/
def mapC (l : List (Int × Int)) : List (AV × AV) := l.map fun x => (.int .i64 x.1, .int .i64 x.2)
def putI : List (Int × Int) → Int → Int → List (Int × Int)
  | [], n, v => [(n, v)]
  | (a, b) :: l, n, v => if n = a then (n, v) :: l else (a, b) :: putI l n v
def findI : List (Int × Int) → Int → Option Int
  | [], _ => none
  | (a, b) :: l, n => if n = a then some b else findI l n
theorem mapPut_I (n v : Int) : ∀ l : List (Int × Int), mapPut (.int .i64) (mapC l) (.int .i64 n) (.int .i64 v) = some (mapC (putI l n v))
  | [] => rfl
  | (a, b) :: l => by
    have ih := mapPut_I n v l
    simp only [mapC] at ih
    simp only [mapC, List.map_cons, mapPut, keyEq, putI]
    by_cases h : n = a
    · subst h; simp
    · have hb : (n == a) = false := by simpa using h
      simp [h, hb, ih]
theorem mapFind_I (n : Int) : ∀ l : List (Int × Int), mapFind (.int .i64) (mapC l) (.int .i64 n) = some ((findI l n).map (AV.int .i64))
  | [] => rfl
  | (a, b) :: l => by
    have ih := mapFind_I n l
    simp only [mapC] at ih
    simp only [mapC, List.map_cons, mapFind, keyEq, findI]
    by_cases h : n = a
    · subst h; simp
    · have hb : (n == a) = false := by simpa using h
      simp [h, hb, ih]
def lookV : Option Int → AV
  | some v => .tup [.int .i64 v, .bool true]
  | none => .tup [.int .i64 0, .bool false]
section
variable {C : Cfg} {K : Ev.Callee} {f : Nat} {s : St} {o : Oper}
theorem O_putI {t kt e id sz by_ : Nat} {zr : List AV} {m k v : Operand} {n z : Int} {l : List (Int × Int)} (ho : o.op = .mapUpdate t m k v) (ht : Go.Ev.look C.tab t = some ⟨.map kt e, sz, by_, zr⟩) (hk : ∃ a b c, Go.Ev.look C.tab kt = some ⟨.int .i64, a, b, c⟩)
    (hm : s.val m = some (.mp id)) (hx : s.val k = some (.int .i64 n)) (hv : s.val v = some (.int .i64 z)) (hH : s.heap[id]? = some (.map (mapC l))) (hlo : s.lo ≤ id) :
    oper C K f o s = some (({ s with heap := s.heap.set id (.map (mapC (putI l n z))) } : St).putv o.dst (.tup [])) := by
  obtain ⟨a, b, c, hk⟩ := hk
  unfold oper
  rw [ho]
  dsimp only
  rw [hm, hx, hv, ht]
  dsimp only
  rw [hH]
  simp only [keyKind, hk, if_pos hlo, mapPut_I, Option.map_some]
theorem O_lookI {t kt e id sz by_ : Nat} {zr : List AV} {m k : Operand} {n : Int} {l : List (Int × Int)} {r : Option Int} (ho : o.op = .lookup t m k true) (ht : Go.Ev.look C.tab t = some ⟨.map kt e, sz, by_, zr⟩) (hk : ∃ a b c, Go.Ev.look C.tab kt = some ⟨.int .i64, a, b, c⟩) {ti : TI} (he : Go.Ev.look C.tab e = some ti)
    (hz : Go.Ev.part ti ti.zero 0 = some (.int .i64 0)) (hm : s.val m = some (.mp id)) (hx : s.val k = some (.int .i64 n)) (hH : s.heap[id]? = some (.map (mapC l))) (hr : findI l n = r) : oper C K f o s = some (s.putv o.dst (lookV r)) := by
  obtain ⟨a, b, c, hk⟩ := hk
  unfold oper
  rw [ho]
  dsimp only
  rw [ht, hm, hx]
  dsimp only
  rw [hH, he]
  simp only [keyKind, hk, mapFind_I, hr]
  cases r <;> simp [hz, lookV]
end

def yU {σ : Type} (upd : σ → Int → Sm' → σ) (x : σ) (n : Int) (s : Sm') : Bool × σ := (true, upd x n s)
/-- What All leaves behind in the heap. -/
def tlA (L0 : Nat) (p : Pr') (n : Int) : Heap := [.cells 168 [.fn (.yield L0) []]] ++ [.cells 25 (prC p)] ++ [.dead] ++ [.cells 3 [.int .i64 n]]
abbrev PO (p : Pr') : HObj := .cells 25 (prC p)
theorem each1_all {σ : Type} (upd : σ → Int → Sm' → σ) (HT : σ → Heap) (L lo kY : Nat) (hL : ∀ x, (HT x).length = L) (hlo : lo ≤ L) (C1 : HObj) (rc : LoopA) (p : Pr') (hb : prB p) (x0 : σ) (N : Nat)
    (kM : Nat) (hY : ∀ (k : Nat) (s : Sm') (x : σ) (n m : Int), smK s + kY ≤ k → k ≤ kM → smB s → call Try.prog cfg k lo (.yield N) [.int .i64 n, .agg (smC s)] (HT x ++ [C1] ++ [PO p] ++ [.loop rc] ++ [.cells 3 [.int .i64 m]]) = some (.bool true, HT (upd x n s) ++ [C1] ++ [PO p] ++ [.loop rc] ++ [.cells 3 [.int .i64 m]]))
    (k : Nat) (hk : smsK p.body + kY + 3 ≤ k) (hkM : k ≤ kM + 1) :
    call Try.prog cfg k lo (.func 132) [.fn (.yield N) [], .hp (HT x0 ++ [C1]).length 3 0] (HT x0 ++ [C1] ++ [PO p] ++ [.loop rc]) = some (.tup [], HT (walkL (yU upd) p.body x0 0).2.1 ++ [C1] ++ [PO p] ++ [.loop rc] ++ [.cells 3 [.int .i64 (walkL (yU upd) p.body x0 0).2.2]]) := by
  have := each1_runM (yU upd) (fun _ => True) (fun _ _ _ _ _ => trivial) (fun x => HT x ++ [C1] ++ [PO p] ++ [HObj.loop rc]) (L + 3) lo (fun x => by simp [hL]) (by omega) (.yield N) kY kM p hb (HT x0 ++ [C1]).length x0 trivial
    (by simp) (fun k s x n m h1 h2 h3 _ => hY k s x n m h1 h2 h3) (k - 1) (by omega) (by omega)
  rw [show k - 1 + 1 = k by omega] at this
  exact this
set_option maxHeartbeats 1000000 in
theorem All1_run {σ : Type} (upd : σ → Int → Sm' → σ) (HT : σ → Heap) (L lo kY : Nat) (hL : ∀ x, (HT x).length = L) (hlo : lo ≤ L) (L0 idp : Nat) (p : Pr') (hb : prB p) (hok : okP p = true) (hK : smsK p.body ≤ 90000) (hp : ∀ x, (HT x)[idp]? = some (.cells 25 (prC p)))
    (hY : ∀ (k : Nat) (s : Sm') (x : σ) (n : Int) (tail : Heap), smK s + kY ≤ k → smB s → call Try.prog cfg k lo (.yield L0) [.int .i64 n, .agg (smC s)] (HT x ++ tail) = some (.bool true, HT (upd x n s) ++ tail))
    (k : Nat) (hk : smsK p.body + kY + 200 ≤ k) (hkM : k ≤ 90000) (x0 : σ) :
    call Try.prog cfg (k + 1) lo (.func 126) [.fn (.yield L0) [], .hp idp 3 0] (HT x0) = some (.tup [], HT (walkL (yU upd) p.body x0 0).2.1 ++ tlA L0 p (walkL (yU upd) p.body x0 0).2.2) := by
  have hC := checkP_run p (k - 1) (by omega) hb (HT x0 ++ [.cells 168 [.fn (.yield L0) []]]) lo
  rw [show k - 1 + 1 = k by omega, hok] at hC
  have hE := each_run p (k - 1) lo (HT x0 ++ [.cells 168 [.fn (.yield L0) []]])
  rw [show k - 1 + 1 = k by omega] at hE
  have hlp : idp < L := by have := cells_lt (hp x0); rw [hL] at this; exact this
  have hp0 : (HT x0 ++ [HObj.cells 168 [.fn (.yield L0) []]])[idp]? = some (.cells 25 (prC p)) := by
    rw [List.getElem?_append_left (by rw [hL]; exact hlp)]; exact hp x0
  generalize hC1 : HObj.cells 168 [.fn (.yield L0) []] = C1 at *
  have hlen : ∀ x, (HT x0 ++ [C1] ++ [PO p]).length = (HT x ++ [C1] ++ [PO p]).length := fun x => by simp [hL]
  have hset : ∀ (x : σ) (A c Y : HObj), (HT x ++ [C1] ++ [PO p] ++ [A] ++ [c]).set (HT x0 ++ [C1] ++ [PO p]).length Y = HT x ++ [C1] ++ [PO p] ++ [Y] ++ [c] := fun x A c Y => by
    rw [hlen x]; simp [List.set_append]
  have hgetN : ∀ (x : σ) (A c : HObj), (HT x ++ [C1] ++ [PO p] ++ [A] ++ [c])[(HT x0 ++ [C1] ++ [PO p]).length]? = some A := fun x A c => by
    rw [hlen x]; simp
  have hC1g : ∀ (x : σ) (A c : HObj), (HT x ++ [C1] ++ [PO p] ++ [A] ++ [c])[(HT x0).length]? = some C1 := fun x A c => by
    rw [hL x0, ← hL x]; simp
  have hlo2 : lo ≤ (HT x0 ++ [C1] ++ [PO p]).length := by simp [hL]; omega
  have hassoc : ∀ (x : σ) (A c : HObj), HT x ++ [C1] ++ [PO p] ++ [A] ++ [c] = HT x ++ ([C1] ++ [PO p] ++ [A] ++ [c]) := fun x A c => by simp
  subst hC1
  obtain ⟨w, vs, body⟩ := p
  apply W_call Try.func126 rfl (Nat.le_of_ble_eq_true rfl) rfl rfl
  (repeat' (first | apply W_seq | refine W_true rfl rfl ?_ | refine W_false rfl rfl ?_ | refine W_region (id := 0) rfl rfl ?_ | (refine W_ops (id := 1) rfl ?_ <;> (refine T_go rfl ?_; refine G_op (O_loadH rfl rfl rfl (by assumption) rfl rfl) ?_) <;> (refine T_go rfl ?_; refine G_op (O_call rfl rfl rfl rfl (by assumption)) ?_) <;> (refine T_go rfl ?_; refine G_false rfl rfl ?_) <;> apply T_nil) | (refine W_ops (id := 2) rfl ?_ <;> (refine T_go rfl ?_; refine G_op (O_loadH rfl rfl rfl (by assumption) rfl rfl) ?_) <;> (refine T_go rfl ?_; refine G_op (O_call rfl rfl rfl rfl (by assumption)) ?_) <;> apply T_nil) | apply W_skip | apply W_block | apply W_ret | apply W_exit | refine W_true rfl (by assumption) ?_ | refine W_false rfl (by assumption) ?_ | refine W_cond rfl (fun _ => ?_) (fun _ => ?_)))
  apply W_range
  case hg => rfl
  case hr => rfl
  case hlo => exact hlo2
  case hK =>
    refine each1_all upd HT L lo (kY + 100) hL hlo _ _ ⟨w, vs, body⟩ hb x0 _ 90000 ?_ k (by dsimp only at hk ⊢; omega) (by omega)
    intro k s x n m hks hkM hbs
    cases k with
    | zero => omega
    | succ k =>
    obtain ⟨op, nn, a, t, e⟩ := s
    refine W_yield (hgetN _ _ _) hlo2 rfl rfl ?_
    (repeat' (first | apply W_seq | refine W_true rfl rfl ?_ | refine W_false rfl rfl ?_ | refine W_region (id := 3) rfl rfl ?_ | refine W_region (id := 4) rfl rfl ?_ | apply W_skip | apply W_block | apply W_ret | apply W_exit | refine W_true rfl (by assumption) ?_ | refine W_false rfl (by assumption) ?_ | refine W_cond rfl (fun _ => ?_) (fun _ => ?_)))
    refine ⟨_, hgetN _ _ _, rfl, ?_⟩
    generalize hHx : List.set _ _ _ = Hx
    have hH2 := hHx.symm.trans (hset x _ _ _)
    have hg1 : Hx[(HT x0).length]? = some (.cells 168 [.fn (.yield L0) []]) := by rw [hH2]; exact hC1g x _ _
    have hcp := copiedP_run k (.mk op nn a t e) (by omega) (by omega) Hx Hx.length
    have hy := (congrArg (fun H : Heap => call Try.prog cfg k lo (.yield L0) [.int .i64 n, .agg (smC (.mk op nn a t e))] H) (hH2.trans (hassoc x _ _))).trans ((hY k (.mk op nn a t e) x n _ (by omega) hbs).trans (congrArg (fun H : Heap => some (AV.bool true, H)) (hassoc (upd x n (.mk op nn a t e)) _ _).symm))
    dsimp only at hy
    clear hHx hH2
    (repeat' (first | apply W_seq | refine W_true rfl rfl ?_ | refine W_false rfl rfl ?_ | (refine W_dops (id := 5) (bs := [0, 0, 0, 4, 15, 31]) rfl (by decide +kernel) ?_ <;> (refine U_go rfl ?_; refine H_free (by decide +kernel) rfl (O_loadH rfl rfl rfl (by assumption) rfl rfl) rfl rfl rfl ?_) <;> (refine U_go rfl ?_; refine H_free (by decide +kernel) rfl rfl rfl rfl rfl ?_) <;> (refine U_go rfl ?_; refine H_free (by decide +kernel) rfl rfl rfl rfl rfl ?_) <;> (refine U_go rfl ?_; refine H_free (by decide +kernel) rfl (O_call rfl rfl rfl rfl (by assumption)) rfl rfl rfl ?_) <;> (refine U_go rfl ?_; refine H_true (by decide +kernel) (O_call rfl rfl rfl rfl (by assumption)) rfl ?_) <;> (refine U_go rfl ?_; refine H_op (by decide +kernel) rfl ?_) <;> apply U_nil) | apply W_skip | apply W_block | apply W_ret | apply W_exit | refine W_true rfl (by assumption) ?_ | refine W_false rfl (by assumption) ?_ | refine W_cond rfl (fun _ => ?_) (fun _ => ?_)))
    exact ⟨_, hgetN (upd x n (.mk op nn a t e)) _ _, congrArg (fun H : Heap => (AV.bool true, H)) (hset (upd x n (.mk op nn a t e)) _ _ _).symm⟩
  case hl => exact hgetN _ _ _
  case hst => show (0 : Nat) ≠ 1; simp
  case k =>
    have hfin : HT (walkL (yU upd) body x0 0).2.1 ++ [HObj.cells 168 [.fn (.yield L0) []]] ++ [PO ⟨w, vs, body⟩] ++ [HObj.dead] ++ [HObj.cells 3 [.int .i64 (walkL (yU upd) body x0 0).2.2]] = HT (walkL (yU upd) body x0 0).2.1 ++ tlA L0 ⟨w, vs, body⟩ (walkL (yU upd) body x0 0).2.2 := by simp [tlA]
    dsimp only
    exact ⟨.inr rfl, (congrArg (fun H : Heap => some (AV.tup [], H)) (hset (walkL (yU upd) body x0 0).2.1 _ _ HObj.dead)).trans (congrArg (fun H : Heap => some (AV.tup [], H)) hfin)⟩

/-! ### targets -/
def updT (x : List (Int × Int)) (n : Int) : Sm' → List (Int × Int)
  | .mk op nn _ _ _ => if op = 0 ∨ op = 4 then putI x n nn else x
theorem updT_put {x : List (Int × Int)} {n op nn : Int} {a : List Ex'} {t e : List Sm'} (h : op = 0 ∨ op = 4) : updT x n (.mk op nn a t e) = putI x n nn := by unfold updT; dsimp only; rw [if_pos h]
theorem updT_not {x : List (Int × Int)} {n op nn : Int} {a : List Ex'} {t e : List Sm'} (h : ¬ (op = 0 ∨ op = 4)) : updT x n (.mk op nn a t e) = x := by unfold updT; dsimp only; rw [if_neg h]
def tgt (p : Pr') : List (Int × Int) := (walkL (yU updT) p.body [] 0).2.1
theorem All_run (p : Pr') (k lo : Nat) (h : Heap) : call Try.prog cfg (k + 1) lo (.func 99) [.agg (prC p)] h = some (.fn (.func 126) [.hp h.length 3 0], h ++ [.cells 25 (prC p)]) := by
  obtain ⟨w, vs, body⟩ := p
  apply W_call Try.func99 rfl (Nat.le_of_ble_eq_true rfl) rfl rfl
  (repeat' (first | apply W_seq | refine W_true rfl rfl ?_ | refine W_false rfl rfl ?_ | refine W_region (id := 0) rfl rfl ?_ | refine W_region (id := 1) rfl rfl ?_ | apply W_skip | apply W_block | apply W_ret | apply W_exit | refine W_true rfl (by assumption) ?_ | refine W_false rfl (by assumption) ?_ | refine W_cond rfl (fun _ => ?_) (fun _ => ?_)))
  exact ⟨.inl rfl, rfl⟩
abbrev MO (h : Heap) : HObj := .cells 117 [.mp h.length]
abbrev X5 (h : Heap) (p : Pr') (M A : HObj) (tail : Heap) : Heap := h ++ [M] ++ [MO h] ++ [PO p] ++ [A] ++ tail
theorem targets_loop (h : Heap) (lo : Nat) (hlo : lo ≤ h.length) (rc : LoopA) (p : Pr') (hb : prB p) (hok : okP p = true) (hK : smsK p.body ≤ 80000) (k : Nat) (hk : smsK p.body + 400 ≤ k) (hkM : k ≤ 90000) (HA : Heap) (hHA : HA = h ++ [.map (mapC [])] ++ [MO h])
    (hY : ∀ (k : Nat) (s : Sm') (x : List (Int × Int)) (n : Int) (tail : Heap), smK s + 100 ≤ k → smB s → call Try.prog cfg k lo (.yield (HA ++ [PO p]).length) [.int .i64 n, .agg (smC s)] (X5 h p (.map (mapC x)) (.loop rc) tail) = some (.bool true, X5 h p (.map (mapC (updT x n s))) (.loop rc) tail)) :
    call Try.prog cfg k lo (.func 126) [.fn (.yield (HA ++ [PO p]).length) [], .hp HA.length 3 0] (HA ++ [PO p] ++ [.loop rc]) =
      some (.tup [], X5 h p (.map (mapC (tgt p))) (.loop rc) (tlA (HA ++ [PO p]).length p (walkL (yU updT) p.body [] 0).2.2)) := by
  subst hHA
  have := All1_run updT (fun x => h ++ [HObj.map (mapC x)] ++ [MO h] ++ [PO p] ++ [HObj.loop rc]) (h.length + 4) lo 100 (fun x => by simp) (by omega) (h ++ [HObj.map (mapC [])] ++ [MO h] ++ [PO p]).length (h ++ [HObj.map (mapC [])] ++ [MO h]).length p hb hok (by omega) (fun x => by simp) hY (k - 1) (by omega) (by omega) []
  rw [show k - 1 + 1 = k by omega] at this
  exact this
set_option maxHeartbeats 1000000 in
theorem targets_run (p : Pr') (hb : prB p) (hok : okP p = true) (hK : smsK p.body ≤ 80000) (k : Nat) (hk : smsK p.body + 400 ≤ k) (hkM : k ≤ 90000) (h : Heap) (lo : Nat) (hlo : lo ≤ h.length) :
    ∃ tail : Heap, call Try.prog cfg (k + 1) lo (.func 71) [.agg (prC p)] h = some (.mp h.length, h ++ [.map (mapC (tgt p))] ++ tail) := by
  refine ⟨[MO h] ++ [PO p] ++ [.dead] ++ tlA ((h ++ [HObj.map []] ++ [HObj.cells 117 [.nilm]]).set (h ++ [HObj.map []]).length (MO h) ++ [PO p]).length p (walkL (yU updT) p.body [] 0).2.2, ?_⟩
  have g1 : (h ++ [HObj.map []] ++ [HObj.cells 117 [.nilm]])[(h ++ [HObj.map []]).length]? = some (.cells 117 [.nilm]) := by simp
  have hlo1 : lo ≤ (h ++ [HObj.map []]).length := by simp; omega
  have hAll := All_run p (k - 1) lo ((h ++ [HObj.map []] ++ [HObj.cells 117 [.nilm]]).set (h ++ [HObj.map []]).length (MO h))
  rw [show k - 1 + 1 = k by omega] at hAll
  have hHA : (h ++ [HObj.map []] ++ [HObj.cells 117 [.nilm]]).set (h ++ [HObj.map []]).length (MO h) = h ++ [.map (mapC [])] ++ [MO h] := by simp [List.set_append, mapC]
  have hN : ((h ++ [HObj.map []] ++ [HObj.cells 117 [.nilm]]).set (h ++ [HObj.map []]).length (MO h) ++ [PO p]).length = h.length + 3 := by rw [hHA]; simp
  have hgetL : ∀ (M A : HObj) (tail : Heap), (X5 h p M A tail)[((h ++ [HObj.map []] ++ [HObj.cells 117 [.nilm]]).set (h ++ [HObj.map []]).length (MO h) ++ [PO p]).length]? = some A := fun M A tail => by rw [hN]; simp [X5]
  have hsetL : ∀ (M A Y : HObj) (tail : Heap), (X5 h p M A tail).set ((h ++ [HObj.map []] ++ [HObj.cells 117 [.nilm]]).set (h ++ [HObj.map []]).length (MO h) ++ [PO p]).length Y = X5 h p M Y tail := fun M A Y tail => by rw [hN]; simp [X5, List.set_append]
  have hsetM : ∀ (M A Z : HObj) (tail : Heap), (X5 h p M A tail).set h.length Z = X5 h p Z A tail := fun M A Z tail => by simp [X5, List.set_append]
  have hgetM : ∀ (M A : HObj) (tail : Heap), (X5 h p M A tail)[h.length]? = some M := fun M A tail => by simp [X5]
  have hgetC : ∀ (M A : HObj) (tail : Heap), (X5 h p M A tail)[(h ++ [HObj.map []]).length]? = some (MO h) := fun M A tail => by simp [X5]
  have hlo2 : lo ≤ ((h ++ [HObj.map []] ++ [HObj.cells 117 [.nilm]]).set (h ++ [HObj.map []]).length (MO h) ++ [PO p]).length := by rw [hN]; omega
  clear hN
  obtain ⟨w, vs, body⟩ := p
  apply W_call Try.func71 rfl (Nat.le_of_ble_eq_true rfl) rfl rfl
  (repeat' (first | apply W_seq | refine W_true rfl rfl ?_ | refine W_false rfl rfl ?_ | refine W_region (id := 0) rfl rfl ?_ | (refine W_ops (id := 1) rfl ?_ <;> refine T_ch 2 rfl ?_ <;> (refine T_go rfl ?_; refine G_op (O_storeH rfl rfl rfl rfl (by assumption) ⟨by assumption, rfl, rfl, Nat.le_of_ble_eq_true rfl⟩) ?_) <;> apply T_nil) | (refine W_ops (id := 2) rfl ?_ <;> refine T_ch 1 rfl ?_ <;> (refine T_go rfl ?_; refine G_op (O_call rfl rfl rfl rfl (by assumption)) ?_) <;> apply T_nil) | apply W_skip | apply W_block | apply W_ret | apply W_exit | refine W_true rfl (by assumption) ?_ | refine W_false rfl (by assumption) ?_ | refine W_cond rfl (fun _ => ?_) (fun _ => ?_)))
  apply W_range
  case hg => rfl
  case hr => rfl
  case hlo => exact hlo2
  case hK =>
    refine targets_loop h lo hlo _ ⟨w, vs, body⟩ hb hok hK k hk hkM _ hHA ?_
    intro k s x n tail hks hbs
    cases k with
    | zero => omega
    | succ k =>
    obtain ⟨op, nn, a, t, e⟩ := s
    by_cases o0 : op = 0
    · have c0 : (op == 0) = true := by simp [o0]
      rw [updT_put (.inl o0)]
      refine W_yield (hgetL _ _ _) hlo2 rfl rfl ?_
      (repeat' (first | apply W_seq | refine W_true rfl rfl ?_ | refine W_false rfl rfl ?_ | refine W_region (id := 3) rfl rfl ?_ | refine W_region (id := 4) rfl rfl ?_ | apply W_skip | apply W_block | apply W_ret | apply W_exit | refine W_true rfl (by assumption) ?_ | refine W_false rfl (by assumption) ?_ | refine W_cond rfl (fun _ => ?_) (fun _ => ?_)))
      refine ⟨_, hgetL _ _ _, rfl, ?_⟩
      generalize hHx : List.set _ _ (HObj.loop _) = Hx
      have hH2 := hHx.symm.trans (hsetL (.map (mapC x)) _ _ tail)
      have hg1 : Hx[(h ++ [HObj.map []]).length]? = some (MO h) := by rw [hH2]; exact hgetC _ _ _
      have hg2 : Hx[h.length]? = some (.map (mapC x)) := by rw [hH2]; exact hgetM _ _ _
      have hH3 := fun Z : HObj => (congrArg (fun H : Heap => List.set H h.length Z) hH2).trans (hsetM _ _ Z tail)
      dsimp only at hH3
      clear hHx
      (repeat' (first | apply W_seq | refine W_true rfl rfl ?_ | refine W_false rfl rfl ?_ | (refine W_ops (id := 5) rfl ?_ <;> refine T_ch 2 rfl ?_ <;> (refine T_go rfl ?_; refine G_true rfl (by with_reducible assumption) ?_) <;> refine T_ch 3 rfl ?_ <;> refine T_skip rfl ?_ <;> refine T_ch 1 rfl ?_ <;> apply T_nil) | (refine W_ops (id := 6) rfl ?_ <;> (refine T_go rfl ?_; refine G_op (O_loadH rfl rfl rfl (by assumption) rfl rfl) ?_) <;> refine T_ch 3 rfl ?_ <;> (refine T_go rfl ?_; refine G_op (O_putI rfl rfl ⟨_, _, _, rfl⟩ rfl rfl rfl (by assumption) (by assumption)) ?_) <;> apply T_nil) | apply W_skip | apply W_block | apply W_ret | apply W_exit | refine W_true rfl (by assumption) ?_ | refine W_false rfl (by assumption) ?_ | refine W_cond rfl (fun _ => ?_) (fun _ => ?_)))
      exact ⟨_, (congrArg (fun H : Heap => H[_]?) (hH3 _)).trans (hgetL _ _ tail), (congrArg (fun H : Heap => (AV.bool true, H)) ((congrArg (fun H : Heap => List.set H _ _) (hH3 (.map (mapC (putI x n nn))))).trans (hsetL _ _ _ tail))).symm⟩
    by_cases o4 : op = 4
    · have c0 : (op == 0) = false := by simp [o0]
      have c4 : (op == 4) = true := by simp [o4]
      rw [updT_put (.inr o4)]
      refine W_yield (hgetL _ _ _) hlo2 rfl rfl ?_
      (repeat' (first | apply W_seq | refine W_true rfl rfl ?_ | refine W_false rfl rfl ?_ | refine W_region (id := 3) rfl rfl ?_ | refine W_region (id := 4) rfl rfl ?_ | apply W_skip | apply W_block | apply W_ret | apply W_exit | refine W_true rfl (by assumption) ?_ | refine W_false rfl (by assumption) ?_ | refine W_cond rfl (fun _ => ?_) (fun _ => ?_)))
      refine ⟨_, hgetL _ _ _, rfl, ?_⟩
      generalize hHx : List.set _ _ (HObj.loop _) = Hx
      have hH2 := hHx.symm.trans (hsetL (.map (mapC x)) _ _ tail)
      have hg1 : Hx[(h ++ [HObj.map []]).length]? = some (MO h) := by rw [hH2]; exact hgetC _ _ _
      have hg2 : Hx[h.length]? = some (.map (mapC x)) := by rw [hH2]; exact hgetM _ _ _
      have hH3 := fun Z : HObj => (congrArg (fun H : Heap => List.set H h.length Z) hH2).trans (hsetM _ _ Z tail)
      dsimp only at hH3
      clear hHx
      (repeat' (first | apply W_seq | refine W_true rfl rfl ?_ | refine W_false rfl rfl ?_ | (refine W_ops (id := 5) rfl ?_ <;> refine T_ch 2 rfl ?_ <;> (refine T_go rfl ?_; refine G_false rfl (by with_reducible assumption) ?_) <;> refine T_ch 3 rfl ?_ <;> (refine T_go rfl ?_; refine G_true rfl (by with_reducible assumption) ?_) <;> refine T_ch 1 rfl ?_ <;> apply T_nil) | (refine W_ops (id := 6) rfl ?_ <;> (refine T_go rfl ?_; refine G_op (O_loadH rfl rfl rfl (by assumption) rfl rfl) ?_) <;> refine T_ch 3 rfl ?_ <;> (refine T_go rfl ?_; refine G_op (O_putI rfl rfl ⟨_, _, _, rfl⟩ rfl rfl rfl (by assumption) (by assumption)) ?_) <;> apply T_nil) | apply W_skip | apply W_block | apply W_ret | apply W_exit | refine W_true rfl (by assumption) ?_ | refine W_false rfl (by assumption) ?_ | refine W_cond rfl (fun _ => ?_) (fun _ => ?_)))
      exact ⟨_, (congrArg (fun H : Heap => H[_]?) (hH3 _)).trans (hgetL _ _ tail), (congrArg (fun H : Heap => (AV.bool true, H)) ((congrArg (fun H : Heap => List.set H _ _) (hH3 (.map (mapC (putI x n nn))))).trans (hsetL _ _ _ tail))).symm⟩
    · have c0 : (op == 0) = false := by simp [o0]
      have c4 : (op == 4) = false := by simp [o4]
      rw [updT_not (by omega)]
      refine W_yield (hgetL _ _ _) hlo2 rfl rfl ?_
      (repeat' (first | apply W_seq | refine W_true rfl rfl ?_ | refine W_false rfl rfl ?_ | refine W_region (id := 3) rfl rfl ?_ | refine W_region (id := 4) rfl rfl ?_ | apply W_skip | apply W_block | apply W_ret | apply W_exit | refine W_true rfl (by assumption) ?_ | refine W_false rfl (by assumption) ?_ | refine W_cond rfl (fun _ => ?_) (fun _ => ?_)))
      refine ⟨_, hgetL _ _ _, rfl, ?_⟩
      generalize hHx : List.set _ _ (HObj.loop _) = Hx
      have hH2 := hHx.symm.trans (hsetL (.map (mapC x)) _ _ tail)
      have hg1 : Hx[(h ++ [HObj.map []]).length]? = some (MO h) := by rw [hH2]; exact hgetC _ _ _
      have hg2 : Hx[h.length]? = some (.map (mapC x)) := by rw [hH2]; exact hgetM _ _ _
      have hH3 := fun Z : HObj => (congrArg (fun H : Heap => List.set H h.length Z) hH2).trans (hsetM _ _ Z tail)
      dsimp only at hH3
      clear hHx
      (repeat' (first | apply W_seq | refine W_true rfl rfl ?_ | refine W_false rfl rfl ?_ | (refine W_ops (id := 5) rfl ?_ <;> refine T_ch 2 rfl ?_ <;> (refine T_go rfl ?_; refine G_false rfl (by with_reducible assumption) ?_) <;> refine T_ch 3 rfl ?_ <;> (refine T_go rfl ?_; refine G_false rfl (by with_reducible assumption) ?_) <;> refine T_ch 1 rfl ?_ <;> apply T_nil) | apply W_skip | apply W_block | apply W_ret | apply W_exit | refine W_true rfl (by assumption) ?_ | refine W_false rfl (by assumption) ?_ | refine W_cond rfl (fun _ => ?_) (fun _ => ?_)))
      exact ⟨_, (congrArg (fun H : Heap => H[_]?) hH2).trans (hgetL _ _ tail), (congrArg (fun H : Heap => (AV.bool true, H)) ((congrArg (fun H : Heap => List.set H _ _) hH2).trans (hsetL _ _ _ tail))).symm⟩
  case hl => exact hgetL _ _ _
  case hst => show (0 : Nat) ≠ 1; simp
  case k =>
    dsimp only
    generalize hHy : List.set _ _ HObj.dead = Hy
    have hH2 := hHy.symm.trans (hsetL _ _ _ _)
    have hg1 : Hy[(h ++ [HObj.map []]).length]? = some (MO h) := by rw [hH2]; exact hgetC _ _ _
    clear hHy
    have hfin : ∀ (M : HObj) (tl : Heap), X5 h ⟨w, vs, body⟩ M .dead tl = h ++ [M] ++ ([MO h] ++ [PO ⟨w, vs, body⟩] ++ [.dead] ++ tl) := fun M tl => by simp [X5]
    (repeat' (first | apply W_seq | refine W_true rfl rfl ?_ | refine W_false rfl rfl ?_ | (refine W_ops (id := 7) rfl ?_ <;> (refine T_go rfl ?_; refine G_op (O_loadH rfl rfl rfl (by assumption) rfl rfl) ?_) <;> refine T_ch 1 rfl ?_ <;> apply T_nil) | apply W_skip | apply W_block | apply W_ret | apply W_exit | refine W_true rfl (by assumption) ?_ | refine W_false rfl (by assumption) ?_ | refine W_cond rfl (fun _ => ?_) (fun _ => ?_)))
    exact ⟨.inl rfl, congrArg (fun H : Heap => some (AV.mp h.length, H)) (hH2.trans (hfin _ _))⟩
end Go.Proofs.Ytelobnllkhnpaaa.L
/- Levels as sets of bits; flows as conditions; what raising comes to. -/
open Go Go.Proofs Go.Ev Go.Proofs.Ytelobnllkhnpaaa.E
namespace Go.Proofs.Ytelobnllkhnpaaa.L
set_option linter.unusedVariables false
set_option linter.unusedSimpArgs false
set_option maxHeartbeats 2000000
set_option maxRecDepth 100000

/-! ### Bits -/
theorem orI_nat {a b : Int} (ha : lvB a) (hb : lvB b) : orI a b = ((a.toNat ||| b.toNat : Nat) : Int) := or_lift (Q := fun a b => orI a b = ((a.toNat ||| b.toNat : Nat) : Int)) (by decide +kernel) ha hb
theorem orI_assoc {a b c : Int} (ha : lvB a) (hb : lvB b) (hc : lvB c) : orI (orI a b) c = orI a (orI b c) := by
  rw [orI_nat (orI_B ha hb) hc, orI_nat ha (orI_B hb hc), orI_nat ha hb, orI_nat hb hc, Int.toNat_natCast, Int.toNat_natCast, Nat.or_assoc]
/-- Is a level in another one. -/
def leI (a b : Int) : Prop := orI a b = b
theorem leI_refl {a : Int} (ha : lvB a) : leI a a := by unfold leI; rw [orI_nat ha ha, Nat.or_self, Int.toNat_of_nonneg ha.1]
theorem leI_trans {a b c : Int} (ha : lvB a) (hb : lvB b) (hc : lvB c) (h1 : leI a b) (h2 : leI b c) : leI a c := by
  unfold leI at *
  rw [← h2, ← orI_assoc ha hb hc, h1]
theorem leI_antisymm {a b : Int} (h1 : leI a b) (h2 : leI b a) : a = b := by
  unfold leI at *
  rw [← h2, orI_comm, h1]
theorem leI_left {a b : Int} (ha : lvB a) (hb : lvB b) : leI a (orI a b) := by
  unfold leI
  rw [← orI_assoc ha ha hb]
  have : orI a a = a := leI_refl ha
  rw [this]
theorem leI_right {a b : Int} (ha : lvB a) (hb : lvB b) : leI b (orI a b) := by rw [orI_comm]; exact leI_left hb ha
theorem orI_le {a b c : Int} (ha : lvB a) (hb : lvB b) (hc : lvB c) (h1 : leI a c) (h2 : leI b c) : leI (orI a b) c := by
  unfold leI at *
  rw [orI_assoc ha hb hc, h2, h1]
theorem orI_mono {a b c d : Int} (ha : lvB a) (hb : lvB b) (hc : lvB c) (hd : lvB d) (h1 : leI a c) (h2 : leI b d) : leI (orI a b) (orI c d) :=
  orI_le ha hb (orI_B hc hd) (leI_trans ha hc (orI_B hc hd) h1 (leI_left hc hd)) (leI_trans hb hd (orI_B hc hd) h2 (leI_right hc hd))
theorem zero_leI {b : Int} (hb : lvB b) : leI 0 b := orI_zero hb
theorem within_iff {a b : Int} (ha : lvB a) (hb : lvB b) : withinB a b = true ↔ leI a b := or_lift (Q := fun a b => withinB a b = true ↔ orI a b = b) (by decide +kernel) ha hb
theorem leI_num {a b : Int} (ha : lvB a) (hb : lvB b) (h : leI a b) : a ≤ b := by rw [← h]; exact orI_ge ha hb

/-! ### Lists of levels -/
def leL (x y : List Int) : Prop := x.length = y.length ∧ ∀ i : Nat, leI (x.getD i 0) (y.getD i 0)
theorem leL_refl {x : List Int} (hx : lvsB x) : leL x x := ⟨rfl, fun i => leI_refl (lvsB_getD hx i)⟩
theorem leL_trans {x y z : List Int} (hx : lvsB x) (hy : lvsB y) (hz : lvsB z) (h1 : leL x y) (h2 : leL y z) : leL x z :=
  ⟨h1.1.trans h2.1, fun i => leI_trans (lvsB_getD hx i) (lvsB_getD hy i) (lvsB_getD hz i) (h1.2 i) (h2.2 i)⟩
theorem getD_ext {x y : List Int} (hl : x.length = y.length) (h : ∀ i : Nat, x.getD i 0 = y.getD i 0) : x = y := by
  refine List.ext_getElem hl fun i h1 h2 => ?_
  have := h i
  rw [List.getD_eq_getElem?_getD, List.getD_eq_getElem?_getD, List.getElem?_eq_getElem h1, List.getElem?_eq_getElem h2] at this
  exact this
theorem leL_antisymm {x y : List Int} (h1 : leL x y) (h2 : leL y x) : x = y := getD_ext h1.1 fun i => leI_antisymm (h1.2 i) (h2.2 i)
theorem getD_set (x : List Int) (i j : Nat) (v : Int) : (x.set i v).getD j 0 = if i = j ∧ i < x.length then v else x.getD j 0 := by
  rw [List.getD_eq_getElem?_getD, List.getD_eq_getElem?_getD, List.getElem?_set]
  by_cases h : i = j
  · subst h
    by_cases h2 : i < x.length
    · simp [h2]
    · simp [h2]
  · simp [h]
theorem leL_set {x : List Int} (hx : lvsB x) {i : Nat} {v : Int} (hv : leI (x.getD i 0) v) : leL x (x.set i v) := by
  refine ⟨by simp, fun j => ?_⟩
  rw [getD_set]
  split
  · rename_i h; rw [← h.1]; exact hv
  · exact leI_refl (lvsB_getD hx j)
theorem set_leL {x y : List Int} (h : leL x y) {i : Nat} {v : Int} (hv : leI v (y.getD i 0)) : leL (x.set i v) y := by
  refine ⟨by simpa using h.1, fun j => ?_⟩
  rw [getD_set]
  split
  · rename_i e; rw [← e.1]; exact hv
  · exact h.2 j
theorem roomL_leL : ∀ {x y : List Int}, lvsB x → lvsB y → leL x y → roomL y ≤ roomL x ∧ (x = y ∨ roomL y < roomL x)
  | [], [], _, _, _ => ⟨Nat.le_refl _, .inl rfl⟩
  | [], _ :: _, _, _, h => by have := h.1; simp at this
  | _ :: _, [], _, _, h => by have := h.1; simp at this
  | a :: x, b :: y, hx, hy, h => by
    have ha := hx a (List.mem_cons_self ..)
    have hb := hy b (List.mem_cons_self ..)
    have h0 : leI a b := h.2 0
    have hn := leI_num ha hb h0
    obtain ⟨h1, h2⟩ := roomL_leL (x := x) (y := y) (fun w hw => hx w (List.mem_cons_of_mem _ hw)) (fun w hw => hy w (List.mem_cons_of_mem _ hw)) ⟨by have := h.1; simpa using this, fun i => h.2 (i + 1)⟩
    have q1 := ha.2
    have q2 := hb.2
    simp only [roomL]
    refine ⟨by omega, ?_⟩
    by_cases e : a = b
    · rcases h2 with h2 | h2
      · left; rw [e, h2]
      · right; omega
    · right; omega

/-! ### Expressions -/
mutual
theorem ofE_mono {x y : List Int} (h : leL x y) (hx : lvsB x) (hy : lvsB y) : ∀ e : Ex', leI (ofE x e) (ofE y e)
  | .mk op n _ es => by
    rw [ofE, ofE]
    split
    · exact ofEs_mono h hx hy es (lvsB_getD hx _) (lvsB_getD hy _) (h.2 _)
    · exact ofEs_mono h hx hy es lvB0 lvB0 (leI_refl lvB0)
theorem ofEs_mono {x y : List Int} (h : leL x y) (hx : lvsB x) (hy : lvsB y) : ∀ (es : List Ex') {a b : Int}, lvB a → lvB b → leI a b → leI (ofEs x a es) (ofEs y b es)
  | [], a, b, _, _, hab => by rw [ofEs, ofEs]; exact hab
  | e :: es, a, b, ha, hb, hab => by
    rw [ofEs, ofEs]
    exact ofEs_mono h hx hy es (orI_B ha (ofE_B hx e)) (orI_B hb (ofE_B hy e)) (orI_mono ha (ofE_B hx e) hb (ofE_B hy e) hab (ofE_mono h hx hy e))
end
mutual
/-- What holds of all levels, and stays so. -/
theorem ofE_all {Z : Int → Prop} (h0 : Z 0) (hor : ∀ a b, Z a → Z b → Z (orI a b)) {x : List Int} (hx : ∀ v, v ∈ x → Z v) : ∀ e : Ex', Z (ofE x e)
  | .mk op n _ es => by
    rw [ofE]
    refine ofEs_all h0 hor hx es ?_
    split
    · rw [List.getD_eq_getElem?_getD]
      cases hi : x[n.toNat]? with
      | none => exact h0
      | some v => exact hx v (List.mem_of_getElem? hi)
    · exact h0
theorem ofEs_all {Z : Int → Prop} (h0 : Z 0) (hor : ∀ a b, Z a → Z b → Z (orI a b)) {x : List Int} (hx : ∀ v, v ∈ x → Z v) : ∀ (es : List Ex') {a : Int}, Z a → Z (ofEs x a es)
  | [], a, ha => by rw [ofEs]; exact ha
  | e :: es, a, ha => by rw [ofEs]; exact ofEs_all h0 hor hx es (hor a _ ha (ofE_all h0 hor hx e))
end

/-! ### Conditions -/
/-- A level that comes from levels, and grows with them. -/
structure Good (f : List Int → Int) : Prop where
  B : ∀ x, lvsB x → lvB (f x)
  mono : ∀ x y, leL x y → lvsB x → lvsB y → leI (f x) (f y)
theorem Good.or {f : List Int → Int} (h : Good f) (a : List Ex') : Good (fun lv => orI (f lv) (ofEs lv 0 a)) where
  B x hx := orI_B (h.B x hx) (ofEs_B hx a lvB0)
  mono x y hxy hx hy := orI_mono (h.B x hx) (ofEs_B hx a lvB0) (h.B y hy) (ofEs_B hy a lvB0) (h.mono x y hxy hx hy) (ofEs_mono hxy hx hy a lvB0 lvB0 (leI_refl lvB0))
theorem good0 : Good (fun _ => 0) := ⟨fun _ _ => lvB0, fun _ _ _ _ _ => leI_refl lvB0⟩
/-- A statement's number, operator, N, and what comes to it. -/
structure Cn where
  at_ : Int
  op : Int
  nn : Int
  f : List Int → Int
mutual
def cs1 : Sm' → (List Int → Int) → Int → List Cn
  | .mk op nn a t e, ar, n => ⟨n, op, nn, fun lv => orI (ar lv) (ofEs lv 0 a)⟩ :: (csL t (fun lv => orI (ar lv) (ofEs lv 0 a)) (IntKind.i64.wrap (n + 1)) ++ csL e (fun lv => orI (ar lv) (ofEs lv 0 a)) (IntKind.i64.wrap (IntKind.i64.wrap (n + 1) + cntL t 0)))
def csL : List Sm' → (List Int → Int) → Int → List Cn
  | [], _, _ => []
  | s :: l, ar, n => cs1 s ar n ++ csL l ar (cnt1 s n)
end
def Cn.fl (lv : List Int) (c : Cn) : List (List AV) :=
  if c.op = 0 then flowL c.at_ (c.f lv) (lv.getD c.nn.toNat 0) else if c.op = 4 then flowL c.at_ (orI (c.f lv) 16) (lv.getD c.nn.toNat 0) else if c.op = 3 then flowL c.at_ (c.f lv) c.nn else []
mutual
theorem fixR1_cs (lv : List Int) : ∀ (s : Sm') (ar : List Int → Int) (n : Int), fixR1 lv s (ar lv) n = (cs1 s ar n).flatMap (Cn.fl lv)
  | .mk op nn a t e, ar, n => by
    rw [fixR1, cs1, List.flatMap_cons, List.flatMap_append, fixRL_cs lv t (fun lv => orI (ar lv) (ofEs lv 0 a)), fixRL_cs lv e (fun lv => orI (ar lv) (ofEs lv 0 a))]
    rfl
theorem fixRL_cs (lv : List Int) : ∀ (l : List Sm') (ar : List Int → Int) (n : Int), fixRL lv l (ar lv) n = (csL l ar n).flatMap (Cn.fl lv)
  | [], ar, n => by rw [fixRL, csL]; rfl
  | s :: l, ar, n => by rw [fixRL, csL, List.flatMap_append, fixR1_cs lv s ar, fixRL_cs lv l ar]
end
mutual
theorem cs1_good : ∀ (s : Sm') {ar : List Int → Int} (n : Int), Good ar → ∀ c, c ∈ cs1 s ar n → Good c.f
  | .mk op nn a t e, ar, n, h, c, hc => by
    rw [cs1] at hc
    rcases List.mem_cons.1 hc with rfl | hc
    · exact h.or a
    · rcases List.mem_append.1 hc with hc | hc
      · exact csL_good t _ (h.or a) c hc
      · exact csL_good e _ (h.or a) c hc
theorem csL_good : ∀ (l : List Sm') {ar : List Int → Int} (n : Int), Good ar → ∀ c, c ∈ csL l ar n → Good c.f
  | [], ar, n, h, c, hc => by rw [csL] at hc; cases hc
  | s :: l, ar, n, h, c, hc => by
    rw [csL] at hc
    rcases List.mem_append.1 hc with hc | hc
    · exact cs1_good s n h c hc
    · exact csL_good l _ h c hc
end
mutual
/-- What a statement sets lies among the variables; what it puts out is no great level. -/
theorem cs1_rd {m : Nat} : ∀ (s : Sm') (ar : List Int → Int) (n : Int), vm1 m s → ∀ c, c ∈ cs1 s ar n → (c.op = 0 ∨ c.op = 4) → 0 ≤ c.nn ∧ c.nn < m
  | .mk op nn a t e, ar, n, h, c, hc => by
    rw [vm1] at h
    rw [cs1] at hc
    rcases List.mem_cons.1 hc with rfl | hc
    · exact h.2.1
    · rcases List.mem_append.1 hc with hc | hc
      · exact csL_rd t _ _ h.2.2.2.1 c hc
      · exact csL_rd e _ _ h.2.2.2.2 c hc
theorem csL_rd {m : Nat} : ∀ (l : List Sm') (ar : List Int → Int) (n : Int), vmL m l → ∀ c, c ∈ csL l ar n → (c.op = 0 ∨ c.op = 4) → 0 ≤ c.nn ∧ c.nn < m
  | [], ar, n, h, c, hc => by rw [csL] at hc; cases hc
  | s :: l, ar, n, h, c, hc => by
    rw [csL] at hc
    rcases List.mem_append.1 hc with hc | hc
    · exact cs1_rd s ar n h.1 c hc
    · exact csL_rd l ar _ h.2 c hc
end
/-- No flow at a statement. -/
def Cn.ok (lv : List Int) (c : Cn) : Prop := (c.op = 0 → leI (c.f lv) (lv.getD c.nn.toNat 0)) ∧ (c.op = 4 → leI (orI (c.f lv) 16) (lv.getD c.nn.toNat 0)) ∧ (c.op = 3 → leI (c.f lv) c.nn)
theorem flowL_nil {a f t : Int} (hf : lvB f) (ht : lvB t) : flowL a f t = [] ↔ leI f t := by
  rw [← within_iff hf ht]
  unfold flowL
  split
  · rename_i h; simp [h]
  · rename_i h; simp [h]
theorem Cn.fl_nil {lv : List Int} (hB : lvsB lv) {c : Cn} (hg : Good c.f) (h3 : c.op = 3 → lvB c.nn) : c.fl lv = [] ↔ c.ok lv := by
  unfold Cn.fl Cn.ok
  have hf := hg.B lv hB
  have ht := lvsB_getD hB c.nn.toNat
  by_cases o0 : c.op = 0
  · rw [if_pos o0, flowL_nil hf ht]
    exact ⟨fun h => ⟨fun _ => h, fun o => by omega, fun o => by omega⟩, fun h => h.1 o0⟩
  rw [if_neg o0]
  by_cases o4 : c.op = 4
  · rw [if_pos o4, flowL_nil (orI_B hf lvB16) ht]
    exact ⟨fun h => ⟨fun o => by omega, fun _ => h, fun o => by omega⟩, fun h => h.2.1 o4⟩
  rw [if_neg o4]
  by_cases o3 : c.op = 3
  · rw [if_pos o3, flowL_nil hf (h3 o3)]
    exact ⟨fun h => ⟨fun o => by omega, fun o => by omega, fun _ => h⟩, fun h => h.2.2 o3⟩
  rw [if_neg o3]
  exact ⟨fun _ => ⟨fun o => by omega, fun o => by omega, fun o => by omega⟩, fun _ => rfl⟩
theorem fixRL_nil {lv : List Int} (hB : lvsB lv) {l : List Sm'} {ar : List Int → Int} {n : Int} (hg : Good ar) (h3 : ∀ c, c ∈ csL l ar n → c.op = 3 → lvB c.nn) : fixRL lv l (ar lv) n = [] ↔ ∀ c, c ∈ csL l ar n → c.ok lv := by
  rw [fixRL_cs, List.flatMap_eq_nil_iff]
  exact ⟨fun h c hc => (Cn.fl_nil hB (csL_good l n hg c hc) (h3 c hc)).1 (h c hc), fun h c hc => (Cn.fl_nil hB (csL_good l n hg c hc) (h3 c hc)).2 (h c hc)⟩

/-! ### Raising -/
section
variable (st : List Bool)
def raS (op nn : Int) (lv : List Int) (f : Int) : List Int := if op = 0 ∧ st.getD nn.toNat false = false then lv.set nn.toNat (orI (lv.getD nn.toNat 0) f) else lv
mutual
def ra1 : Sm' → List Int → Int → List Int
  | .mk op nn a t e, lv, ar => raL e (raL t (raS st op nn lv (orI ar (ofEs lv 0 a))) (orI ar (ofEs lv 0 a))) (orI ar (ofEs lv 0 a))
def raL : List Sm' → List Int → Int → List Int
  | [], lv, _ => lv
  | s :: l, lv, ar => raL l (ra1 s lv ar) ar
end
variable {st}
theorem raS_ok {m : Nat} {op nn : Int} {lv : List Int} {f : Int} (hl : lv.length = m) (hB : lvsB lv) (hf : lvB f) : (raS st op nn lv f).length = m ∧ lvsB (raS st op nn lv f) ∧ leL lv (raS st op nn lv f) ∧ ∀ i : Nat, st.getD i false = true → (raS st op nn lv f).getD i 0 = lv.getD i 0 := by
  unfold raS
  split
  · rename_i h
    refine ⟨by simpa using hl, lvsB_set hB (orI_B (lvsB_getD hB _) hf) _, leL_set hB (leI_left (lvsB_getD hB _) hf), fun i hi => ?_⟩
    rw [getD_set]
    split
    · rename_i e
      rw [e.1, hi] at h
      simp at h
    · rfl
  · exact ⟨hl, hB, leL_refl hB, fun _ _ => rfl⟩
mutual
theorem ra1_ok {m : Nat} : ∀ (s : Sm') {lv : List Int} {ar : Int}, lv.length = m → lvsB lv → lvB ar → (ra1 st s lv ar).length = m ∧ lvsB (ra1 st s lv ar) ∧ leL lv (ra1 st s lv ar) ∧ ∀ i : Nat, st.getD i false = true → (ra1 st s lv ar).getD i 0 = lv.getD i 0
  | .mk op nn a t e, lv, ar, hl, hB, ha => by
    have hf : lvB (orI ar (ofEs lv 0 a)) := orI_B ha (ofEs_B hB a lvB0)
    obtain ⟨a1, a2, a3, a4⟩ := raS_ok (st := st) (op := op) (nn := nn) hl hB hf
    obtain ⟨b1, b2, b3, b4⟩ := raL_ok t a1 a2 hf
    obtain ⟨c1, c2, c3, c4⟩ := raL_ok e b1 b2 hf
    rw [ra1]
    exact ⟨c1, c2, leL_trans hB a2 c2 a3 (leL_trans a2 b2 c2 b3 c3), fun i hi => (c4 i hi).trans ((b4 i hi).trans (a4 i hi))⟩
theorem raL_ok {m : Nat} : ∀ (l : List Sm') {lv : List Int} {ar : Int}, lv.length = m → lvsB lv → lvB ar → (raL st l lv ar).length = m ∧ lvsB (raL st l lv ar) ∧ leL lv (raL st l lv ar) ∧ ∀ i : Nat, st.getD i false = true → (raL st l lv ar).getD i 0 = lv.getD i 0
  | [], lv, ar, hl, hB, _ => by rw [raL]; exact ⟨hl, hB, leL_refl hB, fun _ _ => rfl⟩
  | s :: l, lv, ar, hl, hB, ha => by
    obtain ⟨a1, a2, a3, a4⟩ := ra1_ok s hl hB ha
    obtain ⟨b1, b2, b3, b4⟩ := raL_ok l a1 a2 ha
    rw [raL]
    exact ⟨b1, b2, leL_trans hB a2 b2 a3 b3, fun i hi => (b4 i hi).trans (a4 i hi)⟩
end
/-- The conditions that raising is for. -/
def Cn.up (st : List Bool) (x : List Int) (c : Cn) : Prop := c.op = 0 → st.getD c.nn.toNat false = false → leI (c.f x) (x.getD c.nn.toNat 0)
mutual
theorem ra1_sub {x : List Int} (hx : lvsB x) : ∀ (s : Sm') {lv : List Int} {ar : Int} {g : List Int → Int} (n : Int), Good g → lvsB lv → lvB ar → leL lv x → leI ar (g x) → (∀ c, c ∈ cs1 s g n → c.up st x) → leL (ra1 st s lv ar) x
  | .mk op nn a t e, lv, ar, g, n, hg, hB, ha, hle, har, hc => by
    have hf : lvB (orI ar (ofEs lv 0 a)) := orI_B ha (ofEs_B hB a lvB0)
    have hfx : leI (orI ar (ofEs lv 0 a)) (orI (g x) (ofEs x 0 a)) := orI_mono ha (ofEs_B hB a lvB0) (hg.B x hx) (ofEs_B hx a lvB0) har (ofEs_mono hle hB hx a lvB0 lvB0 (leI_refl lvB0))
    obtain ⟨a1, a2, _, _⟩ := raS_ok (st := st) (m := lv.length) (op := op) (nn := nn) rfl hB hf
    have h1 : leL (raS st op nn lv (orI ar (ofEs lv 0 a))) x := by
      unfold raS
      split
      · rename_i h
        refine set_leL hle (orI_le (lvsB_getD hB _) hf (lvsB_getD hx _) (hle.2 _) ?_)
        have := hc ⟨n, op, nn, fun lv => orI (g lv) (ofEs lv 0 a)⟩ (by rw [cs1]; exact List.mem_cons_self ..) h.1 h.2
        exact leI_trans hf ((hg.or a).B x hx) (lvsB_getD hx _) hfx this
      · exact hle
    obtain ⟨b1, b2, _, _⟩ := raL_ok (st := st) t a1 a2 hf
    have h2 := raL_sub hx t (IntKind.i64.wrap (n + 1)) (hg.or a) a2 hf h1 hfx (fun c hcm => hc c (by rw [cs1]; exact List.mem_cons_of_mem _ (List.mem_append_left _ hcm)))
    rw [ra1]
    exact raL_sub hx e (IntKind.i64.wrap (IntKind.i64.wrap (n + 1) + cntL t 0)) (hg.or a) b2 hf h2 hfx (fun c hcm => hc c (by rw [cs1]; exact List.mem_cons_of_mem _ (List.mem_append_right _ hcm)))
theorem raL_sub {x : List Int} (hx : lvsB x) : ∀ (l : List Sm') {lv : List Int} {ar : Int} {g : List Int → Int} (n : Int), Good g → lvsB lv → lvB ar → leL lv x → leI ar (g x) → (∀ c, c ∈ csL l g n → c.up st x) → leL (raL st l lv ar) x
  | [], lv, ar, g, n, hg, hB, ha, hle, har, hc => by rw [raL]; exact hle
  | s :: l, lv, ar, g, n, hg, hB, ha, hle, har, hc => by
    have h1 := ra1_sub hx s n hg hB ha hle har (fun c hcm => hc c (by rw [csL]; exact List.mem_append_left _ hcm))
    obtain ⟨_, a2, _, _⟩ := ra1_ok (st := st) s (m := lv.length) rfl hB ha
    rw [raL]
    exact raL_sub hx l (cnt1 s n) hg a2 ha h1 har (fun c hcm => hc c (by rw [csL]; exact List.mem_append_right _ hcm))
end
mutual
theorem ra1_fix {x : List Int} (hx : lvsB x) : ∀ (s : Sm') {g : List Int → Int} (n : Int), Good g → ra1 st s x (g x) = x → ∀ c, c ∈ cs1 s g n → (∀ i : Nat, c.op = 0 → c.nn.toNat < x.length) → c.up st x
  | .mk op nn a t e, g, n, hg, hfx, c, hc, hin => by
    have hf : lvB (orI (g x) (ofEs x 0 a)) := (hg.or a).B x hx
    obtain ⟨a1, a2, a3, _⟩ := raS_ok (st := st) (m := x.length) (op := op) (nn := nn) rfl hx hf
    obtain ⟨b1, b2, b3, _⟩ := raL_ok (st := st) t a1 a2 hf
    obtain ⟨c1, c2, c3, _⟩ := raL_ok (st := st) e b1 b2 hf
    rw [ra1] at hfx
    rw [hfx] at c3
    have e1 : raS st op nn x (orI (g x) (ofEs x 0 a)) = x := leL_antisymm (leL_trans a2 b2 hx b3 c3) a3
    rw [e1] at b1 b2 b3 c3 hfx
    have e2 : raL st t x (orI (g x) (ofEs x 0 a)) = x := leL_antisymm c3 b3
    rw [e2] at hfx
    rw [cs1] at hc
    rcases List.mem_cons.1 hc with rfl | hc
    · intro h1 h2
      try dsimp only at h1 h2 ⊢
      have hlt := hin 0 h1
      unfold raS at e1
      rw [if_pos ⟨h1, h2⟩] at e1
      have := congrArg (fun l => List.getD l nn.toNat 0) e1
      try dsimp only at this
      rw [getD_set, if_pos ⟨rfl, hlt⟩] at this
      rw [← this]
      exact leI_right (lvsB_getD hx _) hf
    · rcases List.mem_append.1 hc with hc | hc
      · exact raL_fix hx t _ (hg.or a) e2 c hc hin
      · exact raL_fix hx e _ (hg.or a) hfx c hc hin
theorem raL_fix {x : List Int} (hx : lvsB x) : ∀ (l : List Sm') {g : List Int → Int} (n : Int), Good g → raL st l x (g x) = x → ∀ c, c ∈ csL l g n → (∀ i : Nat, c.op = 0 → c.nn.toNat < x.length) → c.up st x
  | [], g, n, hg, hfx, c, hc, hin => by rw [csL] at hc; cases hc
  | s :: l, g, n, hg, hfx, c, hc, hin => by
    have hf := hg.B x hx
    obtain ⟨a1, a2, a3, _⟩ := ra1_ok (st := st) s (m := x.length) rfl hx hf
    obtain ⟨b1, b2, b3, _⟩ := raL_ok (st := st) l a1 a2 hf
    rw [raL] at hfx
    rw [hfx] at b3
    have e1 : ra1 st s x (g x) = x := leL_antisymm b3 a3
    rw [e1] at hfx
    rw [csL] at hc
    rcases List.mem_append.1 hc with hc | hc
    · exact ra1_fix hx s n hg e1 c hc hin
    · exact raL_fix hx l _ hg hfx c hc hin
end
end
end Go.Proofs.Ytelobnllkhnpaaa.L
/- Types that move, in the reference: behind, rows, Places, Moved. -/
open Go Go.Proofs Go.Ev Go.Proofs.Ytelobnllkhnpaaa.E
namespace Go.Proofs.Ytelobnllkhnpaaa.L
set_option linter.unusedVariables false
set_option linter.unusedSimpArgs false
set_option maxHeartbeats 2000000
set_option maxRecDepth 100000

def plC (p : Pl) : List AV := itC (p.1, p.2.1) ++ [.vs 1 (intsC p.2.2.1), .int .i64 p.2.2.2]
theorem plC_row (p : Pl) : (plC p).length = 8 ∧ ∀ x, x ∈ plC p → static x = true := by
  obtain ⟨n, ⟨op, nn, a, t, e⟩, lv, ar⟩ := p
  refine ⟨rfl, fun x hx => ?_⟩
  simp only [plC, itC, smC, List.cons_append, List.nil_append, List.mem_cons, List.not_mem_nil, or_false] at hx
  rcases hx with rfl | rfl | rfl | rfl | rfl | rfl | rfl | rfl <;> rfl
theorem plC_rows (l : List Pl) : ∀ r, r ∈ l.map plC → r.length = 8 ∧ ∀ x, x ∈ r → static x = true := by
  intro r hr
  obtain ⟨p, _, rfl⟩ := List.mem_map.1 hr
  exact plC_row p
section
variable (pt : List Int → Int → Sm' → List Int) (og : List Int → List Ex' → Int)
mutual
theorem pl1_len : ∀ (s : Sm') (lv : List Int) (ar n : Int), (pl1 pt og s lv ar n).length ≤ smN s
  | .mk op nn a t e, lv, ar, n => by
    rw [pl1, smN]
    split
    · have h1 := plL_len t lv (orI ar (og lv a)) (IntKind.i64.wrap (n + 1))
      have h2 := plL_len e lv (orI ar (og lv a)) (IntKind.i64.wrap (IntKind.i64.wrap (n + 1) + cntL t 0))
      simp only [List.length_cons, List.length_append]; omega
    · split
      · have h1 := plL_len t (mv1 pt og (.mk op nn a t e) lv ar) (orI ar (og (mv1 pt og (.mk op nn a t e) lv ar) a)) (IntKind.i64.wrap (n + 1))
        simp only [List.length_cons]; omega
      · simp only [List.length_cons, List.length_nil]; omega
theorem plL_len : ∀ (l : List Sm') (lv : List Int) (ar n : Int), (plL pt og l lv ar n).length ≤ smsN l
  | [], lv, ar, n => by rw [plL, smsN]; simp
  | s :: l, lv, ar, n => by
    have h1 := pl1_len s lv ar n
    have h2 := plL_len l (mv1 pt og s lv ar) ar (cnt1 s n)
    rw [plL, smsN, List.length_append]; omega
end
end
theorem pl_append (h : Heap) (rows : List (List AV)) (more : List (List AV)) (hr : ∀ r, r ∈ rows → r.length = 8) (hl : rows.length + more.length < 100000) : append cfg.tab h.length (accH h 107 rows) 101 (accA h 8 rows) (accV 8 more) = some (accA h 8 (rows ++ more), accH h 107 (rows ++ more)) :=
  acc_appendV (tab := cfg.tab) (lo := h.length) (h := h) (t := 101) (e := 107) rfl rfl (by decide) (Nat.le_refl _) rows more hr (by simp only [room]; show (rows.length + more.length) * 128 ≤ _; omega) (by simp only [room]; omega)
/-- One place, and what is put behind it. -/
theorem here_append (h : Heap) (q : List HObj) (lo : Nat) (hlo : lo ≤ h.length + q.length) (xs : List (List AV)) (hx : ∀ r, r ∈ xs → r.length = 8) (more : List (List AV)) (hl : xs.length + more.length < 100000) :
    append cfg.tab lo (h ++ q ++ [.cells 107 xs.flatten]) 101 (.sl (h.length + q.length) 8 0 xs.length) (accV 8 more) = some (.sl (h.length + q.length) 8 0 (xs.length + more.length), h ++ q ++ [.cells 107 (xs ++ more).flatten]) := by
  have := append_slV (tab := cfg.tab) (lo := lo) (h := h ++ q ++ [.cells 107 xs.flatten]) (t := 101) (e := 107) (id := h.length + q.length) (len := xs.length) (xs := xs.flatten) rfl rfl (by simp) hlo (by rw [flat_len _ hx]) (by decide) more
    (by simp only [room]; show (xs.length + more.length) * 128 ≤ _; omega) (by simp only [room]; omega)
  rw [show ((⟨.struct [(0, 105), (6, 38), (7, 3)], 8, 128, [.int .i64 0, .int .i64 0, .int .i64 0, .nils, .nils, .nils, .nils, .int .i64 0]⟩ : TI)).sz = 8 from rfl] at this
  rw [this]
  simp [List.set_append]

def fR (vs : List Vr') (t : List Sm') (a : List Ex') (ar : Int) (x : List Int) : List Int := joinL x (mvL (putR vs) ofA t x (orI ar (ofA x a)))
def bhS (h : Heap) (vs : List Vr') (n ar : Int) (s : Sm') (lv0 x : List Int) : St :=
  { env := [(0, .v (.vs 3 (vsC vs))), (1, .v (.vs 1 (intsC x))), (2, .v (.int .i64 ar)), (7, .p 7 0), (10, .p 10 0)], loc := [(7, itC (n, s)), (10, smC s)], heap := h ++ [.cells 107 (plC (n, s, lv0, ar))], inRound := false, lo := h.length }
def rwlS (h : Heap) (vs : List Vr') (ar : Int) (v : AV) (i : Int) (a : List (List AV) × List Int × Int) : St :=
  { env := [(0, .v (.vs 3 (vsC vs))), (1, .v (.vs 1 (intsC a.2.1))), (2, .v (.int .i64 ar)), (3, .v v), (10, .v (accA h 8 a.1)), (11, .v (.int .i64 i))], loc := [], heap := accH h 107 a.1, inRound := false, lo := h.length }
theorem intsC_V {l : List Int} (hne : l ≠ []) : accV 1 (intsC l) = .vs 1 (intsC l) := by
  cases l with
  | nil => exact absurd rfl hne
  | cons a l => rfl
theorem here_fin {h H : Heap} {lv : List Int} {rows : List (List AV)} {id : Nat} (hr : ∀ r, r ∈ rows → r.length = 8 ∧ ∀ x, x ∈ r → static x = true) (hg : H[id]? = some (.cells 107 rows.flatten)) (hlo : h.length ≤ id) :
    hand true h (.tup [.vs 1 (intsC lv), .sl id 8 0 rows.length]) H = some (.tup [.vs 1 (intsC lv), .vs 8 rows], h) :=
  hand_two rfl (frz_rows rows hr hg hlo) (fun _ => by simp) (fun _ => by simp)

set_option maxHeartbeats 4000000 in
theorem behind_run (vs : List Vr') (hv1 : 1 ≤ vs.length) (hv2 : vs.length ≤ 18) : ∀ (k : Nat),
    (∀ (s : Sm') (lv : List Int) (ar n : Int), smK s + 1301 ≤ k → smN s ≤ 600 → smB s → vm1 vs.length s → lv.length = vs.length → lvsB lv → lvB ar → ∀ (h : Heap) (lo : Nat),
      call Try.prog cfg k lo (.func 123) [.vs 3 (vsC vs), .vs 1 (intsC lv), .int .i64 ar, .agg (itC (n, s))] h =
        some (.tup [.vs 1 (intsC (mv1 (putR vs) ofA s lv ar)), .vs 8 ((pl1 (putR vs) ofA s lv ar n).map plC)], h)) ∧
    (∀ (l : List Sm') (lv : List Int) (ar n : Int), smsK l + 1300 ≤ k → smsN l ≤ 600 → l.length < 1000 → smsB l → vmL vs.length l → lv.length = vs.length → lvsB lv → lvB ar → ∀ (h : Heap) (lo : Nat),
      call Try.prog cfg k lo (.func 94) [.vs 3 (vsC vs), .vs 1 (intsC lv), .int .i64 ar, accV 6 ((itemsL l n).map itC)] h =
        some (.tup [.vs 1 (intsC (mvL (putR vs) ofA l lv ar)), accV 8 ((plL (putR vs) ofA l lv ar n).map plC)], h))
  | 0 => ⟨fun s lv ar n hk => by omega, fun l lv ar n hk => by omega⟩
  | k + 1 => by
    obtain ⟨ihs, ihl⟩ := behind_run vs hv1 hv2 k
    have hMv := mvR_ok vs vs.length
    constructor
    · intro s lv ar n hk hN hb hvm hlv hB har h lo
      obtain ⟨op, nn, a, t, e⟩ := s
      have hok := mv1_ok hMv (.mk op nn a t e) lv ar hlv hB har hvm
      rw [smK] at hk
      rw [smN] at hN
      rw [smB] at hb
      rw [vm1] at hvm
      obtain ⟨⟨ha1, ha2⟩, ⟨ht1, ht2⟩, he1, he2⟩ := hb
      obtain ⟨r1, r2, r3, r4, r5⟩ := hvm
      have hne : lv ≠ [] := fun e => by subst e; simp at hlv; omega
      have hla := exsK_len a
      have hlt := smsN_len t
      have hle := smsN_len e
      have hp2 := smsK_pos t
      have hp3 := smsK_pos e
      have hAv : ∀ x : List Int, x.length = vs.length → ∀ H L, call Try.prog cfg k L (.func 63) [.vs 1 (intsC x), .agg (smC (.mk op nn a t e))] H = some (.int .i64 (ofEs x 0 a), H) := fun x hx H L => by
        have := argsR_run op nn a t e x (k - 1) (by omega) ha1 ha2 (by rw [hx]; exact r1) H L
        rw [show k - 1 + 1 = k by omega] at this
        exact this
      have hOv : ∀ (x y : Int) H L, call Try.prog cfg k L (.func 53) [.int .i64 x, .int .i64 y] H = some (.int .i64 (orI x y), H) := fun x y H L => by
        have := or_run (k - 1) L x y H
        rw [show k - 1 + 1 = k by omega] at this
        exact this
      have hhere : ∀ x : List Int, ∀ r, r ∈ [plC (n, .mk op nn a t e, x, ar)] → r.length = 8 ∧ ∀ x, x ∈ r → static x = true := fun x r hr => by
        rw [List.mem_singleton] at hr; rw [hr]; exact plC_row _
      have hA := hAv lv hlv (h ++ [HObj.cells 107 (plC (n, .mk op nn a t e, lv, ar))]) h.length
      have hO := hOv ar (ofEs lv 0 a) (h ++ [HObj.cells 107 (plC (n, .mk op nn a t e, lv, ar))]) h.length
      have hfin1 : ∀ x : List Int, hand true h (.tup [.vs 1 (intsC x), .sl h.length 8 0 1]) (h ++ [HObj.cells 107 (plC (n, .mk op nn a t e, lv, ar))]) = some (.tup [.vs 1 (intsC x), .vs 8 [plC (n, .mk op nn a t e, lv, ar)]], h) := fun x =>
        here_fin (rows := [plC (n, .mk op nn a t e, lv, ar)]) (hhere lv) (by simp) (Nat.le_refl _)
      by_cases o0 : op = 0
      · have hm : mv1 (putR vs) ofA (.mk op nn a t e) lv ar = lv.set nn.toNat (orI (orI ar (ofEs lv 0 a)) (keptI vs lv nn)) := by
          rw [mv1, if_neg (by omega), if_neg (by omega)]
          unfold putR fromP
          dsimp only
          rw [if_pos (.inl o0), if_neg (by omega)]
        have hp : pl1 (putR vs) ofA (.mk op nn a t e) lv ar n = [(n, .mk op nn a t e, lv, ar)] := by rw [pl1, if_neg (by omega), if_neg (by omega)]
        rw [hm, hp]
        have hr := r2 (.inl o0)
        have hK := kept_run vs lv nn hr hlv (k - 1) (h ++ [HObj.cells 107 (plC (n, .mk op nn a t e, lv, ar))]) (h ++ [HObj.cells 107 (plC (n, .mk op nn a t e, lv, ar))]).length
        have hO2 := hOv (orI ar (ofEs lv 0 a)) (keptI vs lv nn) (h ++ [HObj.cells 107 (plC (n, .mk op nn a t e, lv, ar))]) (h ++ [HObj.cells 107 (plC (n, .mk op nn a t e, lv, ar))]).length
        have hW := with_run lv nn (orI (orI ar (ofEs lv 0 a)) (keptI vs lv nn)) (by omega) (by omega) (k - 1) (by omega) (h ++ [HObj.cells 107 (plC (n, .mk op nn a t e, lv, ar))]) (h ++ [HObj.cells 107 (plC (n, .mk op nn a t e, lv, ar))]).length
        rw [show k - 1 + 1 = k by omega] at hK hW
        have c0 : (op == 0) = true := by simp [o0]
        have hfin := hfin1 (lv.set nn.toNat (orI (orI ar (ofEs lv 0 a)) (keptI vs lv nn)))
        clear hm hp hAv hOv hfin1 ihs ihl hok
        apply W_call Try.func123 rfl (Nat.le_of_ble_eq_true rfl) rfl rfl
        (repeat' (first | apply W_seq | refine W_true rfl rfl ?_ | refine W_false rfl rfl ?_ | refine W_region (id := 0) rfl rfl ?_ | refine W_region (id := 1) rfl rfl ?_ | refine W_region (id := 2) rfl rfl ?_ | (refine W_ops (id := 3) rfl ?_ <;> refine T_ch 3 rfl ?_ <;> (refine T_go rfl ?_; refine G_op (O_call rfl rfl rfl rfl (by assumption)) ?_) <;> (refine T_go rfl ?_; refine G_op (O_call rfl rfl rfl rfl (by assumption)) ?_) <;> refine T_ch 1 rfl ?_ <;> apply T_nil) | refine W_region (id := 4) rfl rfl ?_ | (refine W_ops (id := 5) rfl ?_ <;> (refine T_go rfl ?_; refine G_true rfl (by with_reducible assumption) ?_) <;> refine T_ch 1 rfl ?_ <;> apply T_nil) | (refine W_dops (id := 6) (bs := [0, 0, 2, 0, 0, 0, 0, 64, 240, 504, 1023, 0, 2047, 8191]) rfl (by decide +kernel) ?_ <;> (refine U_go rfl ?_; refine H_free (by decide +kernel) rfl rfl rfl rfl rfl ?_) <;> (refine U_go rfl ?_; refine H_free (by decide +kernel) rfl rfl rfl rfl rfl ?_) <;> (refine U_go rfl ?_; refine H_free (by decide +kernel) rfl rfl rfl rfl rfl ?_) <;> (refine U_go rfl ?_; refine H_free (by decide +kernel) rfl rfl rfl rfl rfl ?_) <;> (refine U_go rfl ?_; refine H_free (by decide +kernel) rfl rfl rfl rfl rfl ?_) <;> (refine U_go rfl ?_; refine H_free (by decide +kernel) rfl rfl rfl rfl rfl ?_) <;> (refine U_go rfl ?_; refine H_free (by decide +kernel) rfl rfl rfl rfl rfl ?_) <;> (refine U_go rfl ?_; refine H_free (by decide +kernel) rfl rfl rfl rfl rfl ?_) <;> (refine U_go rfl ?_; refine H_free (by decide +kernel) rfl (O_call rfl rfl rfl rfl (by assumption)) rfl rfl rfl ?_) <;> (refine U_go rfl ?_; refine H_free (by decide +kernel) rfl (O_call rfl rfl rfl rfl (by assumption)) rfl rfl rfl ?_) <;> (refine U_go rfl ?_; refine H_free (by decide +kernel) rfl (O_call rfl rfl rfl rfl (by assumption)) rfl rfl rfl ?_) <;> (refine U_go rfl ?_; refine H_free (by decide +kernel) rfl rfl rfl rfl rfl ?_) <;> (refine U_go rfl ?_; refine H_free (by decide +kernel) rfl rfl rfl rfl rfl ?_) <;> (refine U_go rfl ?_; refine H_op (by decide +kernel) rfl ?_) <;> apply U_nil) | apply W_skip | apply W_block | apply W_ret | apply W_exit | refine W_true rfl (by assumption) ?_ | refine W_false rfl (by assumption) ?_ | refine W_cond rfl (fun _ => ?_) (fun _ => ?_)))
        exact ⟨.inl rfl, hfin⟩
      by_cases o4 : op = 4
      · have hm : mv1 (putR vs) ofA (.mk op nn a t e) lv ar = lv.set nn.toNat (orI (orI (orI ar (ofEs lv 0 a)) 16) (keptI vs lv nn)) := by
          rw [mv1, if_neg (by omega), if_neg (by omega)]
          unfold putR fromP
          dsimp only
          rw [if_pos (.inr o4), if_pos o4]
        have hp : pl1 (putR vs) ofA (.mk op nn a t e) lv ar n = [(n, .mk op nn a t e, lv, ar)] := by rw [pl1, if_neg (by omega), if_neg (by omega)]
        rw [hm, hp]
        have hr := r2 (.inr o4)
        have hK := kept_run vs lv nn hr hlv (k - 1) (h ++ [HObj.cells 107 (plC (n, .mk op nn a t e, lv, ar))]) (h ++ [HObj.cells 107 (plC (n, .mk op nn a t e, lv, ar))]).length
        have hO1 := hOv (orI ar (ofEs lv 0 a)) 16 (h ++ [HObj.cells 107 (plC (n, .mk op nn a t e, lv, ar))]) (h ++ [HObj.cells 107 (plC (n, .mk op nn a t e, lv, ar))]).length
        have hO2 := hOv (orI (orI ar (ofEs lv 0 a)) 16) (keptI vs lv nn) (h ++ [HObj.cells 107 (plC (n, .mk op nn a t e, lv, ar))]) (h ++ [HObj.cells 107 (plC (n, .mk op nn a t e, lv, ar))]).length
        have hW := with_run lv nn (orI (orI (orI ar (ofEs lv 0 a)) 16) (keptI vs lv nn)) (by omega) (by omega) (k - 1) (by omega) (h ++ [HObj.cells 107 (plC (n, .mk op nn a t e, lv, ar))]) (h ++ [HObj.cells 107 (plC (n, .mk op nn a t e, lv, ar))]).length
        rw [show k - 1 + 1 = k by omega] at hK hW
        have c0 : (op == 0) = false := by simp [o0]
        have c4 : (op == 4) = true := by simp [o4]
        have hfin := hfin1 (lv.set nn.toNat (orI (orI (orI ar (ofEs lv 0 a)) 16) (keptI vs lv nn)))
        clear hm hp hAv hOv hfin1 ihs ihl hok
        apply W_call Try.func123 rfl (Nat.le_of_ble_eq_true rfl) rfl rfl
        (repeat' (first | apply W_seq | refine W_true rfl rfl ?_ | refine W_false rfl rfl ?_ | refine W_region (id := 0) rfl rfl ?_ | refine W_region (id := 1) rfl rfl ?_ | refine W_region (id := 2) rfl rfl ?_ | (refine W_ops (id := 3) rfl ?_ <;> refine T_ch 3 rfl ?_ <;> (refine T_go rfl ?_; refine G_op (O_call rfl rfl rfl rfl (by assumption)) ?_) <;> (refine T_go rfl ?_; refine G_op (O_call rfl rfl rfl rfl (by assumption)) ?_) <;> refine T_ch 1 rfl ?_ <;> apply T_nil) | refine W_region (id := 4) rfl rfl ?_ | (refine W_ops (id := 5) rfl ?_ <;> (refine T_go rfl ?_; refine G_false rfl (by with_reducible assumption) ?_) <;> refine T_ch 1 rfl ?_ <;> apply T_nil) | (refine W_ops (id := 7) rfl ?_ <;> (refine T_go rfl ?_; refine G_true rfl (by with_reducible assumption) ?_) <;> refine T_ch 1 rfl ?_ <;> apply T_nil) | (refine W_dops (id := 8) (bs := [0, 0, 2, 0, 8, 0, 0, 0, 128, 504, 1016, 2047, 0, 4095, 16383]) rfl (by decide +kernel) ?_ <;> (refine U_go rfl ?_; refine H_free (by decide +kernel) rfl rfl rfl rfl rfl ?_) <;> (refine U_go rfl ?_; refine H_free (by decide +kernel) rfl rfl rfl rfl rfl ?_) <;> (refine U_go rfl ?_; refine H_free (by decide +kernel) rfl rfl rfl rfl rfl ?_) <;> (refine U_go rfl ?_; refine H_free (by decide +kernel) rfl rfl rfl rfl rfl ?_) <;> (refine U_go rfl ?_; refine H_free (by decide +kernel) rfl (O_call rfl rfl rfl rfl (by assumption)) rfl rfl rfl ?_) <;> (refine U_go rfl ?_; refine H_free (by decide +kernel) rfl rfl rfl rfl rfl ?_) <;> (refine U_go rfl ?_; refine H_free (by decide +kernel) rfl rfl rfl rfl rfl ?_) <;> (refine U_go rfl ?_; refine H_free (by decide +kernel) rfl rfl rfl rfl rfl ?_) <;> (refine U_go rfl ?_; refine H_free (by decide +kernel) rfl rfl rfl rfl rfl ?_) <;> (refine U_go rfl ?_; refine H_free (by decide +kernel) rfl (O_call rfl rfl rfl rfl (by assumption)) rfl rfl rfl ?_) <;> (refine U_go rfl ?_; refine H_free (by decide +kernel) rfl (O_call rfl rfl rfl rfl (by assumption)) rfl rfl rfl ?_) <;> (refine U_go rfl ?_; refine H_free (by decide +kernel) rfl (O_call rfl rfl rfl rfl (by assumption)) rfl rfl rfl ?_) <;> (refine U_go rfl ?_; refine H_free (by decide +kernel) rfl rfl rfl rfl rfl ?_) <;> (refine U_go rfl ?_; refine H_free (by decide +kernel) rfl rfl rfl rfl rfl ?_) <;> (refine U_go rfl ?_; refine H_op (by decide +kernel) rfl ?_) <;> apply U_nil) | apply W_skip | apply W_block | apply W_ret | apply W_exit | refine W_true rfl (by assumption) ?_ | refine W_false rfl (by assumption) ?_ | refine W_cond rfl (fun _ => ?_) (fun _ => ?_)))
        exact ⟨.inl rfl, hfin⟩
      have c0 : (op == 0) = false := by simp [o0]
      have c4 : (op == 4) = false := by simp [o4]
      by_cases o1 : op = 1
      · have hm : mv1 (putR vs) ofA (.mk op nn a t e) lv ar = joinL (mvL (putR vs) ofA t lv (orI ar (ofEs lv 0 a))) (mvL (putR vs) ofA e lv (orI ar (ofEs lv 0 a))) := by rw [mv1, if_pos o1]; rfl
        have hp : pl1 (putR vs) ofA (.mk op nn a t e) lv ar n = (n, .mk op nn a t e, lv, ar) :: (plL (putR vs) ofA t lv (orI ar (ofEs lv 0 a)) (IntKind.i64.wrap (n + 1)) ++ plL (putR vs) ofA e lv (orI ar (ofEs lv 0 a)) (IntKind.i64.wrap (IntKind.i64.wrap (n + 1) + cntL t 0))) := by rw [pl1, if_pos o1]; rfl
        rw [hm, hp]
        have hfB : lvB (orI ar (ofEs lv 0 a)) := orI_B har (ofEs_B hB a lvB0)
        have hTh := then_run n op nn a t e (k - 1) (by omega) (by omega) ht2 (h ++ [HObj.cells 107 (plC (n, .mk op nn a t e, lv, ar))]) h.length
        have hEl := else_run n op nn a t e (k - 1) (by omega) (by omega) ht2 (by omega) he2 (h ++ [HObj.cells 107 (plC (n, .mk op nn a t e, lv, ar))]) h.length
        rw [show k - 1 + 1 = k by omega] at hTh hEl
        have hT := ihl t lv (orI ar (ofEs lv 0 a)) (IntKind.i64.wrap (n + 1)) (by omega) (by omega) (by omega) ht2 r4 hlv hB hfB (h ++ [HObj.cells 107 (plC (n, .mk op nn a t e, lv, ar))]) h.length
        have hE := ihl e lv (orI ar (ofEs lv 0 a)) (IntKind.i64.wrap (IntKind.i64.wrap (n + 1) + cntL t 0)) (by omega) (by omega) (by omega) he2 r5 hlv hB hfB (h ++ [HObj.cells 107 (plC (n, .mk op nn a t e, lv, ar))]) h.length
        obtain ⟨t1, t2⟩ := mvL_ok hMv t lv (orI ar (ofEs lv 0 a)) hlv hB hfB r4
        obtain ⟨e1, e2⟩ := mvL_ok hMv e lv (orI ar (ofEs lv 0 a)) hlv hB hfB r5
        have hJ := join_run _ _ (t1.trans e1.symm) (fun q => by rw [q] at t1; simp at t1; omega) (by omega) (k - 1) (by omega) (h ++ [HObj.cells 107 (plC (n, .mk op nn a t e, lv, ar))]) h.length
        rw [show k - 1 + 1 = k by omega] at hJ
        have lT := plL_len (putR vs) ofA t lv (orI ar (ofEs lv 0 a)) (IntKind.i64.wrap (n + 1))
        have lE := plL_len (putR vs) ofA e lv (orI ar (ofEs lv 0 a)) (IntKind.i64.wrap (IntKind.i64.wrap (n + 1) + cntL t 0))
        generalize plL (putR vs) ofA t lv (orI ar (ofEs lv 0 a)) (IntKind.i64.wrap (n + 1)) = X at *
        generalize plL (putR vs) ofA e lv (orI ar (ofEs lv 0 a)) (IntKind.i64.wrap (IntKind.i64.wrap (n + 1) + cntL t 0)) = Y at *
        generalize mvL (putR vs) ofA t lv (orI ar (ofEs lv 0 a)) = A at *
        generalize mvL (putR vs) ofA e lv (orI ar (ofEs lv 0 a)) = B at *
        have ap1 := here_append h [] h.length (by simp) [plC (n, .mk op nn a t e, lv, ar)] (fun r hr => (hhere lv r hr).1) (X.map plC) (by simp; omega)
        have ap2 := here_append h [] h.length (by simp) ([plC (n, .mk op nn a t e, lv, ar)] ++ X.map plC) (fun r hr => by
          rcases List.mem_append.1 hr with hr | hr
          · exact (hhere lv r hr).1
          · exact (plC_rows X r hr).1) (Y.map plC) (by simp; omega)
        have hfin := here_fin (h := h) (H := h ++ [HObj.cells 107 (([plC (n, .mk op nn a t e, lv, ar)] ++ X.map plC) ++ Y.map plC).flatten]) (lv := joinL A B) (rows := ([plC (n, .mk op nn a t e, lv, ar)] ++ X.map plC) ++ Y.map plC) (id := h.length) (fun r hr => by
          rcases List.mem_append.1 hr with hr | hr
          · rcases List.mem_append.1 hr with hr | hr
            · exact hhere lv r hr
            · exact plC_rows X r hr
          · exact plC_rows Y r hr) (by simp) (Nat.le_refl _)
        have hf1 : ([plC (n, .mk op nn a t e, lv, ar)] : List (List AV)).flatten = plC (n, .mk op nn a t e, lv, ar) := by simp
        have hl1 : ([plC (n, .mk op nn a t e, lv, ar)] : List (List AV)).length = 1 := rfl
        rw [List.append_nil, List.length_nil, Nat.add_zero, hf1, hl1] at ap1
        rw [List.append_nil, List.length_nil, Nat.add_zero, List.length_append, hl1] at ap2
        rw [List.length_append, List.length_append, hl1] at hfin
        have c1 : (op == 1) = true := by simp [o1]
        rw [show ((n, Sm'.mk op nn a t e, lv, ar) :: (X ++ Y)).map plC = ([plC (n, .mk op nn a t e, lv, ar)] ++ X.map plC) ++ Y.map plC by simp]
        clear hm hp hAv hOv hfin1 ihs ihl hok
        apply W_call Try.func123 rfl (Nat.le_of_ble_eq_true rfl) rfl rfl
        (repeat' (first | apply W_seq | refine W_true rfl rfl ?_ | refine W_false rfl rfl ?_ | refine W_region (id := 0) rfl rfl ?_ | refine W_region (id := 1) rfl rfl ?_ | refine W_region (id := 2) rfl rfl ?_ | (refine W_ops (id := 3) rfl ?_ <;> refine T_ch 3 rfl ?_ <;> (refine T_go rfl ?_; refine G_op (O_call rfl rfl rfl rfl (by assumption)) ?_) <;> (refine T_go rfl ?_; refine G_op (O_call rfl rfl rfl rfl (by assumption)) ?_) <;> refine T_ch 1 rfl ?_ <;> apply T_nil) | refine W_region (id := 4) rfl rfl ?_ | (refine W_ops (id := 5) rfl ?_ <;> (refine T_go rfl ?_; refine G_false rfl (by with_reducible assumption) ?_) <;> refine T_ch 1 rfl ?_ <;> apply T_nil) | (refine W_ops (id := 7) rfl ?_ <;> (refine T_go rfl ?_; refine G_false rfl (by with_reducible assumption) ?_) <;> refine T_ch 1 rfl ?_ <;> apply T_nil) | (refine W_ops (id := 9) rfl ?_ <;> (refine T_go rfl ?_; refine G_true rfl (by with_reducible assumption) ?_) <;> refine T_ch 1 rfl ?_ <;> apply T_nil) | (refine W_ops (id := 10) rfl ?_ <;> refine T_ch 4 rfl ?_ <;> (refine T_go rfl ?_; refine G_op (O_call rfl rfl rfl rfl (by assumption)) ?_) <;> (refine T_go rfl ?_; refine G_op (O_call rfl rfl rfl rfl (by assumption)) ?_) <;> refine T_ch 5 rfl ?_ <;> apply T_nil) | (refine W_ops (id := 11) rfl ?_ <;> refine T_ch 4 rfl ?_ <;> (refine T_go rfl ?_; refine G_op (O_call rfl rfl rfl rfl (by assumption)) ?_) <;> (refine T_go rfl ?_; refine G_op (O_call rfl rfl rfl rfl (by assumption)) ?_) <;> refine T_ch 5 rfl ?_ <;> apply T_nil) | (refine W_ops (id := 12) rfl ?_ <;> refine T_ch 2 rfl ?_ <;> (refine T_go rfl ?_; refine G_op (O_call rfl rfl rfl rfl (by assumption)) ?_) <;> refine T_ch 2 rfl ?_ <;> (refine T_go rfl ?_; refine G_op (O_append rfl rfl rfl rfl rfl (by assumption)) ?_) <;> refine T_ch 1 rfl ?_ <;> (refine T_go rfl ?_; refine G_op (O_append rfl rfl rfl rfl rfl (by assumption)) ?_) <;> refine T_ch 2 rfl ?_ <;> apply T_nil) | apply W_skip | apply W_block | apply W_ret | apply W_exit | refine W_true rfl (by assumption) ?_ | refine W_false rfl (by assumption) ?_ | refine W_cond rfl (fun _ => ?_) (fun _ => ?_)))
        exact ⟨.inl rfl, hfin⟩
      have c1 : (op == 1) = false := by simp [o1]
      by_cases o2 : op = 2
      · have hm : mv1 (putR vs) ofA (.mk op nn a t e) lv ar = fixN (fR vs t a ar) 600 lv := by rw [mv1, if_neg o1, if_pos o2]; rfl
        have hp : pl1 (putR vs) ofA (.mk op nn a t e) lv ar n = (n, .mk op nn a t e, fixN (fR vs t a ar) 600 lv, ar) :: plL (putR vs) ofA t (fixN (fR vs t a ar) 600 lv) (orI ar (ofEs (fixN (fR vs t a ar) 600 lv) 0 a)) (IntKind.i64.wrap (n + 1)) := by
          rw [pl1, if_neg o1, if_pos o2, hm]; rfl
        rw [hm, hp]
        have hrm := roomL_le hB
        have hTh := then_run n op nn a t e (k - 1) (by omega) (by omega) ht2 (h ++ [HObj.cells 107 (plC (n, .mk op nn a t e, lv, ar))]) h.length
        rw [show k - 1 + 1 = k by omega] at hTh
        have c2 : (op == 2) = true := by simp [o2]
        have hfx0 : fixN (fR vs t a ar) 600 lv = fixN (fR vs t a ar) 600 lv := rfl
        generalize hF : fixN (fR vs t a ar) 600 lv = F
        clear hm hp hok
        apply W_call Try.func123 rfl (Nat.le_of_ble_eq_true rfl) rfl rfl
        (repeat' (first | apply W_seq | refine W_true rfl rfl ?_ | refine W_false rfl rfl ?_ | refine W_region (id := 0) rfl rfl ?_ | refine W_region (id := 1) rfl rfl ?_ | refine W_region (id := 2) rfl rfl ?_ | (refine W_ops (id := 3) rfl ?_ <;> refine T_ch 3 rfl ?_ <;> (refine T_go rfl ?_; refine G_op (O_call rfl rfl rfl rfl (by assumption)) ?_) <;> (refine T_go rfl ?_; refine G_op (O_call rfl rfl rfl rfl (by assumption)) ?_) <;> refine T_ch 1 rfl ?_ <;> apply T_nil) | refine W_region (id := 4) rfl rfl ?_ | (refine W_ops (id := 5) rfl ?_ <;> (refine T_go rfl ?_; refine G_false rfl (by with_reducible assumption) ?_) <;> refine T_ch 1 rfl ?_ <;> apply T_nil) | (refine W_ops (id := 7) rfl ?_ <;> (refine T_go rfl ?_; refine G_false rfl (by with_reducible assumption) ?_) <;> refine T_ch 1 rfl ?_ <;> apply T_nil) | (refine W_ops (id := 9) rfl ?_ <;> (refine T_go rfl ?_; refine G_false rfl (by with_reducible assumption) ?_) <;> refine T_ch 1 rfl ?_ <;> apply T_nil) | (refine W_ops (id := 13) rfl ?_ <;> (refine T_go rfl ?_; refine G_true rfl (by with_reducible assumption) ?_) <;> refine T_ch 1 rfl ?_ <;> apply T_nil) | apply W_skip | apply W_block | apply W_ret | apply W_exit | refine W_true rfl (by assumption) ?_ | refine W_false rfl (by assumption) ?_ | refine W_cond rfl (fun _ => ?_) (fun _ => ?_)))
        apply W_while (S := bhS h vs n ar (.mk op nn a t e) lv) (a0 := lv) (fun x => x.length = vs.length ∧ lvsB x ∧ ∃ c, roomL x < c ∧ fixN (fR vs t a ar) c x = F) roomL (by omega) rfl ⟨hlv, hB, 600, by omega, hF⟩
        intro x hJ
        obtain ⟨j1, j2, c, j3, j4⟩ := hJ
        have hne' : x ≠ [] := fun e => by subst e; simp at j1; omega
        have hfB : lvB (orI ar (ofEs x 0 a)) := orI_B har (ofEs_B j2 a lvB0)
        have hA2 := hAv x j1 (h ++ [HObj.cells 107 (plC (n, .mk op nn a t e, lv, ar))]) h.length
        have hO2 := hOv ar (ofEs x 0 a) (h ++ [HObj.cells 107 (plC (n, .mk op nn a t e, lv, ar))]) h.length
        have hT := ihl t x (orI ar (ofEs x 0 a)) (IntKind.i64.wrap (n + 1)) (by omega) (by omega) (by omega) ht2 r4 j1 j2 hfB (h ++ [HObj.cells 107 (plC (n, .mk op nn a t e, lv, ar))]) h.length
        obtain ⟨t1, t2⟩ := mvL_ok hMv t x (orI ar (ofEs x 0 a)) j1 j2 hfB r4
        have hJn := join_run _ _ (j1.trans t1.symm) hne' (by omega) (k - 1) (by omega) (h ++ [HObj.cells 107 (plC (n, .mk op nn a t e, lv, ar))]) h.length
        obtain ⟨f1, f2, f3⟩ := round_ok hMv r4 har a j1 j2
        have hfx : joinL x (mvL (putR vs) ofA t x (orI ar (ofEs x 0 a))) = fR vs t a ar x := rfl
        have hfx' : joinL x (mvL (putR vs) ofA t x (orI ar (ofA x a))) = fR vs t a ar x := rfl
        rw [hfx'] at f1 f2 f3
        rw [hfx] at hJn
        have hWs := wsame_run (fR vs t a ar x) x (by omega) (k - 1) (by omega) (h ++ [HObj.cells 107 (plC (n, .mk op nn a t e, lv, ar))]) h.length
        rw [show k - 1 + 1 = k by omega] at hJn hWs
        have lT := plL_len (putR vs) ofA t x (orI ar (ofEs x 0 a)) (IntKind.i64.wrap (n + 1))
        obtain ⟨c, rfl⟩ : ∃ c', c = c' + 1 := ⟨c - 1, by omega⟩
        rw [fixN] at j4
        generalize fR vs t a ar x = fx at *
        by_cases hs : fx = x
        · rw [if_pos hs] at j4
          rw [decide_eq_true hs] at hWs
          rw [← j4]
          generalize plL (putR vs) ofA t x (orI ar (ofEs x 0 a)) (IntKind.i64.wrap (n + 1)) = X at *
          have ap1 := here_append h [HObj.cells 107 (plC (n, .mk op nn a t e, lv, ar))] h.length (by simp) [plC (n, .mk op nn a t e, x, ar)] (fun r hr => (hhere x r hr).1) (X.map plC) (by simp; omega)
          have hfin := here_fin (h := h) (H := h ++ [HObj.cells 107 (plC (n, .mk op nn a t e, lv, ar))] ++ [HObj.cells 107 ([plC (n, .mk op nn a t e, x, ar)] ++ X.map plC).flatten]) (lv := x) (rows := [plC (n, .mk op nn a t e, x, ar)] ++ X.map plC) (id := h.length + 1) (fun r hr => by
            rcases List.mem_append.1 hr with hr | hr
            · exact hhere x r hr
            · exact plC_rows X r hr) (by simp) (by omega)
          have hf1 : ([plC (n, .mk op nn a t e, x, ar)] : List (List AV)).flatten = plC (n, .mk op nn a t e, x, ar) := by simp
          have hl1 : ([plC (n, .mk op nn a t e, x, ar)] : List (List AV)).length = 1 := rfl
          rw [hf1, hl1] at ap1
          rw [List.length_append, hl1] at hfin
          have e1 : (h ++ [HObj.cells 107 (plC (n, .mk op nn a t e, lv, ar))]).length = h.length + [HObj.cells 107 (plC (n, .mk op nn a t e, lv, ar))].length := by simp
          rw [← e1] at ap1
          have e2 : h.length + 1 = (h ++ [HObj.cells 107 (plC (n, .mk op nn a t e, lv, ar))]).length := by simp
          rw [e2] at hfin
          rw [show ((n, Sm'.mk op nn a t e, x, ar) :: X).map plC = [plC (n, .mk op nn a t e, x, ar)] ++ X.map plC by simp]
          (repeat' (first | apply W_seq | refine W_true rfl rfl ?_ | refine W_false rfl rfl ?_ | (refine W_ops (id := 14) rfl ?_ <;> refine T_ch 3 rfl ?_ <;> (refine T_go rfl ?_; refine G_op (O_call rfl rfl rfl rfl (by assumption)) ?_) <;> (refine T_go rfl ?_; refine G_op (O_call rfl rfl rfl rfl (by assumption)) ?_) <;> refine T_ch 1 rfl ?_ <;> apply T_nil) | (refine W_ops (id := 15) rfl ?_ <;> refine T_ch 4 rfl ?_ <;> (refine T_go rfl ?_; refine G_op (O_call rfl rfl rfl rfl (by assumption)) ?_) <;> (refine T_go rfl ?_; refine G_op (O_call rfl rfl rfl rfl (by assumption)) ?_) <;> refine T_ch 5 rfl ?_ <;> apply T_nil) | (refine W_ops (id := 16) rfl ?_ <;> refine T_ch 2 rfl ?_ <;> (refine T_go rfl ?_; refine G_op (O_call rfl rfl rfl rfl (by assumption)) ?_) <;> refine T_ch 1 rfl ?_ <;> apply T_nil) | (refine W_ops (id := 17) rfl ?_ <;> refine T_ch 2 rfl ?_ <;> (refine T_go rfl ?_; refine G_true (O_call rfl rfl rfl rfl (by assumption)) rfl ?_) <;> apply T_nil) | (refine W_ops (id := 18) rfl ?_ <;> refine T_ch 7 rfl ?_ <;> (refine T_go rfl ?_; refine G_op (O_append rfl rfl rfl rfl rfl (by assumption)) ?_) <;> refine T_ch 2 rfl ?_ <;> apply T_nil) | apply W_skip | apply W_block | apply W_ret | apply W_exit | refine W_true rfl (by assumption) ?_ | refine W_false rfl (by assumption) ?_ | refine W_cond rfl (fun _ => ?_) (fun _ => ?_)))
          exact ⟨.inl rfl, hfin⟩
        · rw [if_neg hs] at j4
          rw [decide_eq_false hs] at hWs
          have hlt3 : roomL fx < roomL x := by
            rcases f3 with f3 | f3
            · exact absurd f3 hs
            · exact f3
          (repeat' (first | apply W_seq | refine W_true rfl rfl ?_ | refine W_false rfl rfl ?_ | (refine W_ops (id := 14) rfl ?_ <;> refine T_ch 3 rfl ?_ <;> (refine T_go rfl ?_; refine G_op (O_call rfl rfl rfl rfl (by assumption)) ?_) <;> (refine T_go rfl ?_; refine G_op (O_call rfl rfl rfl rfl (by assumption)) ?_) <;> refine T_ch 1 rfl ?_ <;> apply T_nil) | (refine W_ops (id := 15) rfl ?_ <;> refine T_ch 4 rfl ?_ <;> (refine T_go rfl ?_; refine G_op (O_call rfl rfl rfl rfl (by assumption)) ?_) <;> (refine T_go rfl ?_; refine G_op (O_call rfl rfl rfl rfl (by assumption)) ?_) <;> refine T_ch 5 rfl ?_ <;> apply T_nil) | (refine W_ops (id := 16) rfl ?_ <;> refine T_ch 2 rfl ?_ <;> (refine T_go rfl ?_; refine G_op (O_call rfl rfl rfl rfl (by assumption)) ?_) <;> refine T_ch 1 rfl ?_ <;> apply T_nil) | (refine W_ops (id := 17) rfl ?_ <;> refine T_ch 2 rfl ?_ <;> (refine T_go rfl ?_; refine G_false (O_call rfl rfl rfl rfl (by assumption)) rfl ?_) <;> apply T_nil) | refine W_region (id := 19) rfl rfl ?_ | apply W_skip | apply W_block | apply W_ret | apply W_exit | refine W_true rfl (by assumption) ?_ | refine W_false rfl (by assumption) ?_ | refine W_cond rfl (fun _ => ?_) (fun _ => ?_)))
          exact ⟨fx, rfl, ⟨f1, f2, c, by omega, j4⟩, hlt3⟩
      · have c2 : (op == 2) = false := by simp [o2]
        have hm : mv1 (putR vs) ofA (.mk op nn a t e) lv ar = lv := by
          rw [mv1, if_neg o1, if_neg o2]
          unfold putR
          dsimp only
          rw [if_neg (by omega)]
        have hp : pl1 (putR vs) ofA (.mk op nn a t e) lv ar n = [(n, .mk op nn a t e, lv, ar)] := by rw [pl1, if_neg o1, if_neg o2]
        rw [hm, hp]
        have hfin := hfin1 lv
        clear hm hp hAv hOv hfin1 ihs ihl hok
        apply W_call Try.func123 rfl (Nat.le_of_ble_eq_true rfl) rfl rfl
        (repeat' (first | apply W_seq | refine W_true rfl rfl ?_ | refine W_false rfl rfl ?_ | refine W_region (id := 0) rfl rfl ?_ | refine W_region (id := 1) rfl rfl ?_ | refine W_region (id := 2) rfl rfl ?_ | (refine W_ops (id := 3) rfl ?_ <;> refine T_ch 3 rfl ?_ <;> (refine T_go rfl ?_; refine G_op (O_call rfl rfl rfl rfl (by assumption)) ?_) <;> (refine T_go rfl ?_; refine G_op (O_call rfl rfl rfl rfl (by assumption)) ?_) <;> refine T_ch 1 rfl ?_ <;> apply T_nil) | refine W_region (id := 4) rfl rfl ?_ | (refine W_ops (id := 5) rfl ?_ <;> (refine T_go rfl ?_; refine G_false rfl (by with_reducible assumption) ?_) <;> refine T_ch 1 rfl ?_ <;> apply T_nil) | (refine W_ops (id := 7) rfl ?_ <;> (refine T_go rfl ?_; refine G_false rfl (by with_reducible assumption) ?_) <;> refine T_ch 1 rfl ?_ <;> apply T_nil) | (refine W_ops (id := 9) rfl ?_ <;> (refine T_go rfl ?_; refine G_false rfl (by with_reducible assumption) ?_) <;> refine T_ch 1 rfl ?_ <;> apply T_nil) | (refine W_ops (id := 13) rfl ?_ <;> (refine T_go rfl ?_; refine G_false rfl (by with_reducible assumption) ?_) <;> refine T_ch 1 rfl ?_ <;> apply T_nil) | refine W_region (id := 20) rfl rfl ?_ | apply W_skip | apply W_block | apply W_ret | apply W_exit | refine W_true rfl (by assumption) ?_ | refine W_false rfl (by assumption) ?_ | refine W_cond rfl (fun _ => ?_) (fun _ => ?_)))
        exact ⟨.inl rfl, hfin⟩
    · intro l lv ar n hk hN hlen hb hvm hlv hB har h lo
      have hll := smsK_len l
      cases hl0 : l with
      | nil =>
        rw [mvL, plL]
        apply W_call Try.func94 rfl (Nat.le_of_ble_eq_true rfl) rfl rfl
        (repeat' (first | apply W_seq | refine W_true rfl rfl ?_ | refine W_false rfl rfl ?_ | refine W_region (id := 0) rfl rfl ?_ | refine W_region (id := 1) rfl rfl ?_ | refine W_region (id := 2) rfl rfl ?_ | apply W_skip | apply W_block | apply W_ret | apply W_exit | refine W_true rfl (by assumption) ?_ | refine W_false rfl (by assumption) ?_ | refine W_cond rfl (fun _ => ?_) (fun _ => ?_)))
        apply W_iter (S := rwlS h vs ar .nils) (l := ([] : List Sm')) (a0 := ([], lv, n)) (fun _ a => a = ([], lv, n)) (by simp) (by simp; omega) rfl rfl
        · intro i st rest a hi; simp at hi
        · intro a hJ
          subst hJ
          (repeat' (first | apply W_seq | refine W_true rfl rfl ?_ | refine W_false rfl rfl ?_ | (refine W_ops (id := 3) rfl ?_ <;> refine T_ch 3 rfl ?_ <;> (refine T_go rfl ?_; refine G_false rfl rfl ?_) <;> apply T_nil) | refine W_region (id := 8) rfl rfl ?_ | apply W_skip | apply W_block | apply W_ret | apply W_exit | refine W_true rfl (by assumption) ?_ | refine W_false rfl (by assumption) ?_ | refine W_cond rfl (fun _ => ?_) (fun _ => ?_)))
          exact ⟨.inl rfl, rfl⟩
      | cons s0 l0 =>
        rw [← hl0]
        have hR := plC_rows (plL (putR vs) ofA l lv ar n)
        have hfz := acc_frzA (h := h) (e := 107) _ hR
        have htot := plL_len (putR vs) ofA l lv ar n
        have hacc : accV 6 ((itemsL l n).map itC) = .vs 6 ((itemsL l n).map itC) := by subst hl0; rfl
        rw [hacc]
        generalize hRR : (plL (putR vs) ofA l lv ar n).map plC = R at hR hfz ⊢
        have hRl : R.length ≤ smsN l := by rw [← hRR, List.length_map]; exact htot
        generalize hMM : mvL (putR vs) ofA l lv ar = M
        apply W_call Try.func94 rfl (Nat.le_of_ble_eq_true rfl) rfl rfl
        (repeat' (first | apply W_seq | refine W_true rfl rfl ?_ | refine W_false rfl rfl ?_ | refine W_region (id := 0) rfl rfl ?_ | refine W_region (id := 1) rfl rfl ?_ | refine W_region (id := 2) rfl rfl ?_ | apply W_skip | apply W_block | apply W_ret | apply W_exit | refine W_true rfl (by assumption) ?_ | refine W_false rfl (by assumption) ?_ | refine W_cond rfl (fun _ => ?_) (fun _ => ?_)))
        apply W_iterI (S := rwlS h vs ar (.vs 6 ((itemsL l n).map itC))) (l := l) (a0 := ([], lv, n)) (fun i rest a => a.1 ++ (plL (putR vs) ofA rest a.2.1 ar a.2.2).map plC = R ∧ (itemsL l n).drop i = itemsL rest a.2.2 ∧ mvL (putR vs) ofA rest a.2.1 ar = M ∧ a.2.1.length = vs.length ∧ lvsB a.2.1) (by omega) (by omega) rfl ⟨by simpa using hRR, rfl, hMM, hlv, hB⟩
        · intro i st rest a hi hd hil hJ
          obtain ⟨rows, x, m⟩ := a
          obtain ⟨hJ, hdr, hJM, jl, jB⟩ := hJ
          dsimp only at hJ hdr hJM jl jB
          have hlt := lt_its (n := n) hil
          have hmem := smsK_mem2 l i _ hi
          have hNm := smsN_mem l i _ hi
          have hbm := smsB_mem l i _ hb hi
          have hvm1 := vmL_mem hvm hi
          rw [itemsL] at hdr
          have hget : (itemsL l n)[i]? = some (m, st) := by
            have := congrArg (fun z => z[0]?) hdr
            simpa using this
          have hrow : ((itemsL l n).map itC)[i]? = some (itC (m, st)) := by rw [List.getElem?_map, hget]; rfl
          have hdr2 : (itemsL l n).drop (i + 1) = itemsL rest (cnt1 st m) := by rw [← List.drop_drop, hdr]; rfl
          rw [plL, List.map_append, ← List.append_assoc] at hJ
          rw [mvL] at hJM
          have hBh := ihs st x ar m (by omega) (by omega) hbm hvm1 jl jB har (accH h 107 rows) h.length
          obtain ⟨q1, q2⟩ := mv1_ok hMv st x ar jl jB har hvm1
          have hpl := congrArg List.length hJ
          rw [List.length_append, List.length_append] at hpl
          have q3 : ∀ r, r ∈ rows → r.length = 8 := fun r hr => (hR r (by rw [← hJ]; simp [hr])).1
          have hap := pl_append h rows ((pl1 (putR vs) ofA st x ar m).map plC) q3 (by omega)
          have hpne : accV 8 ((pl1 (putR vs) ofA st x ar m).map plC) = .vs 8 ((pl1 (putR vs) ofA st x ar m).map plC) := by
            obtain ⟨op, nn, a, t, e⟩ := st
            rw [pl1]
            split
            · rfl
            · split <;> rfl
          rw [hpne] at hap
          generalize mv1 (putR vs) ofA st x ar = x' at hBh q1 q2 hJ hJM
          generalize (pl1 (putR vs) ofA st x ar m).map plC = P at hBh hap hJ
          obtain ⟨op, nn, a, t, e⟩ := st
          (repeat' (first | apply W_seq | refine W_true rfl rfl ?_ | refine W_false rfl rfl ?_ | (refine W_ops (id := 3) rfl ?_ <;> refine T_ch 3 rfl ?_ <;> (refine T_go rfl ?_; refine G_true rfl (by with_reducible assumption) ?_) <;> apply T_nil) | refine W_region (id := 4) rfl rfl ?_ | (refine W_ops (id := 5) rfl ?_ <;> refine T_ch 5 rfl ?_ <;> (refine T_go rfl ?_; refine G_op (O_index rfl rfl rfl rfl rfl (by assumption)) ?_) <;> (refine T_go rfl ?_; refine G_op rfl ?_) <;> (refine T_go rfl ?_; refine G_op (O_call rfl rfl rfl rfl (by assumption)) ?_) <;> refine T_ch 5 rfl ?_ <;> apply T_nil) | (refine W_ops (id := 6) rfl ?_ <;> refine T_ch 2 rfl ?_ <;> (refine T_go rfl ?_; refine G_op (O_append rfl rfl rfl rfl rfl (by assumption)) ?_) <;> refine T_ch 1 rfl ?_ <;> apply T_nil) | refine W_region (id := 7) rfl rfl ?_ | apply W_skip | apply W_block | apply W_ret | apply W_exit | refine W_true rfl (by assumption) ?_ | refine W_false rfl (by assumption) ?_ | refine W_cond rfl (fun _ => ?_) (fun _ => ?_)))
          exact ⟨(rows ++ P, x', cnt1 (.mk op nn a t e) m), rfl, hJ, hdr2, hJM, q1, q2⟩
        · intro a hJ
          have hlt := ge_its (l := l) (n := n)
          obtain ⟨rows, x, m⟩ := a
          obtain ⟨hJ, _, hJM, _, _⟩ := hJ
          have h1 : rows = R := by simpa [plL] using hJ
          have h2 : x = M := by simpa [mvL] using hJM
          subst h1 h2
          have hfin := hand_two (h := h) (H := accH h 107 rows) (a := .vs 1 (intsC x)) (b := accA h 8 rows) rfl hfz (fun _ => by simp) (fun _ => by cases rows <;> simp [accA])
          (repeat' (first | apply W_seq | refine W_true rfl rfl ?_ | refine W_false rfl rfl ?_ | (refine W_ops (id := 3) rfl ?_ <;> refine T_ch 3 rfl ?_ <;> (refine T_go rfl ?_; refine G_false rfl (by with_reducible assumption) ?_) <;> apply T_nil) | refine W_region (id := 8) rfl rfl ?_ | apply W_skip | apply W_block | apply W_ret | apply W_exit | refine W_true rfl (by assumption) ?_ | refine W_false rfl (by assumption) ?_ | refine W_cond rfl (fun _ => ?_) (fun _ => ?_)))
          exact ⟨.inl rfl, hfin⟩
end Go.Proofs.Ytelobnllkhnpaaa.L
/- Types that move, in the reference: Places, Moved. -/
open Go Go.Proofs Go.Ev Go.Proofs.Ytelobnllkhnpaaa.E
namespace Go.Proofs.Ytelobnllkhnpaaa.L
set_option linter.unusedVariables false
set_option linter.unusedSimpArgs false
set_option maxHeartbeats 2000000
set_option maxRecDepth 100000

/-- What is asked of a place to say its level. -/
def plOk (m K : Nat) : Pl → Prop
  | (_, .mk _ _ a _ _, lv, _) => exsK a ≤ K ∧ a.length < 9223372036854775808 ∧ exsB a ∧ rdEs m a ∧ lv.length = m
section
variable {pt : List Int → Int → Sm' → List Int} {og : List Int → List Ex' → Int}
mutual
theorem pl1_ok {m K : Nat} (H : Mv pt og m) : ∀ (s : Sm') (lv : List Int) (ar n : Int), smK s ≤ K → smB s → vm1 m s → lv.length = m → lvsB lv → lvB ar → ∀ p, p ∈ pl1 pt og s lv ar n → plOk m K p
  | .mk op nn a t e, lv, ar, n, hK, hb, hv, hl, hB, har, p, hp => by
    obtain ⟨q1, q2⟩ := mv1_ok H (.mk op nn a t e) lv ar hl hB har hv
    rw [smK] at hK
    rw [smB] at hb
    rw [vm1] at hv
    obtain ⟨⟨ha1, ha2⟩, ⟨ht1, ht2⟩, he1, he2⟩ := hb
    rw [pl1] at hp
    have h0 : ∀ lv' : List Int, lv'.length = m → plOk m K (n, .mk op nn a t e, lv', ar) := fun lv' hl' => ⟨by omega, ha1, ha2, hv.1, hl'⟩
    split at hp
    · rcases List.mem_cons.1 hp with rfl | hp
      · exact h0 lv hl
      · rcases List.mem_append.1 hp with hp | hp
        · exact plL_ok H t lv _ _ (by omega) ht2 hv.2.2.2.1 hl hB (orI_B har (H.og lv a hB)) p hp
        · exact plL_ok H e lv _ _ (by omega) he2 hv.2.2.2.2 hl hB (orI_B har (H.og lv a hB)) p hp
    · split at hp
      · rcases List.mem_cons.1 hp with rfl | hp
        · exact h0 _ q1
        · exact plL_ok H t _ _ _ (by omega) ht2 hv.2.2.2.1 q1 q2 (orI_B har (H.og _ a q2)) p hp
      · rw [List.mem_singleton] at hp
        rw [hp]
        exact h0 lv hl
theorem plL_ok {m K : Nat} (H : Mv pt og m) : ∀ (l : List Sm') (lv : List Int) (ar n : Int), smsK l ≤ K → smsB l → vmL m l → lv.length = m → lvsB lv → lvB ar → ∀ p, p ∈ plL pt og l lv ar n → plOk m K p
  | [], lv, ar, n, _, _, _, _, _, _, p, hp => by rw [plL] at hp; cases hp
  | s :: l, lv, ar, n, hK, hb, hv, hl, hB, har, p, hp => by
    rw [smsK] at hK
    obtain ⟨q1, q2⟩ := mv1_ok H s lv ar hl hB har hv.1
    rw [plL] at hp
    rcases List.mem_append.1 hp with hp | hp
    · exact pl1_ok H s lv ar n (by omega) hb.1 hv.1 hl hB har p hp
    · exact plL_ok H l _ ar _ (by omega) hb.2 hv.2 q1 q2 har p hp
end
end
/-- The flow at a place, if there is one. -/
def flPl : Pl → List (List AV)
  | (n, .mk op nn a _ _, lv, ar) => if op = 3 then flowL n (orI ar (ofEs lv 0 a)) nn else []
theorem flPl_row (p : Pl) : ∀ r, r ∈ flPl p → r.length = 3 ∧ ∀ x, x ∈ r → static x = true := by
  obtain ⟨n, ⟨op, nn, a, t, e⟩, lv, ar⟩ := p
  intro r hr
  unfold flPl at hr
  dsimp only at hr
  split at hr
  · exact flowL_row _ _ _ r hr
  · cases hr
theorem flPl_len (p : Pl) : (flPl p).length ≤ 1 := by
  obtain ⟨n, ⟨op, nn, a, t, e⟩, lv, ar⟩ := p
  unfold flPl
  dsimp only
  split
  · exact flowL_len _ _ _
  · simp
theorem flPls_row (l : List Pl) : ∀ r, r ∈ l.flatMap flPl → r.length = 3 ∧ ∀ x, x ∈ r → static x = true := by
  intro r hr
  obtain ⟨p, _, hp⟩ := List.mem_flatMap.1 hr
  exact flPl_row p r hp
theorem flPls_len : ∀ l : List Pl, (l.flatMap flPl).length ≤ l.length
  | [] => by simp
  | p :: l => by
    have := flPl_len p
    have := flPls_len l
    rw [List.flatMap_cons, List.length_append, List.length_cons]; omega

def plsR (p : Pr') : List Pl := plL (putR p.vars) ofA p.body (levs p) 0 0
def lastR (p : Pr') : List Int := mvL (putR p.vars) ofA p.body (levs p) 0
theorem places_run (p : Pr') (k : Nat) (hk : smsK p.body + p.vars.length + 1310 ≤ k) (hN : smsN p.body ≤ 600) (hb : prB p) (hv1 : 1 ≤ p.vars.length) (hv2 : p.vars.length ≤ 18) (hvm : vmL p.vars.length p.body) (hB : lvsB (levs p)) (h : Heap) (lo : Nat) :
    call Try.prog cfg (k + 1) lo (.func 61) [.agg (prC p)] h = some (.tup [.vs 1 (intsC (lastR p)), accV 8 ((plsR p).map plC)], h) := by
  have hln := smsN_len p.body
  have hL := levelsR_run p (k - 1) (by omega) (by omega) h h.length
  have hI := items_run p.body 0 (k - 1) (by omega) (by omega) hb.2.2 h h.length
  rw [show k - 1 + 1 = k by omega] at hL hI
  rw [accV_ne (levs_ne hv1)] at hL
  have hR := (behind_run p.vars hv1 hv2 k).2 p.body (levs p) 0 0 (by omega) hN (by omega) hb.2.2 hvm (levs_len p) hB lvB0 h h.length
  show _ = some (AV.tup [.vs 1 (intsC (mvL (putR p.vars) ofA p.body (levs p) 0)), accV 8 ((plL (putR p.vars) ofA p.body (levs p) 0 0).map plC)], h)
  generalize plL (putR p.vars) ofA p.body (levs p) 0 0 = R at hR ⊢
  generalize mvL (putR p.vars) ofA p.body (levs p) 0 = M at hR ⊢
  generalize levs p = lv at hL hR
  obtain ⟨w, vs, body⟩ := p
  dsimp only at hI hR
  cases R with
  | nil =>
    apply W_call Try.func61 rfl (Nat.le_of_ble_eq_true rfl) rfl rfl
    (repeat' (first | apply W_seq | refine W_true rfl rfl ?_ | refine W_false rfl rfl ?_ | refine W_region (id := 0) rfl rfl ?_ | (refine W_dops (id := 1) (bs := [0, 1, 0, 4, 0, 16, 60, 127, 255, 255, 1023, 2047]) rfl (by decide +kernel) ?_ <;> (refine U_go rfl ?_; refine H_free (by decide +kernel) rfl rfl rfl rfl rfl ?_) <;> (refine U_go rfl ?_; refine H_free (by decide +kernel) rfl rfl rfl rfl rfl ?_) <;> (refine U_go rfl ?_; refine H_free (by decide +kernel) rfl rfl rfl rfl rfl ?_) <;> (refine U_go rfl ?_; refine H_free (by decide +kernel) rfl (O_call rfl rfl rfl rfl (by assumption)) rfl rfl rfl ?_) <;> (refine U_go rfl ?_; refine H_free (by decide +kernel) rfl rfl rfl rfl rfl ?_) <;> (refine U_go rfl ?_; refine H_free (by decide +kernel) rfl rfl rfl rfl rfl ?_) <;> (refine U_go rfl ?_; refine H_free (by decide +kernel) rfl (O_call rfl rfl rfl rfl (by assumption)) rfl rfl rfl ?_) <;> (refine U_go rfl ?_; refine H_op (by decide +kernel) (O_call rfl rfl rfl rfl (by assumption)) ?_) <;> (refine U_go rfl ?_; refine H_free (by decide +kernel) rfl rfl rfl rfl rfl ?_) <;> (refine U_go rfl ?_; refine H_free (by decide +kernel) rfl rfl rfl rfl rfl ?_) <;> (refine U_go rfl ?_; refine H_op (by decide +kernel) rfl ?_) <;> (refine U_go rfl ?_; refine H_op (by decide +kernel) rfl ?_) <;> apply U_nil) | apply W_skip | apply W_block | apply W_ret | apply W_exit | refine W_true rfl (by assumption) ?_ | refine W_false rfl (by assumption) ?_ | refine W_cond rfl (fun _ => ?_) (fun _ => ?_)))
    exact ⟨.inl rfl, rfl⟩
  | cons r R =>
    apply W_call Try.func61 rfl (Nat.le_of_ble_eq_true rfl) rfl rfl
    (repeat' (first | apply W_seq | refine W_true rfl rfl ?_ | refine W_false rfl rfl ?_ | refine W_region (id := 0) rfl rfl ?_ | (refine W_dops (id := 1) (bs := [0, 1, 0, 4, 0, 16, 60, 127, 255, 255, 1023, 2047]) rfl (by decide +kernel) ?_ <;> (refine U_go rfl ?_; refine H_free (by decide +kernel) rfl rfl rfl rfl rfl ?_) <;> (refine U_go rfl ?_; refine H_free (by decide +kernel) rfl rfl rfl rfl rfl ?_) <;> (refine U_go rfl ?_; refine H_free (by decide +kernel) rfl rfl rfl rfl rfl ?_) <;> (refine U_go rfl ?_; refine H_free (by decide +kernel) rfl (O_call rfl rfl rfl rfl (by assumption)) rfl rfl rfl ?_) <;> (refine U_go rfl ?_; refine H_free (by decide +kernel) rfl rfl rfl rfl rfl ?_) <;> (refine U_go rfl ?_; refine H_free (by decide +kernel) rfl rfl rfl rfl rfl ?_) <;> (refine U_go rfl ?_; refine H_free (by decide +kernel) rfl (O_call rfl rfl rfl rfl (by assumption)) rfl rfl rfl ?_) <;> (refine U_go rfl ?_; refine H_op (by decide +kernel) (O_call rfl rfl rfl rfl (by assumption)) ?_) <;> (refine U_go rfl ?_; refine H_free (by decide +kernel) rfl rfl rfl rfl rfl ?_) <;> (refine U_go rfl ?_; refine H_free (by decide +kernel) rfl rfl rfl rfl rfl ?_) <;> (refine U_go rfl ?_; refine H_op (by decide +kernel) rfl ?_) <;> (refine U_go rfl ?_; refine H_op (by decide +kernel) rfl ?_) <;> apply U_nil) | apply W_skip | apply W_block | apply W_ret | apply W_exit | refine W_true rfl (by assumption) ?_ | refine W_false rfl (by assumption) ?_ | refine W_cond rfl (fun _ => ?_) (fun _ => ?_)))
    exact ⟨.inl rfl, rfl⟩
def mrS (h : Heap) (lv v : AV) (i : Int) (rows : List (List AV)) : St :=
  { env := [(4, .v lv), (5, .v v), (6, .v (accA h 3 rows)), (7, .v (.int .i64 i))], loc := [], heap := accH h 89 rows, inRound := false, lo := h.length }
set_option maxHeartbeats 1000000 in
theorem movedR_run (p : Pr') (k : Nat) (hk : smsK p.body + p.vars.length + 1320 ≤ k) (hN : smsN p.body ≤ 600) (hb : prB p) (hv1 : 1 ≤ p.vars.length) (hv2 : p.vars.length ≤ 18) (hvm : vmL p.vars.length p.body) (hB : lvsB (levs p)) (h : Heap) (lo : Nat) :
    call Try.prog cfg (k + 1) lo (.func 24) [.agg (prC p)] h = some (.tup [.vs 1 (intsC (lastR p)), accV 3 ((plsR p).flatMap flPl)], h) := by
  have hP := places_run p (k - 1) (by omega) hN hb hv1 hv2 hvm hB h h.length
  rw [show k - 1 + 1 = k by omega] at hP
  have hok := plL_ok (K := smsK p.body) (mvR_ok p.vars p.vars.length) p.body (levs p) 0 0 (Nat.le_refl _) hb.2.2 hvm (levs_len p) hB lvB0
  have hlen := plL_len (putR p.vars) ofA p.body (levs p) 0 0
  have e1 : plsR p = plL (putR p.vars) ofA p.body (levs p) 0 0 := rfl
  rw [← e1] at hok hlen
  generalize lastR p = M at hP ⊢
  generalize plsR p = pls at hP hok hlen ⊢
  have hz := acc_frzA (h := h) (e := 89) _ (flPls_row pls)
  have hfl := flPls_len pls
  have hrw := flPls_row pls
  have hfin := hand_two (h := h) (H := accH h 89 (pls.flatMap flPl)) (a := .vs 1 (intsC M)) (b := accA h 3 (pls.flatMap flPl)) rfl hz (fun _ => by simp) (fun _ => by cases pls.flatMap flPl <;> simp [accA])
  generalize hm : p.vars.length = m at hok
  obtain ⟨w, vs, body⟩ := p
  dsimp only at hlen hk hN hm hok
  cases hpl : pls with
  | nil =>
    rw [hpl] at hP
    apply W_call Try.func24 rfl (Nat.le_of_ble_eq_true rfl) rfl rfl
    (repeat' (first | apply W_seq | refine W_true rfl rfl ?_ | refine W_false rfl rfl ?_ | refine W_region (id := 0) rfl rfl ?_ | (refine W_ops (id := 1) rfl ?_ <;> refine T_ch 1 rfl ?_ <;> (refine T_go rfl ?_; refine G_op (O_call rfl rfl rfl rfl (by assumption)) ?_) <;> refine T_ch 5 rfl ?_ <;> apply T_nil) | refine W_region (id := 2) rfl rfl ?_ | refine W_region (id := 3) rfl rfl ?_ | apply W_skip | apply W_block | apply W_ret | apply W_exit | refine W_true rfl (by assumption) ?_ | refine W_false rfl (by assumption) ?_ | refine W_cond rfl (fun _ => ?_) (fun _ => ?_)))
    apply W_iter (S := mrS h (.vs 1 (intsC M)) .nils) (l := ([] : List Nat)) (a0 := []) (fun _ a => a = []) (by simp) (by simp; omega) rfl rfl
    · intro i st rest a hi; simp at hi
    · intro a hJ
      subst hJ
      (repeat' (first | apply W_seq | refine W_true rfl rfl ?_ | refine W_false rfl rfl ?_ | (refine W_ops (id := 4) rfl ?_ <;> refine T_ch 3 rfl ?_ <;> (refine T_go rfl ?_; refine G_false rfl rfl ?_) <;> apply T_nil) | refine W_region (id := 9) rfl rfl ?_ | apply W_skip | apply W_block | apply W_ret | apply W_exit | refine W_true rfl (by assumption) ?_ | refine W_false rfl (by assumption) ?_ | refine W_cond rfl (fun _ => ?_) (fun _ => ?_)))
      exact ⟨.inl rfl, rfl⟩
  | cons p0 pls0 =>
    rw [← hpl]
    have hacc : accV 8 (pls.map plC) = .vs 8 (pls.map plC) := by subst hpl; rfl
    rw [hacc] at hP
    have hll : ((pls.map plC).length : Int) = pls.length := by simp
    generalize hR : pls.flatMap flPl = R at hz hfl hrw hfin ⊢
    apply W_call Try.func24 rfl (Nat.le_of_ble_eq_true rfl) rfl rfl
    (repeat' (first | apply W_seq | refine W_true rfl rfl ?_ | refine W_false rfl rfl ?_ | refine W_region (id := 0) rfl rfl ?_ | (refine W_ops (id := 1) rfl ?_ <;> refine T_ch 1 rfl ?_ <;> (refine T_go rfl ?_; refine G_op (O_call rfl rfl rfl rfl (by assumption)) ?_) <;> refine T_ch 5 rfl ?_ <;> apply T_nil) | refine W_region (id := 2) rfl rfl ?_ | refine W_region (id := 3) rfl rfl ?_ | apply W_skip | apply W_block | apply W_ret | apply W_exit | refine W_true rfl (by assumption) ?_ | refine W_false rfl (by assumption) ?_ | refine W_cond rfl (fun _ => ?_) (fun _ => ?_)))
    apply W_iterI (S := mrS h (.vs 1 (intsC M)) (.vs 8 (pls.map plC))) (l := pls) (a0 := []) (fun i rest a => a ++ rest.flatMap flPl = R) (by omega) (by omega) rfl (by simpa using hR)
    · intro i x rest a hi hd hil hJ
      have hlt : decide ((i : Int) < ((pls.map plC).length : Int)) = true := decide_eq_true (by rw [hll]; omega)
      have hrow : (pls.map plC)[i]? = some (plC x) := by rw [List.getElem?_map, hi]; rfl
      have hxo := hok x (List.mem_of_getElem? hi)
      rw [List.flatMap_cons, ← List.append_assoc] at hJ
      have q1 : ∀ r, r ∈ a → r.length = 3 := fun r hr => (hrw r (by rw [← hJ]; simp [hr])).1
      have q2 := congrArg List.length hJ
      rw [List.length_append, List.length_append] at q2
      have hap := fl_append h a (flPl x) q1 (by omega)
      obtain ⟨n, ⟨op, nn, ar, t, e⟩, lv, rd⟩ := x
      obtain ⟨o1, o2, o3, o4, o5⟩ := hxo
      have hla := exsK_len ar
      by_cases h3 : op = 3
      · have c3 : (op == 3) = true := by simp [h3]
        have hA := argsR_run op nn ar t e lv (k - 1) (by omega) o2 o3 (by rw [o5]; exact o4) (accH h 89 a) (accH h 89 a).length
        have hO := or_run (k - 1) (accH h 89 a).length rd (ofEs lv 0 ar) (accH h 89 a)
        have hF := flow_run n (orI rd (ofEs lv 0 ar)) nn (k - 2) (accH h 89 a).length (accH h 89 a)
        rw [show k - 1 + 1 = k by omega] at hA hO
        rw [show k - 2 + 2 = k by omega] at hF
        have hfp : flPl (n, .mk op nn ar t e, lv, rd) = flowL n (orI rd (ofEs lv 0 ar)) nn := by unfold flPl; dsimp only; rw [if_pos h3]
        rw [hfp] at hJ hap
        (repeat' (first | apply W_seq | refine W_true rfl rfl ?_ | refine W_false rfl rfl ?_ | (refine W_ops (id := 4) rfl ?_ <;> refine T_ch 3 rfl ?_ <;> (refine T_go rfl ?_; refine G_true rfl (by with_reducible assumption) ?_) <;> apply T_nil) | refine W_region (id := 5) rfl rfl ?_ | (refine W_ops (id := 6) rfl ?_ <;> refine T_ch 2 rfl ?_ <;> (refine T_go rfl ?_; refine G_op (O_index rfl rfl rfl rfl rfl (by assumption)) ?_) <;> refine T_ch 2 rfl ?_ <;> (refine T_go rfl ?_; refine G_op rfl ?_) <;> refine T_ch 2 rfl ?_ <;> apply T_nil) | (refine W_ops (id := 7) rfl ?_ <;> refine T_ch 2 rfl ?_ <;> (refine T_go rfl ?_; refine G_true rfl (by with_reducible assumption) ?_) <;> apply T_nil) | (refine W_dops (id := 8) (bs := [0, 0, 0, 6, 14, 30, 62, 0, 0, 384, 896, 1920, 0, 0, 12288, 28672, 61440, 0, 258048, 524160, 0, 1048576, 4194302, 8388607, 16777215]) rfl (by decide +kernel) ?_ <;> (refine U_go rfl ?_; refine H_free (by decide +kernel) rfl rfl rfl rfl rfl ?_) <;> (refine U_go rfl ?_; refine H_free (by decide +kernel) rfl rfl rfl rfl rfl ?_) <;> (refine U_go rfl ?_; refine H_free (by decide +kernel) rfl rfl rfl rfl rfl ?_) <;> (refine U_go rfl ?_; refine H_free (by decide +kernel) rfl (O_index rfl rfl rfl rfl rfl (by assumption)) rfl rfl rfl ?_) <;> (refine U_go rfl ?_; refine H_free (by decide +kernel) rfl rfl rfl rfl rfl ?_) <;> (refine U_go rfl ?_; refine H_free (by decide +kernel) rfl rfl rfl rfl rfl ?_) <;> (refine U_go rfl ?_; refine H_free (by decide +kernel) rfl rfl rfl rfl rfl ?_) <;> (refine U_go rfl ?_; refine H_free (by decide +kernel) rfl rfl rfl rfl rfl ?_) <;> (refine U_go rfl ?_; refine H_free (by decide +kernel) rfl rfl rfl rfl rfl ?_) <;> (refine U_go rfl ?_; refine H_free (by decide +kernel) rfl (O_index rfl rfl rfl rfl rfl (by assumption)) rfl rfl rfl ?_) <;> (refine U_go rfl ?_; refine H_free (by decide +kernel) rfl rfl rfl rfl rfl ?_) <;> (refine U_go rfl ?_; refine H_free (by decide +kernel) rfl rfl rfl rfl rfl ?_) <;> (refine U_go rfl ?_; refine H_free (by decide +kernel) rfl rfl rfl rfl rfl ?_) <;> (refine U_go rfl ?_; refine H_free (by decide +kernel) rfl rfl rfl rfl rfl ?_) <;> (refine U_go rfl ?_; refine H_free (by decide +kernel) rfl (O_index rfl rfl rfl rfl rfl (by assumption)) rfl rfl rfl ?_) <;> (refine U_go rfl ?_; refine H_free (by decide +kernel) rfl rfl rfl rfl rfl ?_) <;> (refine U_go rfl ?_; refine H_free (by decide +kernel) rfl rfl rfl rfl rfl ?_) <;> (refine U_go rfl ?_; refine H_free (by decide +kernel) rfl rfl rfl rfl rfl ?_) <;> (refine U_go rfl ?_; refine H_free (by decide +kernel) rfl (O_call rfl rfl rfl rfl (by assumption)) rfl rfl rfl ?_) <;> (refine U_go rfl ?_; refine H_free (by decide +kernel) rfl (O_call rfl rfl rfl rfl (by assumption)) rfl rfl rfl ?_) <;> (refine U_go rfl ?_; refine H_free (by decide +kernel) rfl rfl rfl rfl rfl ?_) <;> (refine U_go rfl ?_; refine H_free (by decide +kernel) rfl rfl rfl rfl rfl ?_) <;> (refine U_go rfl ?_; refine H_free (by decide +kernel) rfl (O_call rfl rfl rfl rfl (by assumption)) rfl rfl rfl ?_) <;> (refine U_go rfl ?_; refine H_op (by decide +kernel) (O_append rfl rfl rfl rfl rfl (by assumption)) ?_) <;> (refine U_go rfl ?_; refine H_op (by decide +kernel) rfl ?_) <;> apply U_nil) | apply W_skip | apply W_block | apply W_ret | apply W_exit | refine W_true rfl (by assumption) ?_ | refine W_false rfl (by assumption) ?_ | refine W_cond rfl (fun _ => ?_) (fun _ => ?_)))
        exact ⟨a ++ flowL n (orI rd (ofEs lv 0 ar)) nn, rfl, hJ⟩
      · have c3 : (op == 3) = false := by simp [h3]
        have hfp : flPl (n, .mk op nn ar t e, lv, rd) = [] := by unfold flPl; dsimp only; rw [if_neg h3]
        rw [hfp, List.append_nil] at hJ
        (repeat' (first | apply W_seq | refine W_true rfl rfl ?_ | refine W_false rfl rfl ?_ | (refine W_ops (id := 4) rfl ?_ <;> refine T_ch 3 rfl ?_ <;> (refine T_go rfl ?_; refine G_true rfl (by with_reducible assumption) ?_) <;> apply T_nil) | refine W_region (id := 5) rfl rfl ?_ | (refine W_ops (id := 6) rfl ?_ <;> refine T_ch 2 rfl ?_ <;> (refine T_go rfl ?_; refine G_op (O_index rfl rfl rfl rfl rfl (by assumption)) ?_) <;> refine T_ch 2 rfl ?_ <;> (refine T_go rfl ?_; refine G_op rfl ?_) <;> refine T_ch 2 rfl ?_ <;> apply T_nil) | (refine W_ops (id := 7) rfl ?_ <;> refine T_ch 2 rfl ?_ <;> (refine T_go rfl ?_; refine G_false rfl (by with_reducible assumption) ?_) <;> apply T_nil) | apply W_skip | apply W_block | apply W_ret | apply W_exit | refine W_true rfl (by assumption) ?_ | refine W_false rfl (by assumption) ?_ | refine W_cond rfl (fun _ => ?_) (fun _ => ?_)))
        exact ⟨a, rfl, hJ⟩
    · intro a hJ
      have hlt : decide ((pls.length : Int) < ((pls.map plC).length : Int)) = false := decide_eq_false (by rw [hll]; omega)
      have : a = R := by simpa using hJ
      subst this
      (repeat' (first | apply W_seq | refine W_true rfl rfl ?_ | refine W_false rfl rfl ?_ | (refine W_ops (id := 4) rfl ?_ <;> refine T_ch 3 rfl ?_ <;> (refine T_go rfl ?_; refine G_false rfl (by with_reducible assumption) ?_) <;> apply T_nil) | refine W_region (id := 9) rfl rfl ?_ | apply W_skip | apply W_block | apply W_ret | apply W_exit | refine W_true rfl (by assumption) ?_ | refine W_false rfl (by assumption) ?_ | refine W_cond rfl (fun _ => ?_) (fun _ => ?_)))
      exact ⟨.inl rfl, hfin⟩
end Go.Proofs.Ytelobnllkhnpaaa.L
/- Types that move, in the program: Clone, together, put, Equal; readers that are shown levels as they are. -/
open Go Go.Proofs Go.Ev Go.Proofs.Ytelobnllkhnpaaa.E
namespace Go.Proofs.Ytelobnllkhnpaaa.L
set_option linter.unusedVariables false
set_option linter.unusedSimpArgs false
set_option maxHeartbeats 2000000
set_option maxRecDepth 100000

/-- Levels, as they are handed on. -/
def LvArg (H : Heap) (v : AV) (l : List Int) : Prop := v = .vs 1 (intsC l) ∨ ∃ id, v = .sl id 1 0 l.length ∧ H[id]? = some (.cells 3 (ic l))
theorem LvArg.sl {H : Heap} {id : Nat} {l : List Int} (h : H[id]? = some (.cells 3 (ic l))) : LvArg H (.sl id 1 0 l.length) l := .inr ⟨id, rfl, h⟩
theorem clone_append {H : Heap} {lo : Nat} (hlo : lo ≤ H.length) {v : AV} {l : List Int} (hv : LvArg H v l) (hl : l.length < 100000) :
    append cfg.tab lo (H ++ [.cells 3 []]) 38 (.sl H.length 1 0 0) v = some (.sl H.length 1 0 l.length, H ++ [.cells 3 (ic l)]) := by
  have hg : (H ++ [HObj.cells 3 []])[H.length]? = some (.cells 3 []) := by simp
  have hrow : rowOf (H ++ [HObj.cells 3 []]) 1 v = some (ic l) ∧ lenOf v = some l.length := by
    rcases hv with rfl | ⟨id, rfl, hid⟩
    · simp [rowOf, lenOf, ic_flat, intsC_len]
    · refine ⟨?_, rfl⟩
      have : (H ++ [HObj.cells 3 []])[id]? = some (.cells 3 (ic l)) := by rw [List.getElem?_append_left (cells_lt hid)]; exact hid
      unfold rowOf
      dsimp only
      rw [this]
      dsimp only
      rw [if_pos ⟨rfl, by rw [ic_len]; omega⟩, List.drop_zero]
  unfold append
  rw [show Go.Ev.look cfg.tab 38 = some ⟨.slice 3, 1, 24, [.nils]⟩ from rfl]
  dsimp only
  rw [show Go.Ev.look cfg.tab 3 = some ⟨.int .i64, 1, 8, [.int .i64 0]⟩ from rfl]
  dsimp only
  rw [hrow.1, hrow.2]
  dsimp only
  rw [hg]
  dsimp only
  rw [if_pos ⟨hlo, by trivial, by trivial, by trivial, by trivial, by decide, by simp only [room]; omega, by simp only [room]; omega⟩]
  simp
theorem cloneI_run {H : Heap} {lo : Nat} (hlo : lo ≤ H.length) {v : AV} {l : List Int} (hv : LvArg H v l) (hne : l ≠ []) (hl : l.length < 100000) (k : Nat) :
    call Try.prog cfg (k + 1) lo (.func 118) [v] H = some (.sl H.length 1 0 l.length, H ++ [.cells 3 (ic l)]) := by
  have hap := clone_append hlo hv hl
  rcases hv with rfl | ⟨id, rfl, hid⟩
  · cases l with
    | nil => exact absurd rfl hne
    | cons x l =>
      apply W_call Try.func118 rfl (Nat.le_of_ble_eq_true rfl) rfl rfl
      (repeat' (first | apply W_seq | refine W_true rfl rfl ?_ | refine W_false rfl rfl ?_ | refine W_region (id := 0) rfl rfl ?_ | (refine W_ops (id := 1) rfl ?_ <;> refine T_ch 1 rfl ?_ <;> (refine T_go rfl ?_; refine G_false rfl rfl ?_) <;> apply T_nil) | (refine W_ops (id := 3) rfl ?_ <;> refine T_ch 2 rfl ?_ <;> (refine T_go rfl ?_; refine G_op (O_append rfl rfl rfl rfl rfl (by assumption)) ?_) <;> refine T_ch 1 rfl ?_ <;> apply T_nil) | apply W_skip | apply W_block | apply W_ret | apply W_exit | refine W_true rfl (by assumption) ?_ | refine W_false rfl (by assumption) ?_ | refine W_cond rfl (fun _ => ?_) (fun _ => ?_)))
      exact ⟨.inl rfl, rfl⟩
  · apply W_call Try.func118 rfl (Nat.le_of_ble_eq_true rfl) rfl rfl
    (repeat' (first | apply W_seq | refine W_true rfl rfl ?_ | refine W_false rfl rfl ?_ | refine W_region (id := 0) rfl rfl ?_ | (refine W_ops (id := 1) rfl ?_ <;> refine T_ch 1 rfl ?_ <;> (refine T_go rfl ?_; refine G_false rfl rfl ?_) <;> apply T_nil) | (refine W_ops (id := 3) rfl ?_ <;> refine T_ch 2 rfl ?_ <;> (refine T_go rfl ?_; refine G_op (O_append rfl rfl rfl rfl rfl (by assumption)) ?_) <;> refine T_ch 1 rfl ?_ <;> apply T_nil) | apply W_skip | apply W_block | apply W_ret | apply W_exit | refine W_true rfl (by assumption) ?_ | refine W_false rfl (by assumption) ?_ | refine W_cond rfl (fun _ => ?_) (fun _ => ?_)))
    exact ⟨.inl rfl, rfl⟩
def tgS (lo idb q m : Nat) (i : Int) (H : Heap) : St :=
  { env := [(1, .v (.sl idb 1 0 m)), (5, .v (.sl q 1 0 m)), (10, .v (.int .i64 m)), (11, .v (.int .i64 i))], loc := [], heap := H, inRound := false, lo := lo }
theorem tg_step {x y cur : List Int} {i : Nat} {v w : Int} (hv : x[i]? = some v) (hw : y[i]? = some w) (hc : cur = joinL (x.take i) (y.take i) ++ x.drop i) :
    cur[i]? = some v ∧ cur.set i (orI v w) = joinL (x.take (i + 1)) (y.take (i + 1)) ++ x.drop (i + 1) := by
  have hix : i < x.length := by
    rcases Nat.lt_or_ge i x.length with h | h
    · exact h
    · rw [List.getElem?_eq_none h] at hv; cases hv
  have hiy : i < y.length := by
    rcases Nat.lt_or_ge i y.length with h | h
    · exact h
    · rw [List.getElem?_eq_none h] at hw; cases hw
  have hl : (joinL (x.take i) (y.take i)).length = i := by simp [joinL]; omega
  have hd : x.drop i = v :: x.drop (i + 1) := by
    rw [List.drop_eq_getElem_cons hix]
    rw [List.getElem?_eq_getElem hix] at hv
    injection hv with hv; rw [hv]
  subst hc
  constructor
  · rw [List.getElem?_append_right (by omega), hl, Nat.sub_self, hd]; rfl
  · rw [List.set_append_right _ _ (by omega), hl, Nat.sub_self, hd, List.set_cons_zero, take_succ_of hv, take_succ_of hw]
    unfold joinL
    rw [List.zipWith_append (by simp; omega), List.append_assoc]
    rfl
theorem together_run {H : Heap} {lo : Nat} (hlo : lo ≤ H.length) {ida idb : Nat} {x y : List Int} (hx : H[ida]? = some (.cells 3 (ic x))) (hy : H[idb]? = some (.cells 3 (ic y))) {m : Nat} (hxm : x.length = m) (hym : y.length = m) (hm : 1 ≤ m) (hm2 : m < 1000) (k : Nat) (hk : m + 2 < k) :
    call Try.prog cfg (k + 1) lo (.func 119) [.sl ida 1 0 m, .sl idb 1 0 m] H = some (.sl H.length 1 0 m, H ++ [.cells 3 (ic (joinL x y))]) := by
  have hne : x ≠ [] := fun e => by subst e; simp at hxm; omega
  have hC := cloneI_run hlo (LvArg.sl hx) hne (by omega) (k - 1)
  rw [show k - 1 + 1 = k by omega, hxm] at hC
  apply W_call Try.func119 rfl (Nat.le_of_ble_eq_true rfl) rfl rfl
  (repeat' (first | apply W_seq | refine W_true rfl rfl ?_ | refine W_false rfl rfl ?_ | refine W_region (id := 0) rfl rfl ?_ | (refine W_ops (id := 1) rfl ?_ <;> refine T_ch 1 rfl ?_ <;> (refine T_go rfl ?_; refine G_op (O_call rfl rfl rfl rfl (by assumption)) ?_) <;> refine T_ch 1 rfl ?_ <;> apply T_nil) | refine W_region (id := 2) rfl rfl ?_ | apply W_skip | apply W_block | apply W_ret | apply W_exit | refine W_true rfl (by assumption) ?_ | refine W_false rfl (by assumption) ?_ | refine W_cond rfl (fun _ => ?_) (fun _ => ?_)))
  apply W_iterI (S := tgS lo idb H.length m) (l := x) (a0 := H ++ [.cells 3 (ic x)]) (fun i rest H' => ∃ cur, cur = joinL (x.take i) (y.take i) ++ x.drop i ∧ H' = H ++ [.cells 3 (ic cur)]) (by omega) (by omega) rfl ⟨x, by simp [joinL], rfl⟩
  · intro i v rest H' hi hd hil hJ
    obtain ⟨cur, hcur, rfl⟩ := hJ
    have hiy : i < y.length := by omega
    have hw : y[i]? = some y[i] := List.getElem?_eq_getElem hiy
    obtain ⟨c1, c2⟩ := tg_step hi hw hcur
    have hcl : cur.length = m := by rw [hcur]; simp [joinL]; omega
    generalize y[i] = w at hw c2
    have g1 : (H ++ [HObj.cells 3 (ic cur)])[H.length]? = some (.cells 3 (ic cur)) := by simp
    have g2 : (H ++ [HObj.cells 3 (ic cur)])[idb]? = some (.cells 3 (ic y)) := by rw [List.getElem?_append_left (cells_lt hy)]; exact hy
    have hlt : decide ((i : Int) < (m : Int)) = true := decide_eq_true (by omega)
    have him : i < m := by omega
    have l1 : 0 + m * 1 = (ic cur).length := by rw [ic_len]; omega
    have l2 : 0 + m * 1 = (ic y).length := by rw [ic_len]; omega
    have p1 : (ic cur)[0 + i * 1]? = some (.int .i64 v) := by rw [show 0 + i * 1 = i by omega]; exact ic_get c1
    have p2 : (ic y)[0 + i * 1]? = some (.int .i64 w) := by rw [show 0 + i * 1 = i by omega]; exact ic_get hw
    have hs : lo ≤ H.length ∧ (ic cur).length = (ic cur).length ∧ 1 = 1 ∧ (0 + i * 1) + 1 ≤ (ic cur).length := ⟨hlo, rfl, rfl, by rw [ic_len]; omega⟩
    (repeat' (first | apply W_seq | refine W_true rfl rfl ?_ | refine W_false rfl rfl ?_ | (refine W_ops (id := 3) rfl ?_ <;> (refine T_go rfl ?_; refine G_true rfl (by with_reducible assumption) ?_) <;> apply T_nil) | refine W_region (id := 4) rfl rfl ?_ | (refine W_dops (id := 5) (bs := [0, 0, 3, 7, 0, 0, 48, 112, 255, 511, 1023]) rfl (by decide +kernel) ?_ <;> (refine U_go rfl ?_; refine H_free (by decide +kernel) rfl rfl rfl rfl rfl ?_) <;> (refine U_go rfl ?_; refine H_free (by decide +kernel) rfl rfl rfl rfl rfl ?_) <;> (refine U_go rfl ?_; refine H_free (by decide +kernel) rfl (O_indexH rfl rfl rfl rfl rfl (by assumption) (by assumption) (by assumption)) rfl rfl rfl ?_) <;> (refine U_go rfl ?_; refine H_free (by decide +kernel) rfl (O_loadH rfl rfl rfl (by assumption) rfl (by assumption)) rfl rfl rfl ?_) <;> (refine U_go rfl ?_; refine H_free (by decide +kernel) rfl rfl rfl rfl rfl ?_) <;> (refine U_go rfl ?_; refine H_free (by decide +kernel) rfl rfl rfl rfl rfl ?_) <;> (refine U_go rfl ?_; refine H_free (by decide +kernel) rfl (O_indexH rfl rfl rfl rfl rfl (by assumption) (by assumption) (by assumption)) rfl rfl rfl ?_) <;> (refine U_go rfl ?_; refine H_free (by decide +kernel) rfl (O_loadH rfl rfl rfl (by assumption) rfl (by assumption)) rfl rfl rfl ?_) <;> (refine U_go rfl ?_; refine H_op (by decide +kernel) rfl ?_) <;> (refine U_go rfl ?_; refine H_op (by decide +kernel) (O_indexH rfl rfl rfl rfl rfl (by assumption) (by assumption) (by assumption)) ?_) <;> (refine U_go rfl ?_; refine H_op (by decide +kernel) (O_storeH rfl rfl rfl rfl (by assumption) (by assumption)) ?_) <;> apply U_nil) | refine W_region (id := 6) rfl rfl ?_ | apply W_skip | apply W_block | apply W_ret | apply W_exit | refine W_true rfl (by assumption) ?_ | refine W_false rfl (by assumption) ?_ | refine W_cond rfl (fun _ => ?_) (fun _ => ?_)))
    refine ⟨_, rfl, cur.set i (orI v w), c2, ?_⟩
    have : setCells (ic cur) (0 + i * 1) [.int .i64 (orI v w)] = ic (cur.set i (orI v w)) := by rw [show 0 + i * 1 = i by omega]; exact ic_set _ (by omega)
    show (H ++ [HObj.cells 3 (ic cur)]).set H.length (.cells 3 (setCells (ic cur) (0 + i * 1) [.int .i64 (orI v w)])) = _
    rw [this]
    simp
  · intro H' hJ
    obtain ⟨cur, hcur, rfl⟩ := hJ
    have hlt : decide ((x.length : Int) < (m : Int)) = false := decide_eq_false (by omega)
    have : cur = joinL x y := by rw [hcur, List.take_of_length_le (Nat.le_refl _), List.take_of_length_le (by omega), List.drop_eq_nil_of_le (Nat.le_refl _), List.append_nil]
    subst this
    (repeat' (first | apply W_seq | refine W_true rfl rfl ?_ | refine W_false rfl rfl ?_ | (refine W_ops (id := 3) rfl ?_ <;> (refine T_go rfl ?_; refine G_false rfl (by with_reducible assumption) ?_) <;> apply T_nil) | refine W_region (id := 7) rfl rfl ?_ | apply W_skip | apply W_block | apply W_ret | apply W_exit | refine W_true rfl (by assumption) ?_ | refine W_false rfl (by assumption) ?_ | refine W_cond rfl (fun _ => ?_) (fun _ => ?_)))
    exact ⟨.inl rfl, rfl⟩

/-! ### Shown as they are -/
theorem frzM_one {H : Heap} {id : Nat} {l : List Int} (hg : H[id]? = some (.cells 3 (ic l))) {b : AV} (hb : frz2 H 0 b = some b) : frzM H 0 [.sl id 1 0 l.length, b] = some [.vs 1 (intsC l), b] := by
  have h1 : frz2 H 0 (.sl id 1 0 l.length) = some (.vs 1 (intsC l)) := frz_ic hg (Nat.zero_le _)
  simp only [frzM, h1, hb]
theorem ofAllV_run {H : Heap} {id : Nat} {l : List Int} (hg : H[id]? = some (.cells 3 (ic l))) (es : List Ex') (k : Nat) (hk : exsK es ≤ k) (hl : es.length < 9223372036854775808) (hb : exsB es) (hr : rdEs l.length es) (lo : Nat) :
    call Try.prog cfg (k + 2) lo (.func 59) [.sl id 1 0 l.length, .vs 4 (exsC es)] H = some (.int .i64 (ofEs l 0 es), H) :=
  view_call rfl rfl rfl (frzM_one hg rfl) rfl (ofAll_run es l k hk hl hb hr [] 0)
theorem exC_frz2 (H : Heap) (e : Ex') : frz2 H 0 (.agg (exC e)) = some (.agg (exC e)) := by
  obtain ⟨op, n, c, l⟩ := e
  rfl
theorem ofV_run {H : Heap} {id : Nat} {l : List Int} (hg : H[id]? = some (.cells 3 (ic l))) (e : Ex') (k : Nat) (hk : exK e ≤ k) (hb : exB e) (hr : rdE l.length e) (lo : Nat) :
    call Try.prog cfg (k + 1) lo (.func 47) [.sl id 1 0 l.length, .agg (exC e)] H = some (.int .i64 (ofE l e), H) :=
  view_call rfl rfl rfl (frzM_one hg (exC_frz2 H e)) rfl (of_run k e l hk hb hr 0 [])
def eqlS (h : Heap) (x y : AV) (n : Nat) (i : Int) (_ : Unit) : St :=
  { env := [(0, .v x), (1, .v y), (12, .v (.int .i64 n)), (13, .v (.int .i64 i))], loc := [], heap := h, inRound := false, lo := h.length }
theorem equal_run (x y : List Int) (hl : x.length < 100000) (k : Nat) (hk : x.length + 2 < k) (h : Heap) (lo : Nat) :
    call Try.prog cfg (k + 1) lo (.func 121) [.vs 1 (intsC x), .vs 1 (intsC y)] h = some (.bool (decide (x = y)), h) := by
  cases hc : (((intsC x).length : Int) != ((intsC y).length : Int)) with
  | true =>
    have : x ≠ y := fun e => by subst e; simp at hc
    rw [decide_eq_false this]
    apply W_call Try.func121 rfl (Nat.le_of_ble_eq_true rfl) rfl rfl
    (repeat' (first | apply W_seq | refine W_true rfl rfl ?_ | refine W_false rfl rfl ?_ | refine W_region (id := 0) rfl rfl ?_ | (refine W_ops (id := 1) rfl ?_ <;> refine T_ch 4 rfl ?_ <;> (refine T_go rfl ?_; refine G_true rfl (by with_reducible assumption) ?_) <;> apply T_nil) | refine W_region (id := 2) rfl rfl ?_ | apply W_skip | apply W_block | apply W_ret | apply W_exit | refine W_true rfl (by assumption) ?_ | refine W_false rfl (by assumption) ?_ | refine W_cond rfl (fun _ => ?_) (fun _ => ?_)))
    exact ⟨.inl rfl, rfl⟩
  | false =>
    have hxy : x.length = y.length := by
      simp only [intsC_len, bne_eq_false_iff_eq] at hc
      omega
    apply W_call Try.func121 rfl (Nat.le_of_ble_eq_true rfl) rfl rfl
    (repeat' (first | apply W_seq | refine W_true rfl rfl ?_ | refine W_false rfl rfl ?_ | refine W_region (id := 0) rfl rfl ?_ | (refine W_ops (id := 1) rfl ?_ <;> refine T_ch 4 rfl ?_ <;> (refine T_go rfl ?_; refine G_false rfl (by with_reducible assumption) ?_) <;> apply T_nil) | refine W_region (id := 3) rfl rfl ?_ | apply W_skip | apply W_block | apply W_ret | apply W_exit | refine W_true rfl (by assumption) ?_ | refine W_false rfl (by assumption) ?_ | refine W_cond rfl (fun _ => ?_) (fun _ => ?_)))
    apply W_iterI (S := eqlS h (.vs 1 (intsC x)) (.vs 1 (intsC y)) (intsC x).length) (l := x) (a0 := ()) (fun i rest _ => (rest = y.drop i) = (x = y)) (by omega) (by omega) rfl (by simp)
    · intro i v rest a hi hd hil hJ
      have hrow := intsC_get' hi
      have hiy : i < y.length := by omega
      have hy : y[i]? = some y[i] := List.getElem?_eq_getElem hiy
      have hrow2 := intsC_get' hy
      have hlt := lt_intsL hil
      rw [List.drop_eq_getElem_cons hiy, List.cons.injEq] at hJ
      (repeat' (first | apply W_seq | refine W_true rfl rfl ?_ | refine W_false rfl rfl ?_ | (refine W_ops (id := 4) rfl ?_ <;> (refine T_go rfl ?_; refine G_true rfl (by with_reducible assumption) ?_) <;> apply T_nil) | refine W_region (id := 5) rfl rfl ?_ | (refine W_dops (id := 6) (bs := [0, 0, 3, 7, 0, 0, 48, 112, 255]) rfl (by decide +kernel) ?_ <;> (refine U_go rfl ?_; refine H_free (by decide +kernel) rfl rfl rfl rfl rfl ?_) <;> (refine U_go rfl ?_; refine H_free (by decide +kernel) rfl rfl rfl rfl rfl ?_) <;> (refine U_go rfl ?_; refine H_free (by decide +kernel) rfl (O_index rfl rfl rfl rfl rfl (by assumption)) rfl rfl rfl ?_) <;> (refine U_go rfl ?_; refine H_free (by decide +kernel) rfl rfl rfl rfl rfl ?_) <;> (refine U_go rfl ?_; refine H_free (by decide +kernel) rfl rfl rfl rfl rfl ?_) <;> (refine U_go rfl ?_; refine H_free (by decide +kernel) rfl rfl rfl rfl rfl ?_) <;> (refine U_go rfl ?_; refine H_free (by decide +kernel) rfl (O_index rfl rfl rfl rfl rfl (by assumption)) rfl rfl rfl ?_) <;> (refine U_go rfl ?_; refine H_free (by decide +kernel) rfl rfl rfl rfl rfl ?_) <;> (refine U_go rfl ?_; refine H_split (by decide +kernel) rfl (fun _ => ?_) (fun _ => ?_)) <;> apply U_nil) | refine W_region (id := 7) rfl rfl ?_ | refine W_region (id := 8) rfl rfl ?_ | apply W_skip | apply W_block | apply W_ret | apply W_exit | refine W_true rfl (by assumption) ?_ | refine W_false rfl (by assumption) ?_ | refine W_cond rfl (fun _ => ?_) (fun _ => ?_)))
      · rename_i hne
        simp only [bne_iff_ne, ne_eq] at hne
        refine ⟨.inl rfl, Eq.trans (b := some (AV.bool false, _)) rfl ?_⟩
        rw [decide_eq_false (by rw [← hJ]; exact fun e => hne e.1)]
      · rename_i hne
        simp only [bne_eq_false_iff_eq] at hne
        exact ⟨(), rfl, by rw [← hJ]; simp [hne]⟩
    · intro a hJ
      have hlt := ge_intsL (l := x)
      (repeat' (first | apply W_seq | refine W_true rfl rfl ?_ | refine W_false rfl rfl ?_ | (refine W_ops (id := 4) rfl ?_ <;> (refine T_go rfl ?_; refine G_false rfl (by with_reducible assumption) ?_) <;> apply T_nil) | refine W_region (id := 9) rfl rfl ?_ | apply W_skip | apply W_block | apply W_ret | apply W_exit | refine W_true rfl (by assumption) ?_ | refine W_false rfl (by assumption) ?_ | refine W_cond rfl (fun _ => ?_) (fun _ => ?_)))
      refine ⟨.inl rfl, Eq.trans (b := some (AV.bool true, _)) rfl ?_⟩
      rw [decide_eq_true (by rw [← hJ, hxy]; simp)]
theorem equalV_run {H : Heap} {ida idb : Nat} {x y : List Int} (hx : H[ida]? = some (.cells 3 (ic x))) (hy : H[idb]? = some (.cells 3 (ic y))) (hl : x.length < 100000) (k : Nat) (hk : x.length + 2 < k) (lo : Nat) :
    call Try.prog cfg (k + 2) lo (.func 121) [.sl ida 1 0 x.length, .sl idb 1 0 y.length] H = some (.bool (decide (x = y)), H) := by
  refine view_call (xs := [.vs 1 (intsC x), .vs 1 (intsC y)]) rfl rfl rfl ?_ rfl (equal_run x y hl k hk [] 0)
  have h1 : frz2 H 0 (.sl ida 1 0 x.length) = some (.vs 1 (intsC x)) := frz_ic hx (Nat.zero_le _)
  have h2 : frz2 H 0 (.sl idb 1 0 y.length) = some (.vs 1 (intsC y)) := frz_ic hy (Nat.zero_le _)
  simp only [frzM, h1, h2]
theorem see0_run (k lo : Nat) (a b c d : AV) (h : Heap) (op nn : Int) (ar : List Ex') (t e : List Sm') : call Try.prog cfg (k + 1) lo (.func 120) [a, .agg (smC (.mk op nn ar t e)), c, d] h = some (.tup [], h) := by
  apply W_call Try.func120 rfl (Nat.le_of_ble_eq_true rfl) rfl rfl
  (repeat' (first | apply W_seq | refine W_true rfl rfl ?_ | refine W_false rfl rfl ?_ | refine W_region (id := 0) rfl rfl ?_ | apply W_skip | apply W_block | apply W_ret | apply W_exit | refine W_true rfl (by assumption) ?_ | refine W_false rfl (by assumption) ?_ | refine W_cond rfl (fun _ => ?_) (fun _ => ?_)))
  exact ⟨.inr rfl, rfl⟩

set_option maxHeartbeats 1000000 in
theorem put_run {H : Heap} {id lo : Nat} {lv : List Int} (hg : H[id]? = some (.cells 3 (ic lv))) (hlo : lo ≤ id) {m : Nat} (hm : lv.length = m) (s : Sm') (hv : vm1 m s) (ar : Int) (k : Nat) (hk : smK s + 2 ≤ k) (hb : smB s) :
    call Try.prog cfg (k + 1) lo (.func 122) [.agg (smC s), .sl id 1 0 m, .int .i64 ar] H = some (.tup [], H.set id (.cells 3 (ic (putP lv ar s)))) := by
  obtain ⟨op, nn, a, t, e⟩ := s
  rw [smK] at hk
  rw [smB] at hb
  rw [vm1] at hv
  obtain ⟨⟨ha1, ha2⟩, _⟩ := hb
  have hA := ofAllV_run hg a (k - 2) (by omega) ha1 ha2 (by rw [hm]; exact hv.1) lo
  rw [show k - 2 + 2 = k by omega, hm] at hA
  have hself : H.set id (.cells 3 (ic lv)) = H := by
    have := cells_lt hg
    rw [List.getElem?_eq_getElem this] at hg
    injection hg with hg
    rw [← hg, List.set_getElem_self]
  have hal := exsC_len a
  have hl : 0 + m * 1 = (ic lv).length := by rw [ic_len]; omega
  have hidx : (op = 0 ∨ op = 4) → (0 ≤ nn ∧ nn.toNat < m) := fun ho => by have := hv.2.1 ho; omega
  have hset : ∀ z : Int, nn.toNat < m → H.set id (.cells 3 (setCells (ic lv) (0 + nn.toNat * 1) [.int .i64 z])) = H.set id (.cells 3 (ic (lv.set nn.toNat z))) := fun z hz => by
    rw [show 0 + nn.toNat * 1 = nn.toNat by omega, ic_set _ (by omega)]
  have hpv : nn.toNat < m → (ic lv)[0 + nn.toNat * 1]? = some (.int .i64 (lv.getD nn.toNat 0)) := fun hz => by
    rw [show 0 + nn.toNat * 1 = nn.toNat by omega]
    refine ic_get ?_
    rw [List.getD_eq_getElem?_getD, List.getElem?_eq_getElem (by omega)]; rfl
  have hst : nn.toNat < m → (lo ≤ id ∧ (ic lv).length = (ic lv).length ∧ 1 = 1 ∧ (0 + nn.toNat * 1) + 1 ≤ (ic lv).length) := fun hz => ⟨hlo, rfl, rfl, by rw [ic_len]; omega⟩
  by_cases o0 : op = 0
  · have hj := hidx (.inl o0)
    have p1 := hpv hj.2
    have hs := hst hj.2
    have hset := fun z => hset z hj.2
    clear hidx hpv hst hself
    have c0 : (op == 0) = true := by simp [o0]
    have c0n : (op != 0) = false := by simp [o0]
    have c4 : (op == 4) = false := by simp [o0]
    by_cases l2 : a.length = 2
    · have d2 : (((exsC a).length : Int) == 2) = true := by rw [hal, l2]; rfl
      have hp : putP lv ar (.mk op nn a t e) = lv.set nn.toNat (orI (lv.getD nn.toNat 0) (orI ar (ofEs lv 0 a))) := by
        unfold putP fromP
        dsimp only
        rw [if_pos (.inl o0), if_pos (.inl l2), if_neg (by omega)]
      rw [hp, ← hset]
      apply W_call Try.func122 rfl (Nat.le_of_ble_eq_true rfl) rfl rfl
      (repeat' (first | apply W_seq | refine W_true rfl rfl ?_ | refine W_false rfl rfl ?_ | refine W_region (id := 0) rfl rfl ?_ | (refine W_ops (id := 1) rfl ?_ <;> refine T_ch 4 rfl ?_ <;> (refine T_go rfl ?_; refine G_op (O_call rfl rfl rfl rfl (by assumption)) ?_) <;> refine T_ch 2 rfl ?_ <;> apply T_nil) | (refine W_ops (id := 2) rfl ?_ <;> refine T_ch 3 rfl ?_ <;> (refine T_go rfl ?_; refine G_true rfl (by with_reducible assumption) ?_) <;> refine T_ch 3 rfl ?_ <;> refine T_skip rfl ?_ <;> refine T_ch 4 rfl ?_ <;> refine T_skip rfl ?_ <;> refine T_ch 3 rfl ?_ <;> apply T_nil) | (refine W_ops (id := 3) rfl ?_ <;> refine T_ch 2 rfl ?_ <;> (refine T_go rfl ?_; refine G_false rfl (by with_reducible assumption) ?_) <;> apply T_nil) | (refine W_ops (id := 6) rfl ?_ <;> refine T_ch 2 rfl ?_ <;> (refine T_go rfl ?_; refine G_false rfl (by with_reducible assumption) ?_) <;> refine T_ch 3 rfl ?_ <;> refine T_skip rfl ?_ <;> refine T_ch 2 rfl ?_ <;> apply T_nil) | refine W_region (id := 7) rfl rfl ?_ | (refine W_ops (id := 8) rfl ?_ <;> refine T_ch 3 rfl ?_ <;> (refine T_go rfl ?_; refine G_op (O_indexHI rfl rfl rfl rfl rfl (by assumption) (by assumption) (by assumption)) ?_) <;> (refine T_go rfl ?_; refine G_op (O_loadH rfl rfl rfl (by assumption) rfl (by assumption)) ?_) <;> refine T_ch 2 rfl ?_ <;> (refine T_go rfl ?_; refine G_op (O_indexHI rfl rfl rfl rfl rfl (by assumption) (by assumption) (by assumption)) ?_) <;> (refine T_go rfl ?_; refine G_op (O_storeH rfl rfl rfl rfl (by assumption) (by assumption)) ?_) <;> apply T_nil) | apply W_skip | apply W_block | apply W_ret | apply W_exit | refine W_true rfl (by assumption) ?_ | refine W_false rfl (by assumption) ?_ | refine W_cond rfl (fun _ => ?_) (fun _ => ?_)))
      exact ⟨.inr rfl, rfl⟩
    · have d2 : (((exsC a).length : Int) == 2) = false := by rw [hal]; simp; omega
      have hp : putP lv ar (.mk op nn a t e) = lv.set nn.toNat (orI ar (ofEs lv 0 a)) := by
        unfold putP fromP
        dsimp only
        rw [if_pos (.inl o0), if_neg (by omega), if_neg (by omega)]
      rw [hp, ← hset]
      apply W_call Try.func122 rfl (Nat.le_of_ble_eq_true rfl) rfl rfl
      (repeat' (first | apply W_seq | refine W_true rfl rfl ?_ | refine W_false rfl rfl ?_ | refine W_region (id := 0) rfl rfl ?_ | (refine W_ops (id := 1) rfl ?_ <;> refine T_ch 4 rfl ?_ <;> (refine T_go rfl ?_; refine G_op (O_call rfl rfl rfl rfl (by assumption)) ?_) <;> refine T_ch 2 rfl ?_ <;> apply T_nil) | (refine W_ops (id := 2) rfl ?_ <;> refine T_ch 3 rfl ?_ <;> (refine T_go rfl ?_; refine G_false rfl (by with_reducible assumption) ?_) <;> refine T_ch 3 rfl ?_ <;> (refine T_go rfl ?_; refine G_false rfl (by with_reducible assumption) ?_) <;> refine T_ch 4 rfl ?_ <;> refine T_skip rfl ?_ <;> refine T_ch 3 rfl ?_ <;> apply T_nil) | (refine W_ops (id := 3) rfl ?_ <;> refine T_ch 2 rfl ?_ <;> (refine T_go rfl ?_; refine G_false rfl (by with_reducible assumption) ?_) <;> apply T_nil) | (refine W_ops (id := 5) rfl ?_ <;> refine T_ch 4 rfl ?_ <;> (refine T_go rfl ?_; refine G_op (O_indexHI rfl rfl rfl rfl rfl (by assumption) (by assumption) (by assumption)) ?_) <;> (refine T_go rfl ?_; refine G_op (O_storeH rfl rfl rfl rfl (by assumption) (by assumption)) ?_) <;> apply T_nil) | (refine W_ops (id := 6) rfl ?_ <;> refine T_ch 2 rfl ?_ <;> (refine T_go rfl ?_; refine G_false rfl (by with_reducible assumption) ?_) <;> refine T_ch 3 rfl ?_ <;> refine T_skip rfl ?_ <;> refine T_ch 2 rfl ?_ <;> apply T_nil) | refine W_region (id := 7) rfl rfl ?_ | apply W_skip | apply W_block | apply W_ret | apply W_exit | refine W_true rfl (by assumption) ?_ | refine W_false rfl (by assumption) ?_ | refine W_cond rfl (fun _ => ?_) (fun _ => ?_)))
      exact ⟨.inr rfl, rfl⟩
  by_cases o4 : op = 4
  · have hj := hidx (.inr o4)
    have p1 := hpv hj.2
    have hs := hst hj.2
    have hset := fun z => hset z hj.2
    clear hidx hpv hst hself
    have c0 : (op == 0) = false := by simp [o0]
    have c0n : (op != 0) = true := by simp [o0]
    have c4 : (op == 4) = true := by simp [o4]
    have c4n : (op != 4) = false := by simp [o4]
    by_cases l2 : a.length = 2
    · have d2 : (((exsC a).length : Int) == 2) = true := by rw [hal, l2]; rfl
      have hp : putP lv ar (.mk op nn a t e) = lv.set nn.toNat (orI (lv.getD nn.toNat 0) (orI (orI ar (ofEs lv 0 a)) 16)) := by
        unfold putP fromP
        dsimp only
        rw [if_pos (.inr o4), if_pos (.inl l2), if_pos o4]
      rw [hp, ← hset]
      apply W_call Try.func122 rfl (Nat.le_of_ble_eq_true rfl) rfl rfl
      (repeat' (first | apply W_seq | refine W_true rfl rfl ?_ | refine W_false rfl rfl ?_ | refine W_region (id := 0) rfl rfl ?_ | (refine W_ops (id := 1) rfl ?_ <;> refine T_ch 4 rfl ?_ <;> (refine T_go rfl ?_; refine G_op (O_call rfl rfl rfl rfl (by assumption)) ?_) <;> refine T_ch 2 rfl ?_ <;> apply T_nil) | (refine W_ops (id := 2) rfl ?_ <;> refine T_ch 3 rfl ?_ <;> (refine T_go rfl ?_; refine G_true rfl (by with_reducible assumption) ?_) <;> refine T_ch 3 rfl ?_ <;> refine T_skip rfl ?_ <;> refine T_ch 4 rfl ?_ <;> refine T_skip rfl ?_ <;> refine T_ch 3 rfl ?_ <;> apply T_nil) | (refine W_ops (id := 3) rfl ?_ <;> refine T_ch 2 rfl ?_ <;> (refine T_go rfl ?_; refine G_true rfl (by with_reducible assumption) ?_) <;> apply T_nil) | refine W_region (id := 4) rfl rfl ?_ | (refine W_ops (id := 6) rfl ?_ <;> refine T_ch 2 rfl ?_ <;> (refine T_go rfl ?_; refine G_true rfl (by with_reducible assumption) ?_) <;> refine T_ch 3 rfl ?_ <;> (refine T_go rfl ?_; refine G_false rfl (by with_reducible assumption) ?_) <;> refine T_ch 2 rfl ?_ <;> apply T_nil) | refine W_region (id := 7) rfl rfl ?_ | (refine W_ops (id := 8) rfl ?_ <;> refine T_ch 3 rfl ?_ <;> (refine T_go rfl ?_; refine G_op (O_indexHI rfl rfl rfl rfl rfl (by assumption) (by assumption) (by assumption)) ?_) <;> (refine T_go rfl ?_; refine G_op (O_loadH rfl rfl rfl (by assumption) rfl (by assumption)) ?_) <;> refine T_ch 2 rfl ?_ <;> (refine T_go rfl ?_; refine G_op (O_indexHI rfl rfl rfl rfl rfl (by assumption) (by assumption) (by assumption)) ?_) <;> (refine T_go rfl ?_; refine G_op (O_storeH rfl rfl rfl rfl (by assumption) (by assumption)) ?_) <;> apply T_nil) | apply W_skip | apply W_block | apply W_ret | apply W_exit | refine W_true rfl (by assumption) ?_ | refine W_false rfl (by assumption) ?_ | refine W_cond rfl (fun _ => ?_) (fun _ => ?_)))
      exact ⟨.inr rfl, rfl⟩
    · have d2 : (((exsC a).length : Int) == 2) = false := by rw [hal]; simp; omega
      by_cases l1 : a.length = 1
      · have d1 : (((exsC a).length : Int) == 1) = true := by rw [hal, l1]; rfl
        have hp : putP lv ar (.mk op nn a t e) = lv.set nn.toNat (orI (lv.getD nn.toNat 0) (orI (orI ar (ofEs lv 0 a)) 16)) := by
          unfold putP fromP
          dsimp only
          rw [if_pos (.inr o4), if_pos (.inr ⟨o4, l1⟩), if_pos o4]
        rw [hp, ← hset]
        apply W_call Try.func122 rfl (Nat.le_of_ble_eq_true rfl) rfl rfl
        (repeat' (first | apply W_seq | refine W_true rfl rfl ?_ | refine W_false rfl rfl ?_ | refine W_region (id := 0) rfl rfl ?_ | (refine W_ops (id := 1) rfl ?_ <;> refine T_ch 4 rfl ?_ <;> (refine T_go rfl ?_; refine G_op (O_call rfl rfl rfl rfl (by assumption)) ?_) <;> refine T_ch 2 rfl ?_ <;> apply T_nil) | (refine W_ops (id := 2) rfl ?_ <;> refine T_ch 3 rfl ?_ <;> (refine T_go rfl ?_; refine G_false rfl (by with_reducible assumption) ?_) <;> refine T_ch 3 rfl ?_ <;> (refine T_go rfl ?_; refine G_true rfl (by with_reducible assumption) ?_) <;> refine T_ch 4 rfl ?_ <;> (refine T_go rfl ?_; refine G_true rfl (by with_reducible assumption) ?_) <;> refine T_ch 3 rfl ?_ <;> apply T_nil) | (refine W_ops (id := 3) rfl ?_ <;> refine T_ch 2 rfl ?_ <;> (refine T_go rfl ?_; refine G_true rfl (by with_reducible assumption) ?_) <;> apply T_nil) | refine W_region (id := 4) rfl rfl ?_ | (refine W_ops (id := 6) rfl ?_ <;> refine T_ch 2 rfl ?_ <;> (refine T_go rfl ?_; refine G_true rfl (by with_reducible assumption) ?_) <;> refine T_ch 3 rfl ?_ <;> (refine T_go rfl ?_; refine G_false rfl (by with_reducible assumption) ?_) <;> refine T_ch 2 rfl ?_ <;> apply T_nil) | refine W_region (id := 7) rfl rfl ?_ | (refine W_ops (id := 8) rfl ?_ <;> refine T_ch 3 rfl ?_ <;> (refine T_go rfl ?_; refine G_op (O_indexHI rfl rfl rfl rfl rfl (by assumption) (by assumption) (by assumption)) ?_) <;> (refine T_go rfl ?_; refine G_op (O_loadH rfl rfl rfl (by assumption) rfl (by assumption)) ?_) <;> refine T_ch 2 rfl ?_ <;> (refine T_go rfl ?_; refine G_op (O_indexHI rfl rfl rfl rfl rfl (by assumption) (by assumption) (by assumption)) ?_) <;> (refine T_go rfl ?_; refine G_op (O_storeH rfl rfl rfl rfl (by assumption) (by assumption)) ?_) <;> apply T_nil) | apply W_skip | apply W_block | apply W_ret | apply W_exit | refine W_true rfl (by assumption) ?_ | refine W_false rfl (by assumption) ?_ | refine W_cond rfl (fun _ => ?_) (fun _ => ?_)))
        exact ⟨.inr rfl, rfl⟩
      · have d1 : (((exsC a).length : Int) == 1) = false := by rw [hal]; simp; omega
        have hp : putP lv ar (.mk op nn a t e) = lv.set nn.toNat (orI (orI ar (ofEs lv 0 a)) 16) := by
          unfold putP fromP
          dsimp only
          rw [if_pos (.inr o4), if_neg (by omega), if_pos o4]
        rw [hp, ← hset]
        apply W_call Try.func122 rfl (Nat.le_of_ble_eq_true rfl) rfl rfl
        (repeat' (first | apply W_seq | refine W_true rfl rfl ?_ | refine W_false rfl rfl ?_ | refine W_region (id := 0) rfl rfl ?_ | (refine W_ops (id := 1) rfl ?_ <;> refine T_ch 4 rfl ?_ <;> (refine T_go rfl ?_; refine G_op (O_call rfl rfl rfl rfl (by assumption)) ?_) <;> refine T_ch 2 rfl ?_ <;> apply T_nil) | (refine W_ops (id := 2) rfl ?_ <;> refine T_ch 3 rfl ?_ <;> (refine T_go rfl ?_; refine G_false rfl (by with_reducible assumption) ?_) <;> refine T_ch 3 rfl ?_ <;> (refine T_go rfl ?_; refine G_true rfl (by with_reducible assumption) ?_) <;> refine T_ch 4 rfl ?_ <;> (refine T_go rfl ?_; refine G_false rfl (by with_reducible assumption) ?_) <;> refine T_ch 3 rfl ?_ <;> apply T_nil) | (refine W_ops (id := 3) rfl ?_ <;> refine T_ch 2 rfl ?_ <;> (refine T_go rfl ?_; refine G_true rfl (by with_reducible assumption) ?_) <;> apply T_nil) | refine W_region (id := 4) rfl rfl ?_ | (refine W_ops (id := 5) rfl ?_ <;> refine T_ch 4 rfl ?_ <;> (refine T_go rfl ?_; refine G_op (O_indexHI rfl rfl rfl rfl rfl (by assumption) (by assumption) (by assumption)) ?_) <;> (refine T_go rfl ?_; refine G_op (O_storeH rfl rfl rfl rfl (by assumption) (by assumption)) ?_) <;> apply T_nil) | (refine W_ops (id := 6) rfl ?_ <;> refine T_ch 2 rfl ?_ <;> (refine T_go rfl ?_; refine G_true rfl (by with_reducible assumption) ?_) <;> refine T_ch 3 rfl ?_ <;> (refine T_go rfl ?_; refine G_false rfl (by with_reducible assumption) ?_) <;> refine T_ch 2 rfl ?_ <;> apply T_nil) | refine W_region (id := 7) rfl rfl ?_ | apply W_skip | apply W_block | apply W_ret | apply W_exit | refine W_true rfl (by assumption) ?_ | refine W_false rfl (by assumption) ?_ | refine W_cond rfl (fun _ => ?_) (fun _ => ?_)))
        exact ⟨.inr rfl, rfl⟩
  · have c0 : (op == 0) = false := by simp [o0]
    have c0n : (op != 0) = true := by simp [o0]
    have c4 : (op == 4) = false := by simp [o4]
    have c4n : (op != 4) = true := by simp [o4]
    have hp : putP lv ar (.mk op nn a t e) = lv := by
      unfold putP
      dsimp only
      rw [if_neg (by omega)]
    rw [hp, hself]
    cases d2 : (((exsC a).length : Int) == 2) <;>
    · apply W_call Try.func122 rfl (Nat.le_of_ble_eq_true rfl) rfl rfl
      (repeat' (first | apply W_seq | refine W_true rfl rfl ?_ | refine W_false rfl rfl ?_ | refine W_region (id := 0) rfl rfl ?_ | (refine W_ops (id := 1) rfl ?_ <;> refine T_ch 4 rfl ?_ <;> (refine T_go rfl ?_; refine G_op (O_call rfl rfl rfl rfl (by assumption)) ?_) <;> refine T_ch 2 rfl ?_ <;> apply T_nil) | (refine W_ops (id := 2) rfl ?_ <;> refine T_ch 3 rfl ?_ <;> (refine T_go rfl ?_; first | refine G_true rfl (by with_reducible assumption) ?_ | refine G_false rfl (by with_reducible assumption) ?_) <;> refine T_ch 3 rfl ?_ <;> (first | refine T_skip rfl ?_ | (refine T_go rfl ?_; refine G_false rfl (by with_reducible assumption) ?_)) <;> refine T_ch 4 rfl ?_ <;> refine T_skip rfl ?_ <;> refine T_ch 3 rfl ?_ <;> apply T_nil) | (refine W_ops (id := 3) rfl ?_ <;> refine T_ch 2 rfl ?_ <;> (refine T_go rfl ?_; refine G_false rfl (by with_reducible assumption) ?_) <;> apply T_nil) | (refine W_ops (id := 6) rfl ?_ <;> refine T_ch 2 rfl ?_ <;> (refine T_go rfl ?_; refine G_true rfl (by with_reducible assumption) ?_) <;> refine T_ch 3 rfl ?_ <;> (refine T_go rfl ?_; refine G_true rfl (by with_reducible assumption) ?_) <;> refine T_ch 2 rfl ?_ <;> apply T_nil) | apply W_skip | apply W_block | apply W_ret | apply W_exit | refine W_true rfl (by assumption) ?_ | refine W_false rfl (by assumption) ?_ | refine W_cond rfl (fun _ => ?_) (fun _ => ?_)))
      exact ⟨.inr rfl, rfl⟩
end Go.Proofs.Ytelobnllkhnpaaa.L
/- A second configuration, for Infer: the levels that it makes stay written. What all other functions come to is known from the first. Raising, in the reference. -/
open Go Go.Proofs Go.Ev Go.Proofs.Ytelobnllkhnpaaa.E
namespace Go.Proofs.Ytelobnllkhnpaaa.E
set_option linter.unusedVariables false
set_option linter.unusedSimpArgs false
set_option maxHeartbeats 2000000
/-- The functions that are walked anew. -/
def ownI (n : Nat) : Bool := [31, 32, 48, 18].contains n
noncomputable def orcI (K lo : Nat) (g : Fn) (vs : List AV) (h : Heap) : Option (AV × Heap) :=
  match g with
  | .func f => match ownI f with
    | true => none
    | false => call Try.prog cfg K lo (.func f) vs h
  | _ => none
theorem orcI_sound (K : Nat) : SoundK Try.prog (orcI K) := by
  intro lo g vs h r h' hk
  unfold orcI at hk
  split at hk
  · rename_i f
    split at hk
    · cases hk
    · exact sound.all K lo (.func f) vs h r h' hk
  · cases hk
def frI (f r : Nat) : List Nat := match Nat.beq f 32 && Nat.beq r 7 with
  | true => [6]
  | false => []
noncomputable def cfgI (K : Nat) : Cfg := { cfg with orc := orcI K, cut := fun n => isCut n && !(n == 48 || n == 18), fr := frI }
theorem soundI (K : Nat) : Sound Try.prog (cfgI K) := ⟨sound0.tab, cfg_ok, orcI_sound K⟩
theorem viaI {K f k lo : Nat} {vs : List AV} {h : Heap} {r : AV × Heap} (ho : ownI f = false) (hc : call Try.prog cfg K lo (.func f) vs h = some r) (hk : 1 ≤ k) : call Try.prog (cfgI K) k lo (.func f) vs h = some r := by
  obtain ⟨k, rfl⟩ : ∃ k', k = k' + 1 := ⟨k - 1, by omega⟩
  have : (cfgI K).orc lo (.func f) vs h = some r := by
    show orcI K lo (.func f) vs h = some r
    unfold orcI
    dsimp only
    rw [ho]
    exact hc
  simp only [call, this]
end Go.Proofs.Ytelobnllkhnpaaa.E
namespace Go.Proofs.Ytelobnllkhnpaaa.L
set_option linter.unusedVariables false
set_option linter.unusedSimpArgs false
set_option maxHeartbeats 2000000
set_option maxRecDepth 100000

def boolsC (l : List Bool) : List (List AV) := l.map fun b => [.bool b]
theorem boolsC_len (l : List Bool) : (boolsC l).length = l.length := by simp [boolsC]
theorem boolsC_at {l : List Bool} {n : Int} (h : 0 ≤ n ∧ n < l.length) : 0 ≤ n ∧ (boolsC l)[n.toNat]? = some [.bool (l.getD n.toNat false)] := by
  refine ⟨h.1, ?_⟩
  unfold boolsC
  rw [List.getElem?_map, List.getD_eq_getElem?_getD, List.getElem?_eq_getElem (by omega)]
  rfl
def raiS (h : Heap) (sv : AV) (ar : Int) (v : AV) (i : Int) (lv : List Int) : St :=
  { env := [(0, .v (.vs 1 (intsC lv))), (1, .v sv), (2, .v (.int .i64 ar)), (3, .v v), (9, .v (.int .i64 i))], loc := [], heap := h, inRound := false, lo := h.length }
set_option maxHeartbeats 2000000 in
theorem raise_run (m : Nat) (hm1 : 1 ≤ m) (hm2 : m ≤ 18) (st : List Bool) (hst : st.length = m) : ∀ (k : Nat) (l : List Sm') (lv : List Int) (ar n : Int), smsK l + 100 ≤ k → smsN l ≤ 600 → l.length < 1000 → smsB l → vmL m l → lv.length = m → lvsB lv → lvB ar → ∀ (h : Heap) (lo : Nat),
    call Try.prog cfg k lo (.func 72) [.vs 1 (intsC lv), .vs 1 (boolsC st), .int .i64 ar, accV 6 ((itemsL l n).map itC)] h = some (.vs 1 (intsC (raL st l lv ar)), h)
  | 0, l, lv, ar, n, hk, _, _, _, _, _, _, _, _, _ => by omega
  | k + 1, [], lv, ar, n, hk, hN, hlen, hb, hv, hl, hB, har, h, lo => by
    apply W_call Try.func72 rfl (Nat.le_of_ble_eq_true rfl) rfl rfl
    (repeat' (first | apply W_seq | refine W_true rfl rfl ?_ | refine W_false rfl rfl ?_ | refine W_region (id := 0) rfl rfl ?_ | refine W_region (id := 1) rfl rfl ?_ | apply W_skip | apply W_block | apply W_ret | apply W_exit | refine W_true rfl (by assumption) ?_ | refine W_false rfl (by assumption) ?_ | refine W_cond rfl (fun _ => ?_) (fun _ => ?_)))
    apply W_iter (S := raiS h (.vs 1 (boolsC st)) ar .nils) (l := ([] : List Sm')) (a0 := lv) (fun _ a => a = lv) (by simp) (by simp; omega) rfl rfl
    · intro i st rest a hi; simp at hi
    · intro a hJ
      subst hJ
      (repeat' (first | apply W_seq | refine W_true rfl rfl ?_ | refine W_false rfl rfl ?_ | (refine W_ops (id := 2) rfl ?_ <;> refine T_ch 3 rfl ?_ <;> (refine T_go rfl ?_; refine G_false rfl rfl ?_) <;> apply T_nil) | refine W_region (id := 10) rfl rfl ?_ | apply W_skip | apply W_block | apply W_ret | apply W_exit | refine W_true rfl (by assumption) ?_ | refine W_false rfl (by assumption) ?_ | refine W_cond rfl (fun _ => ?_) (fun _ => ?_)))
      exact ⟨.inl rfl, rfl⟩
  | k + 1, s0 :: l0, lv, ar, n, hk, hN, hlen, hb, hv, hl, hB, har, h, lo => by
    have hll := smsK_len (s0 :: l0)
    generalize hl0 : s0 :: l0 = l at *
    have hacc : accV 6 ((itemsL l n).map itC) = .vs 6 ((itemsL l n).map itC) := by subst hl0; rfl
    rw [hacc]
    generalize hR : raL st l lv ar = R
    apply W_call Try.func72 rfl (Nat.le_of_ble_eq_true rfl) rfl rfl
    (repeat' (first | apply W_seq | refine W_true rfl rfl ?_ | refine W_false rfl rfl ?_ | refine W_region (id := 0) rfl rfl ?_ | refine W_region (id := 1) rfl rfl ?_ | apply W_skip | apply W_block | apply W_ret | apply W_exit | refine W_true rfl (by assumption) ?_ | refine W_false rfl (by assumption) ?_ | refine W_cond rfl (fun _ => ?_) (fun _ => ?_)))
    apply W_iterI (S := raiS h (.vs 1 (boolsC st)) ar (.vs 6 ((itemsL l n).map itC))) (l := l) (a0 := lv) (fun i rest a => raL st rest a ar = R ∧ (∃ m', (itemsL l n).drop i = itemsL rest m') ∧ a.length = m ∧ lvsB a) (by omega) (by omega) rfl ⟨hR, ⟨n, rfl⟩, hl, hB⟩
    · intro i s rest x hi hd hil hJ
      obtain ⟨hJ, ⟨mm, hdr⟩, jl, jB⟩ := hJ
      have hlt := lt_its (n := n) hil
      have hmem := smsK_mem2 l i _ hi
      have hNm := smsN_mem l i _ hi
      have hbm := smsB_mem l i _ hb hi
      have hvm := vmL_mem hv hi
      rw [itemsL] at hdr
      have hget : (itemsL l n)[i]? = some (mm, s) := by
        have := congrArg (fun z => z[0]?) hdr
        simpa using this
      have hrow : ((itemsL l n).map itC)[i]? = some (itC (mm, s)) := by rw [List.getElem?_map, hget]; rfl
      have hdr2 : (itemsL l n).drop (i + 1) = itemsL rest (cnt1 s mm) := by rw [← List.drop_drop, hdr]; rfl
      rw [raL] at hJ
      obtain ⟨op, nn, a, t, e⟩ := s
      rw [smK] at hmem
      rw [smN] at hNm
      rw [smB] at hbm
      rw [vm1] at hvm
      obtain ⟨⟨ha1, ha2⟩, ⟨ht1, ht2⟩, he1, he2⟩ := hbm
      obtain ⟨r1, r2, r3, r4, r5⟩ := hvm
      have hla := exsK_len a
      have htl := smsN_len t
      have hel := smsN_len e
      have hp2 := smsK_pos t
      have hp3 := smsK_pos e
      rw [ra1] at hJ
      have hfB : lvB (orI ar (ofEs x 0 a)) := orI_B har (ofEs_B jB a lvB0)
      have hA := argsR_run op nn a t e x (k - 1) (by omega) ha1 ha2 (by rw [jl]; exact r1) h h.length
      have hO := or_run (k - 1) h.length ar (ofEs x 0 a) h
      rw [show k - 1 + 1 = k by omega] at hA hO
      have hTh := then_run mm op nn a t e (k - 1) (by omega) (by omega) ht2 h h.length
      have hEl := else_run mm op nn a t e (k - 1) (by omega) (by omega) ht2 (by omega) he2 h h.length
      rw [show k - 1 + 1 = k by omega] at hTh hEl
      generalize hf : orI ar (ofEs x 0 a) = f at *
      obtain ⟨s1, s2, _, _⟩ := raS_ok (st := st) (op := op) (nn := nn) jl jB hfB
      obtain ⟨t1, t2, _, _⟩ := raL_ok (st := st) t s1 s2 hfB
      obtain ⟨e1, e2, _, _⟩ := raL_ok (st := st) e t1 t2 hfB
      have hT := raise_run m hm1 hm2 st hst k t (raS st op nn x f) f (IntKind.i64.wrap (mm + 1)) (by omega) (by omega) (by omega) ht2 r4 s1 s2 hfB h h.length
      have hE := raise_run m hm1 hm2 st hst k e (raL st t (raS st op nn x f) f) f (IntKind.i64.wrap (IntKind.i64.wrap (mm + 1) + cntL t 0)) (by omega) (by omega) (by omega) he2 r5 t1 t2 hfB h h.length
      generalize hX : raL st e (raL st t (raS st op nn x f) f) f = X at *
      generalize hY : raL st t (raS st op nn x f) f = Y at *
      by_cases o0 : op = 0
      · have c0 : (op == 0) = true := by simp [o0]
        have hr := r2 (.inl o0)
        have hsb := boolsC_at (l := st) (n := nn) (by omega)
        cases hsv : st.getD nn.toNat false with
        | true =>
          rw [hsv] at hsb
          have hs : raS st op nn x f = x := by unfold raS; rw [if_neg (by rw [hsv]; simp)]
          rw [hs] at hT
          clear hY hX
          (repeat' (first | apply W_seq | refine W_true rfl rfl ?_ | refine W_false rfl rfl ?_ | (refine W_ops (id := 2) rfl ?_ <;> refine T_ch 3 rfl ?_ <;> (refine T_go rfl ?_; refine G_true rfl (by with_reducible assumption) ?_) <;> apply T_nil) | refine W_region (id := 3) rfl rfl ?_ | (refine W_ops (id := 4) rfl ?_ <;> refine T_ch 2 rfl ?_ <;> (refine T_go rfl ?_; refine G_op (O_index rfl rfl rfl rfl rfl (by assumption)) ?_) <;> refine T_ch 1 rfl ?_ <;> (refine T_go rfl ?_; refine G_op rfl ?_) <;> refine T_ch 2 rfl ?_ <;> apply T_nil) | (refine W_ops (id := 5) rfl ?_ <;> refine T_ch 3 rfl ?_ <;> (refine T_go rfl ?_; refine G_op (O_call rfl rfl rfl rfl (by assumption)) ?_) <;> (refine T_go rfl ?_; refine G_op (O_call rfl rfl rfl rfl (by assumption)) ?_) <;> refine T_ch 1 rfl ?_ <;> apply T_nil) | (refine W_ops (id := 6) rfl ?_ <;> refine T_ch 2 rfl ?_ <;> (refine T_go rfl ?_; refine G_true rfl (by with_reducible assumption) ?_) <;> refine T_ch 4 rfl ?_ <;> (refine T_go rfl ?_; refine G_op (O_indexI rfl rfl rfl rfl rfl (by assumption)) ?_) <;> (refine T_go rfl ?_; refine G_true rfl rfl ?_) <;> refine T_ch 2 rfl ?_ <;> apply T_nil) | (refine W_ops (id := 8) rfl ?_ <;> refine T_ch 5 rfl ?_ <;> (refine T_go rfl ?_; refine G_op (O_index rfl rfl rfl rfl rfl (by assumption)) ?_) <;> (refine T_go rfl ?_; refine G_op rfl ?_) <;> (refine T_go rfl ?_; refine G_op (O_call rfl rfl rfl rfl (by assumption)) ?_) <;> (refine T_go rfl ?_; refine G_op (O_call rfl rfl rfl rfl (by assumption)) ?_) <;> refine T_ch 1 rfl ?_ <;> apply T_nil) | (refine W_ops (id := 9) rfl ?_ <;> refine T_ch 5 rfl ?_ <;> (refine T_go rfl ?_; refine G_op (O_index rfl rfl rfl rfl rfl (by assumption)) ?_) <;> (refine T_go rfl ?_; refine G_op rfl ?_) <;> (refine T_go rfl ?_; refine G_op (O_call rfl rfl rfl rfl (by assumption)) ?_) <;> (refine T_go rfl ?_; refine G_op (O_call rfl rfl rfl rfl (by assumption)) ?_) <;> refine T_ch 1 rfl ?_ <;> apply T_nil) | refine W_region (id := 3) rfl rfl ?_ | apply W_skip | apply W_block | apply W_ret | apply W_exit | refine W_true rfl (by assumption) ?_ | refine W_false rfl (by assumption) ?_ | refine W_cond rfl (fun _ => ?_) (fun _ => ?_)))
          exact ⟨X, rfl, hJ, ⟨_, hdr2⟩, e1, e2⟩
        | false =>
          rw [hsv] at hsb
          have hs : raS st op nn x f = x.set nn.toNat (orI (x.getD nn.toNat 0) f) := by unfold raS; rw [if_pos ⟨o0, hsv⟩]
          rw [hs] at hT
          have hxi := intsC_at (l := x) (n := nn) (by omega)
          have hO2 := or_run (k - 1) h.length (x.getD nn.toNat 0) f h
          have hW := with_run x nn (orI (x.getD nn.toNat 0) f) (by omega) (by omega) (k - 1) (by omega) h h.length
          rw [show k - 1 + 1 = k by omega] at hO2 hW
          clear hY hX
          (repeat' (first | apply W_seq | refine W_true rfl rfl ?_ | refine W_false rfl rfl ?_ | (refine W_ops (id := 2) rfl ?_ <;> refine T_ch 3 rfl ?_ <;> (refine T_go rfl ?_; refine G_true rfl (by with_reducible assumption) ?_) <;> apply T_nil) | refine W_region (id := 3) rfl rfl ?_ | (refine W_ops (id := 4) rfl ?_ <;> refine T_ch 2 rfl ?_ <;> (refine T_go rfl ?_; refine G_op (O_index rfl rfl rfl rfl rfl (by assumption)) ?_) <;> refine T_ch 1 rfl ?_ <;> (refine T_go rfl ?_; refine G_op rfl ?_) <;> refine T_ch 2 rfl ?_ <;> apply T_nil) | (refine W_ops (id := 5) rfl ?_ <;> refine T_ch 3 rfl ?_ <;> (refine T_go rfl ?_; refine G_op (O_call rfl rfl rfl rfl (by assumption)) ?_) <;> (refine T_go rfl ?_; refine G_op (O_call rfl rfl rfl rfl (by assumption)) ?_) <;> refine T_ch 1 rfl ?_ <;> apply T_nil) | (refine W_ops (id := 6) rfl ?_ <;> refine T_ch 2 rfl ?_ <;> (refine T_go rfl ?_; refine G_true rfl (by with_reducible assumption) ?_) <;> refine T_ch 4 rfl ?_ <;> (refine T_go rfl ?_; refine G_op (O_indexI rfl rfl rfl rfl rfl (by assumption)) ?_) <;> (refine T_go rfl ?_; refine G_false rfl rfl ?_) <;> refine T_ch 2 rfl ?_ <;> apply T_nil) | (refine W_dops (id := 7) (bs := [0, 0, 2, 0, 0, 16, 56, 120, 0, 504, 1023, 2047]) rfl (by decide +kernel) ?_ <;> (refine U_go rfl ?_; refine H_free (by decide +kernel) rfl rfl rfl rfl rfl ?_) <;> (refine U_go rfl ?_; refine H_free (by decide +kernel) rfl rfl rfl rfl rfl ?_) <;> (refine U_go rfl ?_; refine H_free (by decide +kernel) rfl rfl rfl rfl rfl ?_) <;> (refine U_go rfl ?_; refine H_free (by decide +kernel) rfl rfl rfl rfl rfl ?_) <;> (refine U_go rfl ?_; refine H_free (by decide +kernel) rfl rfl rfl rfl rfl ?_) <;> (refine U_go rfl ?_; refine H_free (by decide +kernel) rfl rfl rfl rfl rfl ?_) <;> (refine U_go rfl ?_; refine H_free (by decide +kernel) rfl (O_indexI rfl rfl rfl rfl rfl (by assumption)) rfl rfl rfl ?_) <;> (refine U_go rfl ?_; refine H_free (by decide +kernel) rfl rfl rfl rfl rfl ?_) <;> (refine U_go rfl ?_; refine H_free (by decide +kernel) rfl rfl rfl rfl rfl ?_) <;> (refine U_go rfl ?_; refine H_free (by decide +kernel) rfl (O_call rfl rfl rfl rfl (by assumption)) rfl rfl rfl ?_) <;> (refine U_go rfl ?_; refine H_op (by decide +kernel) (O_call rfl rfl rfl rfl (by assumption)) ?_) <;> (refine U_go rfl ?_; refine H_op (by decide +kernel) rfl ?_) <;> apply U_nil) | (refine W_ops (id := 8) rfl ?_ <;> refine T_ch 5 rfl ?_ <;> (refine T_go rfl ?_; refine G_op (O_index rfl rfl rfl rfl rfl (by assumption)) ?_) <;> (refine T_go rfl ?_; refine G_op rfl ?_) <;> (refine T_go rfl ?_; refine G_op (O_call rfl rfl rfl rfl (by assumption)) ?_) <;> (refine T_go rfl ?_; refine G_op (O_call rfl rfl rfl rfl (by assumption)) ?_) <;> refine T_ch 1 rfl ?_ <;> apply T_nil) | (refine W_ops (id := 9) rfl ?_ <;> refine T_ch 5 rfl ?_ <;> (refine T_go rfl ?_; refine G_op (O_index rfl rfl rfl rfl rfl (by assumption)) ?_) <;> (refine T_go rfl ?_; refine G_op rfl ?_) <;> (refine T_go rfl ?_; refine G_op (O_call rfl rfl rfl rfl (by assumption)) ?_) <;> (refine T_go rfl ?_; refine G_op (O_call rfl rfl rfl rfl (by assumption)) ?_) <;> refine T_ch 1 rfl ?_ <;> apply T_nil) | refine W_region (id := 3) rfl rfl ?_ | apply W_skip | apply W_block | apply W_ret | apply W_exit | refine W_true rfl (by assumption) ?_ | refine W_false rfl (by assumption) ?_ | refine W_cond rfl (fun _ => ?_) (fun _ => ?_)))
          exact ⟨X, rfl, hJ, ⟨_, hdr2⟩, e1, e2⟩
      · have c0 : (op == 0) = false := by simp [o0]
        have hs : raS st op nn x f = x := by unfold raS; rw [if_neg (fun q => o0 q.1)]
        rw [hs] at hT
        clear hY hX
        (repeat' (first | apply W_seq | refine W_true rfl rfl ?_ | refine W_false rfl rfl ?_ | (refine W_ops (id := 2) rfl ?_ <;> refine T_ch 3 rfl ?_ <;> (refine T_go rfl ?_; refine G_true rfl (by with_reducible assumption) ?_) <;> apply T_nil) | refine W_region (id := 3) rfl rfl ?_ | (refine W_ops (id := 4) rfl ?_ <;> refine T_ch 2 rfl ?_ <;> (refine T_go rfl ?_; refine G_op (O_index rfl rfl rfl rfl rfl (by assumption)) ?_) <;> refine T_ch 1 rfl ?_ <;> (refine T_go rfl ?_; refine G_op rfl ?_) <;> refine T_ch 2 rfl ?_ <;> apply T_nil) | (refine W_ops (id := 5) rfl ?_ <;> refine T_ch 3 rfl ?_ <;> (refine T_go rfl ?_; refine G_op (O_call rfl rfl rfl rfl (by assumption)) ?_) <;> (refine T_go rfl ?_; refine G_op (O_call rfl rfl rfl rfl (by assumption)) ?_) <;> refine T_ch 1 rfl ?_ <;> apply T_nil) | (refine W_ops (id := 6) rfl ?_ <;> refine T_ch 2 rfl ?_ <;> (refine T_go rfl ?_; refine G_false rfl (by with_reducible assumption) ?_) <;> refine T_ch 4 rfl ?_ <;> refine T_skip rfl ?_ <;> refine T_skip rfl ?_ <;> refine T_ch 2 rfl ?_ <;> apply T_nil) | (refine W_ops (id := 8) rfl ?_ <;> refine T_ch 5 rfl ?_ <;> (refine T_go rfl ?_; refine G_op (O_index rfl rfl rfl rfl rfl (by assumption)) ?_) <;> (refine T_go rfl ?_; refine G_op rfl ?_) <;> (refine T_go rfl ?_; refine G_op (O_call rfl rfl rfl rfl (by assumption)) ?_) <;> (refine T_go rfl ?_; refine G_op (O_call rfl rfl rfl rfl (by assumption)) ?_) <;> refine T_ch 1 rfl ?_ <;> apply T_nil) | (refine W_ops (id := 9) rfl ?_ <;> refine T_ch 5 rfl ?_ <;> (refine T_go rfl ?_; refine G_op (O_index rfl rfl rfl rfl rfl (by assumption)) ?_) <;> (refine T_go rfl ?_; refine G_op rfl ?_) <;> (refine T_go rfl ?_; refine G_op (O_call rfl rfl rfl rfl (by assumption)) ?_) <;> (refine T_go rfl ?_; refine G_op (O_call rfl rfl rfl rfl (by assumption)) ?_) <;> refine T_ch 1 rfl ?_ <;> apply T_nil) | refine W_region (id := 3) rfl rfl ?_ | apply W_skip | apply W_block | apply W_ret | apply W_exit | refine W_true rfl (by assumption) ?_ | refine W_false rfl (by assumption) ?_ | refine W_cond rfl (fun _ => ?_) (fun _ => ?_)))
        exact ⟨X, rfl, hJ, ⟨_, hdr2⟩, e1, e2⟩
    · intro a hJ
      have hlt := ge_its (l := l) (n := n)
      have : a = R := by simpa [raL] using hJ.1
      subst this
      (repeat' (first | apply W_seq | refine W_true rfl rfl ?_ | refine W_false rfl rfl ?_ | (refine W_ops (id := 2) rfl ?_ <;> refine T_ch 3 rfl ?_ <;> (refine T_go rfl ?_; refine G_false rfl (by with_reducible assumption) ?_) <;> apply T_nil) | refine W_region (id := 10) rfl rfl ?_ | apply W_skip | apply W_block | apply W_ret | apply W_exit | refine W_true rfl (by assumption) ?_ | refine W_false rfl (by assumption) ?_ | refine W_cond rfl (fun _ => ?_) (fun _ => ?_)))
      exact ⟨.inl rfl, rfl⟩
end Go.Proofs.Ytelobnllkhnpaaa.L
/- Infer in the reference. -/
open Go Go.Proofs Go.Ev Go.Proofs.Ytelobnllkhnpaaa.E
namespace Go.Proofs.Ytelobnllkhnpaaa.L
set_option linter.unusedVariables false
set_option linter.unusedSimpArgs false
set_option maxHeartbeats 2000000
set_option maxRecDepth 100000

def lrSI (h : Heap) (lo : Nat) (p : Pr') (i : Int) (l : List Int) : St :=
  { env := [(1, .p 1 0), (3, .v (accA h 1 (intsC l))), (4, .v (.int .i64 i))], loc := [(1, prC p)], heap := accH h 3 (intsC l), inRound := false, lo := lo }
theorem levelsRI_run (K : Nat) (p : Pr') (k : Nat) (hk : p.vars.length < k) (hv : p.vars.length < 1000) (h : Heap) (lo : Nat) (hlo : lo ≤ h.length) : call Try.prog (cfgI K) (k + 1) lo (.func 18) [.agg (prC p)] h = some (accA h 1 (intsC (levs p)), accH h 3 (intsC (levs p))) := by
  obtain ⟨w, vs, body⟩ := p
  dsimp only at hk hv
  apply W_call Try.func18 rfl (Nat.le_of_ble_eq_true rfl) rfl rfl
  (repeat' (first | apply W_seq | refine W_true rfl rfl ?_ | refine W_false rfl rfl ?_ | refine W_region (id := 0) rfl rfl ?_ | refine W_region (id := 1) rfl rfl ?_ | refine W_region (id := 2) rfl rfl ?_ | apply W_skip | apply W_block | apply W_ret | apply W_exit | refine W_true rfl (by assumption) ?_ | refine W_false rfl (by assumption) ?_ | refine W_cond rfl (fun _ => ?_) (fun _ => ?_)))
  apply W_iterI (S := lrSI h lo ⟨w, vs, body⟩) (l := vs) (a0 := []) (fun i rest a => a ++ rest.map (·.level) = levs ⟨w, vs, body⟩ ∧ a.length = i) (by omega) (by omega) rfl ⟨rfl, rfl⟩
  · intro i v rest a hi hd hil hJ
    have hrow := vsC_get hi
    have hlt := lt_vsC hil
    have hap := int_appendL h lo hlo a v.level (by omega)
    obtain ⟨nm, level, cells⟩ := v
    dsimp only at hap
    (repeat' (first | apply W_seq | refine W_true rfl rfl ?_ | refine W_false rfl rfl ?_ | (refine W_ops (id := 3) rfl ?_ <;> refine T_ch 4 rfl ?_ <;> (refine T_go rfl ?_; refine G_true rfl (by assumption) ?_) <;> apply T_nil) | refine W_region (id := 4) rfl rfl ?_ | (refine W_ops (id := 5) rfl ?_ <;> refine T_ch 4 rfl ?_ <;> (refine T_go rfl ?_; refine G_op (O_index rfl rfl rfl rfl rfl (by assumption)) ?_) <;> refine T_ch 1 rfl ?_ <;> (refine T_go rfl ?_; refine G_op rfl ?_) <;> refine T_ch 1 rfl ?_ <;> (refine T_go rfl ?_; refine G_op (O_append rfl rfl rfl rfl rfl (by assumption)) ?_) <;> refine T_ch 1 rfl ?_ <;> apply T_nil) | apply W_skip | apply W_block | apply W_ret | apply W_exit | refine W_true rfl (by assumption) ?_ | refine W_false rfl (by assumption) ?_ | refine W_cond rfl (fun _ => ?_) (fun _ => ?_)))
    exact ⟨a ++ [level], rfl, by rw [← hJ.1]; simp, by simp [hJ.2]⟩
  · intro a hJ
    have hlt := ge_vsC (l := vs)
    have : a = levs ⟨w, vs, body⟩ := by simpa using hJ.1
    subst this
    (repeat' (first | apply W_seq | refine W_true rfl rfl ?_ | refine W_false rfl rfl ?_ | (refine W_ops (id := 3) rfl ?_ <;> refine T_ch 4 rfl ?_ <;> (refine T_go rfl ?_; refine G_false rfl (by assumption) ?_) <;> apply T_nil) | refine W_region (id := 6) rfl rfl ?_ | apply W_skip | apply W_block | apply W_ret | apply W_exit | refine W_true rfl (by assumption) ?_ | refine W_false rfl (by assumption) ?_ | refine W_cond rfl (fun _ => ?_) (fun _ => ?_)))
    exact ⟨.inl rfl, rfl⟩

/-- Levels of variables that do not stay begin at 0. -/
def zeroL : List Bool → List Int → List Int
  | b :: bs, x :: xs => (if b then x else 0) :: zeroL bs xs
  | _, xs => xs
theorem zeroL_len : ∀ (st : List Bool) (x : List Int), (zeroL st x).length = x.length
  | [], x => by simp [zeroL]
  | b :: bs, [] => rfl
  | b :: bs, x :: xs => by simp [zeroL, zeroL_len bs xs]
theorem zeroL_B : ∀ (st : List Bool) {x : List Int}, lvsB x → lvsB (zeroL st x)
  | [], x, h => by simpa [zeroL] using h
  | b :: bs, [], h => h
  | b :: bs, x :: xs, h => fun y hy => by
    simp only [zeroL, List.mem_cons] at hy
    rcases hy with rfl | hy
    · split
      · exact h x (List.mem_cons_self ..)
      · exact lvB0
    · exact zeroL_B bs (fun w hw => h w (List.mem_cons_of_mem _ hw)) y hy
theorem zeroL_get : ∀ (st : List Bool) (x : List Int) (i : Nat), i < st.length → (zeroL st x).getD i 0 = if st.getD i false = true then x.getD i 0 else 0
  | [], x, i, h => by simp at h
  | b :: bs, [], i, h => by simp [zeroL]
  | b :: bs, x :: xs, 0, h => by simp [zeroL]
  | b :: bs, x :: xs, i + 1, h => by
    have := zeroL_get bs xs i (by simpa using h)
    simpa [zeroL] using this
theorem zeroL_append : ∀ (s1 : List Bool) (x1 : List Int) (s2 : List Bool) (x2 : List Int), s1.length = x1.length → zeroL (s1 ++ s2) (x1 ++ x2) = zeroL s1 x1 ++ zeroL s2 x2
  | [], [], s2, x2, _ => by simp [zeroL]
  | [], _ :: _, s2, x2, h => by simp at h
  | _ :: _, [], s2, x2, h => by simp at h
  | b :: s1, x :: x1, s2, x2, h => by simp [zeroL, zeroL_append s1 x1 s2 x2 (by simpa using h)]
/-- One more level is put to 0, or stays. -/
theorem zero_step {st : List Bool} {x cur : List Int} {i : Nat} {v : Int} {b : Bool} (hv : x[i]? = some v) (hb : st[i]? = some b) (hc : cur = zeroL (st.take i) (x.take i) ++ x.drop i) :
    (if b = true then cur else cur.set i 0) = zeroL (st.take (i + 1)) (x.take (i + 1)) ++ x.drop (i + 1) := by
  have hix := (List.getElem?_eq_some_iff.1 hv).1
  have hib := (List.getElem?_eq_some_iff.1 hb).1
  have hl : (zeroL (st.take i) (x.take i)).length = i := by rw [zeroL_len]; simp; omega
  have hd : x.drop i = v :: x.drop (i + 1) := by
    rw [List.drop_eq_getElem_cons hix]
    rw [List.getElem?_eq_getElem hix] at hv
    injection hv with hv; rw [hv]
  have e1 : zeroL (st.take (i + 1)) (x.take (i + 1)) = zeroL (st.take i) (x.take i) ++ [if b = true then v else 0] := by
    rw [take_succ_of hv, take_succ_of hb, zeroL_append _ _ _ _ (by simp; omega)]
    rfl
  rw [e1, hc, hd]
  cases b
  · rw [if_neg (by simp), if_neg (by simp), List.set_append_right _ _ (by omega), hl, Nat.sub_self, List.set_cons_zero, List.append_assoc]; rfl
  · rw [if_pos rfl, if_pos rfl, List.append_assoc]; rfl

def fRa (st : List Bool) (b : List Sm') (x : List Int) : List Int := raL st b x 0
def lfpR (p : Pr') (st : List Bool) : List Int := fixN (fRa st p.body) 600 (zeroL st (levs p))
def infV (p : Pr') (st : List Bool) : AV × Bool := if fixRL (lfpR p st) p.body 0 0 = [] then (.vs 1 (intsC (lfpR p st)), true) else (.nils, false)
def inzS (h : Heap) (p : Pr') (st : List Bool) (m : Nat) (i : Int) (H : Heap) : St :=
  { env := [(1, .v (.vs 1 (boolsC st))), (2, .p 2 0), (6, .v (.sl h.length 1 0 m)), (7, .v (.int .i64 i))], loc := [(2, prC p)], heap := H, inRound := false, lo := h.length }
def inrS (h : Heap) (p : Pr') (st : List Bool) (a : List Int × AV × Heap) : St :=
  { env := [(1, .v (.vs 1 (boolsC st))), (2, .p 2 0), (6, .v a.2.1)], loc := [(2, prC p)], heap := a.2.2, inRound := false, lo := h.length }
theorem inr_frz (h : Heap) (p : Pr') (st : List Bool) (x : List Int) : frzSlots [6] (inrS h p st (x, .sl h.length 1 0 x.length, h ++ [.cells 3 (ic x)])) = { (inrS h p st (x, .vs 1 (intsC x), h ++ [.dead])) with env := (6, .v (.vs 1 (intsC x))) :: (inrS h p st (x, .sl h.length 1 0 x.length, h ++ [.cells 3 (ic x)])).env } := by
  have h1 : (h ++ [HObj.cells 3 (ic x)])[h.length]? = some (.cells 3 (ic x)) := by simp
  rw [frzSlots, frzSlots]
  unfold frzSlot
  have h2 : Go.Ev.look (inrS h p st (x, .sl h.length 1 0 x.length, h ++ [.cells 3 (ic x)])).env 6 = some (.v (.sl h.length 1 0 x.length)) := rfl
  rw [h2]
  dsimp only
  have h3 : (inrS h p st (x, .sl h.length 1 0 x.length, h ++ [.cells 3 (ic x)])).heap = h ++ [.cells 3 (ic x)] := rfl
  rw [h3, h1]
  dsimp only
  rw [if_pos ⟨Nat.le_refl _, by rw [ic_len]; omega, ic_static x⟩, List.drop_zero, chunks_ic]
  have h4 : (h ++ [HObj.cells 3 (ic x)]).set h.length .dead = h ++ [.dead] := by simp
  rw [h4]
  rfl
set_option maxHeartbeats 2000000 in
theorem inferR_run (p : Pr') (st : List Bool) (hst : st.length = p.vars.length) (k : Nat) (hk : smsK p.body + p.vars.length + 1400 ≤ k) (K : Nat) (hK : smsK p.body + 2000 ≤ K) (hN : smsN p.body ≤ 600) (hb : prB p) (hv1 : 1 ≤ p.vars.length) (hv2 : p.vars.length ≤ 18) (hvm : vmL p.vars.length p.body) (hB : lvsB (levs p)) (h : Heap) (lo : Nat) :
    call Try.prog (cfgI K) (k + 1) lo (.func 32) [.agg (prC p), .vs 1 (boolsC st)] h = some (.tup [(infV p st).1, .bool (infV p st).2], h) := by
  have hln := smsN_len p.body
  obtain ⟨K, rfl⟩ : ∃ K', K = K' + 1 := ⟨K - 1, by omega⟩
  have hL := levelsRI_run (K + 1) p (k - 1) (by omega) (by omega) h h.length (Nat.le_refl _)
  have hll := levs_len p
  have hne : levs p ≠ [] := fun e => by rw [e] at hll; simp at hll; omega
  rw [show k - 1 + 1 = k by omega, intsC_accA hne, intsC_accH hne, hll] at hL
  generalize hV : infV p st = V
  unfold infV lfpR at hV
  generalize hlv : levs p = lv at *
  obtain ⟨w, vs, body⟩ := p
  dsimp only at *
  generalize hm : vs.length = m at *
  apply W_call Try.func32 rfl (Nat.le_of_ble_eq_true rfl) rfl rfl
  (repeat' (first | apply W_seq | refine W_true rfl rfl ?_ | refine W_false rfl rfl ?_ | refine W_region (id := 0) rfl rfl ?_ | (refine W_ops (id := 1) rfl ?_ <;> refine T_ch 1 rfl ?_ <;> (refine T_go rfl ?_; refine G_op (O_call rfl rfl rfl rfl (by assumption)) ?_) <;> refine T_ch 1 rfl ?_ <;> apply T_nil) | refine W_region (id := 2) rfl rfl ?_ | apply W_skip | apply W_block | apply W_ret | apply W_exit | refine W_true rfl (by assumption) ?_ | refine W_false rfl (by assumption) ?_ | refine W_cond rfl (fun _ => ?_) (fun _ => ?_)))
  apply W_iterI (S := inzS h ⟨w, vs, body⟩ st m) (l := lv) (a0 := h ++ [.cells 3 (ic lv)]) (fun i rest H' => ∃ cur, cur = zeroL (st.take i) (lv.take i) ++ lv.drop i ∧ H' = h ++ [.cells 3 (ic cur)]) (by omega) (by omega) rfl ⟨lv, by simp [zeroL], rfl⟩
  · intro i v rest H' hi hd hil hJ
    obtain ⟨cur, hcur, rfl⟩ := hJ
    have hist : i < st.length := by omega
    have hbi : st[i]? = some st[i] := List.getElem?_eq_getElem hist
    have hstep := zero_step hi hbi hcur
    have hlt : decide ((i : Int) < (m : Int)) = true := decide_eq_true (by omega)
    have hrow : (boolsC st)[i]? = some [.bool st[i]] := by unfold boolsC; rw [List.getElem?_map, hbi]; rfl
    have hcl : cur.length = m := by rw [hcur, List.length_append, zeroL_len]; simp; omega
    cases hbv : st[i] with
    | true =>
      rw [hbv] at hrow hstep
      rw [if_pos rfl] at hstep
      (repeat' (first | apply W_seq | refine W_true rfl rfl ?_ | refine W_false rfl rfl ?_ | (refine W_ops (id := 3) rfl ?_ <;> refine T_ch 3 rfl ?_ <;> (refine T_go rfl ?_; refine G_true rfl (by with_reducible assumption) ?_) <;> apply T_nil) | refine W_region (id := 4) rfl rfl ?_ | (refine W_ops (id := 5) rfl ?_ <;> refine T_ch 2 rfl ?_ <;> (refine T_go rfl ?_; refine G_op (O_index rfl rfl rfl rfl rfl (by assumption)) ?_) <;> (refine T_go rfl ?_; refine G_true rfl rfl ?_) <;> refine T_ch 1 rfl ?_ <;> apply T_nil) | apply W_skip | apply W_block | apply W_ret | apply W_exit | refine W_true rfl (by assumption) ?_ | refine W_false rfl (by assumption) ?_ | refine W_cond rfl (fun _ => ?_) (fun _ => ?_)))
      exact ⟨_, rfl, cur, hstep, rfl⟩
    | false =>
      rw [hbv] at hrow hstep
      rw [if_neg (by simp)] at hstep
      have g1 : (h ++ [HObj.cells 3 (ic cur)])[h.length]? = some (.cells 3 (ic cur)) := by simp
      have him : i < m := by omega
      have l1 : 0 + m * 1 = (ic cur).length := by rw [ic_len]; omega
      have hs : h.length ≤ h.length ∧ (ic cur).length = (ic cur).length ∧ 1 = 1 ∧ (0 + i * 1) + 1 ≤ (ic cur).length := ⟨Nat.le_refl _, rfl, rfl, by rw [ic_len]; omega⟩
      (repeat' (first | apply W_seq | refine W_true rfl rfl ?_ | refine W_false rfl rfl ?_ | (refine W_ops (id := 3) rfl ?_ <;> refine T_ch 3 rfl ?_ <;> (refine T_go rfl ?_; refine G_true rfl (by with_reducible assumption) ?_) <;> apply T_nil) | refine W_region (id := 4) rfl rfl ?_ | (refine W_ops (id := 5) rfl ?_ <;> refine T_ch 2 rfl ?_ <;> (refine T_go rfl ?_; refine G_op (O_index rfl rfl rfl rfl rfl (by assumption)) ?_) <;> (refine T_go rfl ?_; refine G_false rfl rfl ?_) <;> refine T_ch 1 rfl ?_ <;> apply T_nil) | (refine W_ops (id := 6) rfl ?_ <;> refine T_ch 2 rfl ?_ <;> (refine T_go rfl ?_; refine G_op (O_indexH rfl rfl rfl rfl rfl (by assumption) (by assumption) (by assumption)) ?_) <;> (refine T_go rfl ?_; refine G_op (O_storeH rfl rfl rfl rfl (by assumption) (by assumption)) ?_) <;> apply T_nil) | apply W_skip | apply W_block | apply W_ret | apply W_exit | refine W_true rfl (by assumption) ?_ | refine W_false rfl (by assumption) ?_ | refine W_cond rfl (fun _ => ?_) (fun _ => ?_)))
      refine ⟨_, rfl, cur.set i 0, hstep, ?_⟩
      have : setCells (ic cur) (0 + i * 1) [.int .i64 0] = ic (cur.set i 0) := by rw [show 0 + i * 1 = i by omega]; exact ic_set _ (by omega)
      show (h ++ [HObj.cells 3 (ic cur)]).set h.length (.cells 3 (setCells (ic cur) (0 + i * 1) [.int .i64 0])) = _
      rw [this]
      simp
  · intro H' hJ
    obtain ⟨cur, hcur, rfl⟩ := hJ
    have hlt : decide ((lv.length : Int) < (m : Int)) = false := decide_eq_false (by omega)
    have hc : cur = zeroL st lv := by rw [hcur, List.take_of_length_le (by omega), List.take_of_length_le (Nat.le_refl _), List.drop_eq_nil_of_le (Nat.le_refl _), List.append_nil]
    subst hc
    have hzl : (zeroL st lv).length = m := by rw [zeroL_len]; exact hll
    have hzB := zeroL_B st hB
    have hrm := roomL_le hzB
    generalize zeroL st lv = z at *
    (repeat' (first | apply W_seq | refine W_true rfl rfl ?_ | refine W_false rfl rfl ?_ | (refine W_ops (id := 3) rfl ?_ <;> refine T_ch 3 rfl ?_ <;> (refine T_go rfl ?_; refine G_false rfl (by with_reducible assumption) ?_) <;> apply T_nil) | apply W_skip | apply W_block | apply W_ret | apply W_exit | refine W_true rfl (by assumption) ?_ | refine W_false rfl (by assumption) ?_ | refine W_cond rfl (fun _ => ?_) (fun _ => ?_)))
    generalize hF : fixN (fRa st body) 600 z = F at *
    apply W_while (S := inrS h ⟨w, vs, body⟩ st) (a0 := (z, .sl h.length 1 0 m, h ++ [.cells 3 (ic z)]))
      (fun a => a.1.length = m ∧ lvsB a.1 ∧ (a.2 = (.sl h.length 1 0 m, h ++ [.cells 3 (ic a.1)]) ∨ a.2 = (.vs 1 (intsC a.1), h ++ [.dead])) ∧ ∃ c, roomL a.1 < c ∧ fixN (fRa st body) c a.1 = F) (fun a => roomL a.1) (by show roomL z < k; omega) rfl ⟨hzl, hzB, .inl rfl, 600, by show roomL z < 600; omega, hF⟩
    intro a hJ
    obtain ⟨x, av, aH⟩ := a
    obtain ⟨j1, j2, j3, c, j4, j5⟩ := hJ
    dsimp only at j1 j2 j3 j4 j5
    obtain ⟨r1, r2, r3, _⟩ := raL_ok (st := st) body j1 j2 lvB0
    have hra : raL st body x 0 = fRa st body x := rfl
    rw [hra] at r1 r2 r3
    obtain ⟨_, r4⟩ := roomL_leL j2 r2 r3
    have hI := viaI (k := k) rfl (items_run body 0 K (by omega) (by omega) hb.2.2 (h ++ [.dead]) h.length) (by omega)
    have hRa := viaI (k := k) rfl (raise_run m hv1 hv2 st hst (K + 1) body x 0 0 (by omega) hN (by omega) hb.2.2 hvm j1 j2 lvB0 (h ++ [.dead]) h.length) (by omega)
    rw [hra] at hRa
    have hWs := viaI (k := k) rfl (wsame_run (fRa st body x) x (by omega) K (by omega) (h ++ [.dead]) h.length) (by omega)
    obtain ⟨c, rfl⟩ : ∃ c', c = c' + 1 := ⟨c - 1, by omega⟩
    rw [fixN] at j5
    generalize fRa st body x = fx at *
    rcases j3 with j3 | j3
    · injection j3 with q1 q2
      subst q1 q2
      have hfz := inr_frz h ⟨w, vs, body⟩ st x
      rw [j1] at hfz
      by_cases hs : fx = x
      · rw [if_pos hs] at j5
        rw [decide_eq_true hs] at hWs
        subst j5
        have hFx := viaI (k := k) rfl (FixedR_run x ⟨w, vs, body⟩ K (by dsimp only; omega) hN hb (by rw [j1, ← hm]; exact vmL_rd (by rw [hm]; exact hvm)) (h ++ [.dead]) h.length) (by omega)
        dsimp only at hFx
        generalize fixRL x body 0 0 = R at hFx hV
        cases R with
        | nil =>
          rw [if_pos rfl] at hV
          subst hV
          (repeat' (first | apply W_seq | refine W_true rfl rfl ?_ | refine W_false rfl rfl ?_ | (refine W_opsF (id := 7) (by first | assumption | exact frz_one rfl (by assumption) (by assumption)) ?_ <;> refine T_ch 4 rfl ?_ <;> (refine T_go rfl ?_; refine G_op (O_call rfl rfl rfl rfl (by assumption)) ?_) <;> (refine T_go rfl ?_; refine G_op (O_call rfl rfl rfl rfl (by assumption)) ?_) <;> refine T_ch 1 rfl ?_ <;> apply T_nil) | (refine W_ops (id := 8) rfl ?_ <;> refine T_ch 2 rfl ?_ <;> (refine T_go rfl ?_; refine G_true (O_call rfl rfl rfl rfl (by assumption)) rfl ?_) <;> apply T_nil) | (refine W_ops (id := 10) rfl ?_ <;> refine T_ch 2 rfl ?_ <;> (refine T_go rfl ?_; refine G_op (O_call rfl rfl rfl rfl (by assumption)) ?_) <;> refine T_ch 1 rfl ?_ <;> (refine T_go rfl ?_; refine G_false rfl rfl ?_) <;> apply T_nil) | refine W_region (id := 12) rfl rfl ?_ | apply W_skip | apply W_block | apply W_ret | apply W_exit | refine W_true rfl (by assumption) ?_ | refine W_false rfl (by assumption) ?_ | refine W_cond rfl (fun _ => ?_) (fun _ => ?_)))
          exact ⟨.inl rfl, rfl⟩
        | cons r R =>
          rw [if_neg (by simp)] at hV
          subst hV
          have hgt : decide ((((r :: R).length : Nat) : Int) > 0) = true := decide_eq_true (by simp)
          (repeat' (first | apply W_seq | refine W_true rfl rfl ?_ | refine W_false rfl rfl ?_ | (refine W_opsF (id := 7) (by first | assumption | exact frz_one rfl (by assumption) (by assumption)) ?_ <;> refine T_ch 4 rfl ?_ <;> (refine T_go rfl ?_; refine G_op (O_call rfl rfl rfl rfl (by assumption)) ?_) <;> (refine T_go rfl ?_; refine G_op (O_call rfl rfl rfl rfl (by assumption)) ?_) <;> refine T_ch 1 rfl ?_ <;> apply T_nil) | (refine W_ops (id := 8) rfl ?_ <;> refine T_ch 2 rfl ?_ <;> (refine T_go rfl ?_; refine G_true (O_call rfl rfl rfl rfl (by assumption)) rfl ?_) <;> apply T_nil) | (refine W_ops (id := 10) rfl ?_ <;> refine T_ch 2 rfl ?_ <;> (refine T_go rfl ?_; refine G_op (O_call rfl rfl rfl rfl (by assumption)) ?_) <;> refine T_ch 1 rfl ?_ <;> (refine T_go rfl ?_; refine G_true rfl (by with_reducible assumption) ?_) <;> apply T_nil) | refine W_region (id := 11) rfl rfl ?_ | apply W_skip | apply W_block | apply W_ret | apply W_exit | refine W_true rfl (by assumption) ?_ | refine W_false rfl (by assumption) ?_ | refine W_cond rfl (fun _ => ?_) (fun _ => ?_)))
          exact ⟨.inl rfl, rfl⟩
      · rw [if_neg hs] at j5
        rw [decide_eq_false hs] at hWs
        have hlt3 : roomL fx < roomL x := by
          rcases r4 with r4 | r4
          · exact absurd r4.symm hs
          · exact r4
        (repeat' (first | apply W_seq | refine W_true rfl rfl ?_ | refine W_false rfl rfl ?_ | (refine W_opsF (id := 7) (by first | assumption | exact frz_one rfl (by assumption) (by assumption)) ?_ <;> refine T_ch 4 rfl ?_ <;> (refine T_go rfl ?_; refine G_op (O_call rfl rfl rfl rfl (by assumption)) ?_) <;> (refine T_go rfl ?_; refine G_op (O_call rfl rfl rfl rfl (by assumption)) ?_) <;> refine T_ch 1 rfl ?_ <;> apply T_nil) | (refine W_ops (id := 8) rfl ?_ <;> refine T_ch 2 rfl ?_ <;> (refine T_go rfl ?_; refine G_false (O_call rfl rfl rfl rfl (by assumption)) rfl ?_) <;> apply T_nil) | refine W_region (id := 9) rfl rfl ?_ | apply W_skip | apply W_block | apply W_ret | apply W_exit | refine W_true rfl (by assumption) ?_ | refine W_false rfl (by assumption) ?_ | refine W_cond rfl (fun _ => ?_) (fun _ => ?_)))
        exact ⟨(fx, .vs 1 (intsC fx), h ++ [.dead]), rfl, ⟨r1, r2, .inr rfl, c, by show roomL fx < c; omega, j5⟩, hlt3⟩
    · injection j3 with q1 q2
      subst q1 q2
      have hfz : frzSlots [6] (inrS h ⟨w, vs, body⟩ st (x, .vs 1 (intsC x), h ++ [.dead])) = inrS h ⟨w, vs, body⟩ st (x, .vs 1 (intsC x), h ++ [.dead]) := rfl
      by_cases hs : fx = x
      · rw [if_pos hs] at j5
        rw [decide_eq_true hs] at hWs
        subst j5
        have hFx := viaI (k := k) rfl (FixedR_run x ⟨w, vs, body⟩ K (by dsimp only; omega) hN hb (by rw [j1, ← hm]; exact vmL_rd (by rw [hm]; exact hvm)) (h ++ [.dead]) h.length) (by omega)
        dsimp only at hFx
        generalize fixRL x body 0 0 = R at hFx hV
        cases R with
        | nil =>
          rw [if_pos rfl] at hV
          subst hV
          (repeat' (first | apply W_seq | refine W_true rfl rfl ?_ | refine W_false rfl rfl ?_ | (refine W_opsF (id := 7) (by first | assumption | exact frz_one rfl (by assumption) (by assumption)) ?_ <;> refine T_ch 4 rfl ?_ <;> (refine T_go rfl ?_; refine G_op (O_call rfl rfl rfl rfl (by assumption)) ?_) <;> (refine T_go rfl ?_; refine G_op (O_call rfl rfl rfl rfl (by assumption)) ?_) <;> refine T_ch 1 rfl ?_ <;> apply T_nil) | (refine W_ops (id := 8) rfl ?_ <;> refine T_ch 2 rfl ?_ <;> (refine T_go rfl ?_; refine G_true (O_call rfl rfl rfl rfl (by assumption)) rfl ?_) <;> apply T_nil) | (refine W_ops (id := 10) rfl ?_ <;> refine T_ch 2 rfl ?_ <;> (refine T_go rfl ?_; refine G_op (O_call rfl rfl rfl rfl (by assumption)) ?_) <;> refine T_ch 1 rfl ?_ <;> (refine T_go rfl ?_; refine G_false rfl rfl ?_) <;> apply T_nil) | refine W_region (id := 12) rfl rfl ?_ | apply W_skip | apply W_block | apply W_ret | apply W_exit | refine W_true rfl (by assumption) ?_ | refine W_false rfl (by assumption) ?_ | refine W_cond rfl (fun _ => ?_) (fun _ => ?_)))
          exact ⟨.inl rfl, rfl⟩
        | cons r R =>
          rw [if_neg (by simp)] at hV
          subst hV
          have hgt : decide ((((r :: R).length : Nat) : Int) > 0) = true := decide_eq_true (by simp)
          (repeat' (first | apply W_seq | refine W_true rfl rfl ?_ | refine W_false rfl rfl ?_ | (refine W_opsF (id := 7) (by first | assumption | exact frz_one rfl (by assumption) (by assumption)) ?_ <;> refine T_ch 4 rfl ?_ <;> (refine T_go rfl ?_; refine G_op (O_call rfl rfl rfl rfl (by assumption)) ?_) <;> (refine T_go rfl ?_; refine G_op (O_call rfl rfl rfl rfl (by assumption)) ?_) <;> refine T_ch 1 rfl ?_ <;> apply T_nil) | (refine W_ops (id := 8) rfl ?_ <;> refine T_ch 2 rfl ?_ <;> (refine T_go rfl ?_; refine G_true (O_call rfl rfl rfl rfl (by assumption)) rfl ?_) <;> apply T_nil) | (refine W_ops (id := 10) rfl ?_ <;> refine T_ch 2 rfl ?_ <;> (refine T_go rfl ?_; refine G_op (O_call rfl rfl rfl rfl (by assumption)) ?_) <;> refine T_ch 1 rfl ?_ <;> (refine T_go rfl ?_; refine G_true rfl (by with_reducible assumption) ?_) <;> apply T_nil) | refine W_region (id := 11) rfl rfl ?_ | apply W_skip | apply W_block | apply W_ret | apply W_exit | refine W_true rfl (by assumption) ?_ | refine W_false rfl (by assumption) ?_ | refine W_cond rfl (fun _ => ?_) (fun _ => ?_)))
          exact ⟨.inl rfl, rfl⟩
      · rw [if_neg hs] at j5
        rw [decide_eq_false hs] at hWs
        have hlt3 : roomL fx < roomL x := by
          rcases r4 with r4 | r4
          · exact absurd r4.symm hs
          · exact r4
        (repeat' (first | apply W_seq | refine W_true rfl rfl ?_ | refine W_false rfl rfl ?_ | (refine W_opsF (id := 7) (by first | assumption | exact frz_one rfl (by assumption) (by assumption)) ?_ <;> refine T_ch 4 rfl ?_ <;> (refine T_go rfl ?_; refine G_op (O_call rfl rfl rfl rfl (by assumption)) ?_) <;> (refine T_go rfl ?_; refine G_op (O_call rfl rfl rfl rfl (by assumption)) ?_) <;> refine T_ch 1 rfl ?_ <;> apply T_nil) | (refine W_ops (id := 8) rfl ?_ <;> refine T_ch 2 rfl ?_ <;> (refine T_go rfl ?_; refine G_false (O_call rfl rfl rfl rfl (by assumption)) rfl ?_) <;> apply T_nil) | refine W_region (id := 9) rfl rfl ?_ | apply W_skip | apply W_block | apply W_ret | apply W_exit | refine W_true rfl (by assumption) ?_ | refine W_false rfl (by assumption) ?_ | refine W_cond rfl (fun _ => ?_) (fun _ => ?_)))
        exact ⟨(fx, .vs 1 (intsC fx), h ++ [.dead]), rfl, ⟨r1, r2, .inr rfl, c, by show roomL fx < c; omega, j5⟩, hlt3⟩
end Go.Proofs.Ytelobnllkhnpaaa.L
/- Types that move, in the program: moved, with any callback that is told of the places. -/
open Go Go.Proofs Go.Ev Go.Proofs.Ytelobnllkhnpaaa.E
namespace Go.Proofs.Ytelobnllkhnpaaa.L
set_option linter.unusedVariables false
set_option linter.unusedSimpArgs false
set_option maxHeartbeats 2000000
set_option maxRecDepth 100000

/-- Objects that are not somebody's own stay; what is owned later was owned before, or is new. -/
def Fr (h : Heap) (O : Nat → Prop) (h' : Heap) (O' : Nat → Prop) : Prop := h.length ≤ h'.length ∧ (∀ i, i < h.length → ¬ O i → h'[i]? = h[i]?) ∧ ∀ i, O' i → O i ∨ h.length ≤ i
theorem Fr.refl (h : Heap) (O : Nat → Prop) : Fr h O h O := ⟨Nat.le_refl _, fun _ _ _ => rfl, fun _ h => .inl h⟩
theorem Fr.trans {h h1 h2 : Heap} {O O1 O2 : Nat → Prop} (a : Fr h O h1 O1) (b : Fr h1 O1 h2 O2) : Fr h O h2 O2 := by
  obtain ⟨a1, a2, a3⟩ := a
  obtain ⟨b1, b2, b3⟩ := b
  refine ⟨Nat.le_trans a1 b1, fun i hi ho => ?_, fun i hi => ?_⟩
  · rw [b2 i (Nat.lt_of_lt_of_le hi a1) (fun e => by rcases a3 i e with q | q
                                                     · exact ho q
                                                     · omega), a2 i hi ho]
  · rcases b3 i hi with q | q
    · exact a3 i q
    · exact .inr (Nat.le_trans a1 q)
theorem Fr.get {h h' : Heap} {O O' : Nat → Prop} (a : Fr h O h' O') {i : Nat} {o : HObj} (hg : h[i]? = some o) (hn : ¬ O i) : h'[i]? = some o := by
  rw [a.2.1 i (cells_lt hg) hn, hg]
theorem Fr.not {h h' : Heap} {O O' : Nat → Prop} (a : Fr h O h' O') {i : Nat} (hi : i < h.length) (hn : ¬ O i) : ¬ O' i := fun e => by
  rcases a.2.2 i e with q | q
  · exact hn q
  · omega
theorem Fr.set {h h1 : Heap} {O O1 : Nat → Prop} (a : Fr h O h1 O1) {id : Nat} (hid : h.length ≤ id) (o : HObj) : Fr h O (h1.set id o) O1 := by
  obtain ⟨a1, a2, a3⟩ := a
  refine ⟨by simpa using a1, fun i hi ho => ?_, a3⟩
  rw [List.getElem?_set_ne (by omega), a2 i hi ho]
theorem Fr.app {h h1 : Heap} {O O1 : Nat → Prop} (a : Fr h O h1 O1) (more : Heap) : Fr h O (h1 ++ more) O1 := by
  obtain ⟨a1, a2, a3⟩ := a
  refine ⟨by simp; omega, fun i hi ho => ?_, a3⟩
  rw [List.getElem?_append_left (by omega), a2 i hi ho]

/-- A callback: its state, what it does to it, how that lies in the heap. -/
structure See where
  σ : Type
  upd : σ → Int → Sm' → List Int → Int → σ
  B : Nat → σ → Heap → (Nat → Prop) → Prop
  f : Nat
  caps : List AV
structure SeeOk (S : See) (m lo kY : Nat) : Prop where
  frame : ∀ {b x h O h'}, S.B b x h O → h.length ≤ h'.length → (∀ i, O i → h'[i]? = h[i]?) → S.B b x h' O
  mono : ∀ {b b' x h O}, S.B b x h O → b' ≤ b → S.B b' x h O
  rng : ∀ {b x h O i}, S.B b x h O → O i → i < h.length
  run : ∀ (k b : Nat) (x : S.σ) (h : Heap) (O : Nat → Prop) (id : Nat) (lv : List Int) (ar n : Int) (s : Sm'), S.B (b + 1) x h O → h[id]? = some (.cells 3 (ic lv)) → ¬ O id → lv.length = m → lvsB lv → lvB ar → smK s + kY ≤ k → smB s → vm1 m s → lo ≤ h.length →
    ∃ (h' : Heap) (O' : Nat → Prop), call Try.prog cfg k lo (.func S.f) ([.int .i64 n, .agg (smC s), .sl id 1 0 m, .int .i64 ar] ++ S.caps) h = some (.tup [], h') ∧ S.B b (S.upd x n s lv ar) h' O' ∧ Fr h O h' O'
/-- The callback that does nothing. -/
def see0 : See := { σ := Unit, upd := fun _ _ _ _ _ => (), B := fun _ _ _ O => ∀ i, ¬ O i, f := 120, caps := [] }
theorem see0_ok (m lo : Nat) : SeeOk see0 m lo 0 where
  frame h _ _ := h
  mono h _ := h
  rng h ho := absurd ho (h _)
  run k b x h O id lv ar n s hB _ _ _ _ _ hk _ _ _ := by
    obtain ⟨op, nn, a, t, e⟩ := s
    rw [smK] at hk
    have := see0_run (k - 1) lo (.int .i64 n) .nils (.sl id 1 0 m) (.int .i64 ar) h op nn a t e
    rw [show k - 1 + 1 = k by omega] at this
    exact ⟨h, O, this, hB, Fr.refl h O⟩

structure MA (σ : Type) where
  lv : List Int
  x : σ
  n : Int
  H : Heap
  O : Nat → Prop
  id : Nat
structure MW where
  lv : List Int
  H : Heap
  id : Nat
def mvS {σ : Type} (lo m : Nat) (ar : Int) (l : List Sm') (f : Nat) (caps : List AV) (i : Int) (a : MA σ) : St :=
  { env := [(1, .v (.sl a.id 1 0 m)), (2, .v (.int .i64 ar)), (3, .v (.int .i64 a.n)), (4, .v (.fn (.func f) caps)), (24, .v (.vs 5 (smsC l))), (25, .v (.int .i64 (smsC l).length)), (26, .v (.int .i64 i))], loc := [], heap := a.H, inRound := false, lo := lo }
def mwS (lo m : Nat) (ar : Int) (l : List Sm') (f : Nat) (caps : List AV) (i n n1 : Int) (st : Sm') (a : MW) : St :=
  { env := [(1, .v (.sl a.id 1 0 m)), (2, .v (.int .i64 ar)), (3, .v (.int .i64 n1)), (4, .v (.fn (.func f) caps)), (13, .p 13 0), (14, .v (.int .i64 n)), (24, .v (.vs 5 (smsC l))), (25, .v (.int .i64 (smsC l).length)), (26, .v (.int .i64 i))], loc := [(13, smC st)], heap := a.H, inRound := false, lo := lo }
def fP (t : List Sm') (a : List Ex') (ar : Int) (x : List Int) : List Int := joinL x (mvL putP ofH t x (orI ar (ofH x a)))
set_option maxHeartbeats 4000000 in
theorem moved_run (m : Nat) (hm1 : 1 ≤ m) (hm2 : m ≤ 18) : ∀ (k : Nat) (S : See) (lo kY : Nat), SeeOk S m lo kY → ∀ (l : List Sm') (lv : List Int) (ar n : Int) (x : S.σ) (h : Heap) (O : Nat → Prop) (v : AV) (b : Nat),
    smsK l + kY + 1300 ≤ k → l.length < 9223372036854775808 → smsB l → vmL m l → lv.length = m → lvsB lv → lvB ar → LvArg h v lv → lo ≤ h.length → S.B (scs l + b) x h O →
    ∃ (id : Nat) (h' : Heap) (O' : Nat → Prop), call Try.prog cfg k lo (.func 93) [.vs 5 (smsC l), v, .int .i64 ar, .int .i64 n, .fn (.func S.f) S.caps] h = some (.tup [.sl id 1 0 m, .int .i64 (spL putP ofH S.upd l lv ar x n).2], h') ∧
      h'[id]? = some (.cells 3 (ic (mvL putP ofH l lv ar))) ∧ S.B b (spL putP ofH S.upd l lv ar x n).1 h' O' ∧ Fr h O h' O' ∧ ¬ O' id ∧ h.length ≤ id
  | 0, S, lo, kY, hS, l, lv, ar, n, x, h, O, v, b, hk, _, _, _, _, _, _, _, _, _ => by omega
  | k + 1, S, lo, kY, hS, l, lv, ar, n, x, h, O, v, b, hk, hlen, hb, hvm, hlv, hB, har, hv, hlo, hSB => by
    have hMv := mvP_ok m
    have hll := smsK_len l
    have hne : lv ≠ [] := fun e => by subst e; simp at hlv; omega
    have hC := cloneI_run hlo hv hne (by omega) (k - 1)
    rw [show k - 1 + 1 = k by omega, hlv] at hC
    have key : ∃ out : AV × Heap, call Try.prog cfg (k + 1) lo (.func 93) [.vs 5 (smsC l), v, .int .i64 ar, .int .i64 n, .fn (.func S.f) S.caps] h = some out ∧ ∃ e : MA S.σ, out = (.tup [.sl e.id 1 0 m, .int .i64 e.n], e.H) ∧
        e.lv.length = m ∧ lvsB e.lv ∧ e.H[e.id]? = some (.cells 3 (ic e.lv)) ∧ ¬ e.O e.id ∧ h.length ≤ e.id ∧ S.B (scs [] + b) e.x e.H e.O ∧ Fr h O e.H e.O ∧ mvL putP ofH [] e.lv ar = mvL putP ofH l lv ar ∧ spL putP ofH S.upd [] e.lv ar e.x e.n = spL putP ofH S.upd l lv ar x n := by
      have hvv : ∃ q, v = q ∧ LvArg h q lv := ⟨v, rfl, hv⟩
      apply W_callP Try.func93 rfl (Nat.le_of_ble_eq_true rfl) rfl rfl
      (repeat' (first | apply W_seq | refine W_true rfl rfl ?_ | refine W_false rfl rfl ?_ | refine W_region (id := 0) rfl rfl ?_ | (refine W_ops (id := 1) rfl ?_ <;> refine T_ch 1 rfl ?_ <;> (refine T_go rfl ?_; refine G_op (O_call rfl rfl rfl rfl (by assumption)) ?_) <;> refine T_ch 1 rfl ?_ <;> apply T_nil) | refine W_region (id := 2) rfl rfl ?_ | apply W_skip | apply W_block | apply W_ret | apply W_exit | refine W_true rfl (by assumption) ?_ | refine W_false rfl (by assumption) ?_ | refine W_cond rfl (fun _ => ?_) (fun _ => ?_)))
      apply W_iter (S := mvS lo m ar l S.f S.caps) (l := l) (a0 := ⟨lv, x, n, h ++ [.cells 3 (ic lv)], O, h.length⟩)
        (fun rest a => a.lv.length = m ∧ lvsB a.lv ∧ a.H[a.id]? = some (.cells 3 (ic a.lv)) ∧ ¬ a.O a.id ∧ h.length ≤ a.id ∧ S.B (scs rest + b) a.x a.H a.O ∧ Fr h O a.H a.O ∧ mvL putP ofH rest a.lv ar = mvL putP ofH l lv ar ∧ spL putP ofH S.upd rest a.lv ar a.x a.n = spL putP ofH S.upd l lv ar x n) hlen (by omega) rfl
        ⟨hlv, hB, by simp, fun e => absurd (hS.rng hSB e) (Nat.lt_irrefl _), Nat.le_refl _, hS.frame hSB (by simp) (fun i hi => List.getElem?_append_left (hS.rng hSB hi)), (Fr.refl h O).app _, rfl, rfl⟩
      · intro i st rest a hi hd hil hJ
        obtain ⟨alv, ax, an, aH, aO, aid⟩ := a
        obtain ⟨j1, j2, j3, j4, j5, j6, j7, j8, j9⟩ := hJ
        dsimp only at j1 j2 j3 j4 j5 j6 j7 j8 j9
        have hlt := lt_sms hil
        have hrow := smsC_get _ _ _ hi
        have hmem := smsK_mem2 l i _ hi
        have hbm := smsB_mem l i _ hb hi
        have hvm1 := vmL_mem hvm hi
        obtain ⟨q1, q2⟩ := mv1_ok hMv st alv ar j1 j2 har hvm1
        have hloH : lo ≤ aH.length := Nat.le_trans hlo j7.1
        have hloid : lo ≤ aid := Nat.le_trans hlo j5
        rw [mvL] at j8
        rw [spL] at j9
        rw [scs] at j6
        obtain ⟨op, nn, a, t, e⟩ := st
        have hbm' := hbm
        have hvm1' := hvm1
        rw [smK] at hmem
        rw [smB] at hbm
        rw [vm1] at hvm1
        obtain ⟨⟨ha1, ha2⟩, ⟨ht1, ht2⟩, he1, he2⟩ := hbm
        obtain ⟨r1, r2, r3, r4, r5⟩ := hvm1
        have hla := exsK_len a
        have hsc : sc1 (.mk op nn a t e) = 1 + scs t + scs e := by rw [sc1]
        have hmk : smK (.mk op nn a t e) = exsK a + smsK t + smsK e + 1 := by rw [smK]
        by_cases o1 : op = 1
        · have c1 : (op == 1) = true := by simp [o1]
          obtain ⟨x0, rfl⟩ := r3 (.inl o1)
          have hx0 : (exsC [x0])[0]? = some (exC x0) := rfl
          have hxk : exK x0 ≤ exsK [x0] := exsK_mem [x0] 0 x0 rfl
          obtain ⟨H1, O1, s1, s2, s3⟩ := hS.run k (scs t + (scs e + (scs rest + b))) ax aH aO aid alv ar an _ (hS.mono j6 (by omega)) j3 j4 j1 j2 har (by omega) hbm' hvm1' hloH
          have n1 := s3.not (cells_lt j3) j4
          have g1 := s3.get j3 j4
          have hO := ofV_run g1 x0 (k - 1) (by omega) ha2.1 (by rw [j1]; exact r1.1) lo
          rw [show k - 1 + 1 = k by omega, j1] at hO
          have hfB : lvB (orI ar (ofE alv x0)) := orI_B har (ofE_B j2 x0)
          obtain ⟨id2, H2, O2, m1, m2, m3, m4, m5, m6⟩ := moved_run m hm1 hm2 k S lo kY hS t alv (orI ar (ofE alv x0)) (IntKind.i64.wrap (an + 1)) _ H1 O1 (.sl aid 1 0 m) (scs e + (scs rest + b)) (by omega) ht1 ht2 r4 j1 j2 hfB (.inr ⟨aid, by rw [j1], g1⟩) (Nat.le_trans hloH s3.1) s2
          have n2 := m4.not (cells_lt g1) n1
          have g2 := m4.get g1 n1
          obtain ⟨id3, H3, O3, e1, e2, e3, e4, e5, e6⟩ := moved_run m hm1 hm2 k S lo kY hS e alv (orI ar (ofE alv x0)) (spL putP ofH S.upd t alv (orI ar (ofE alv x0)) (S.upd ax an (.mk op nn [x0] t e) alv ar) (IntKind.i64.wrap (an + 1))).2 _ H2 O2 (.sl aid 1 0 m) (scs rest + b) (by omega) he1 he2 r5 j1 j2 hfB (.inr ⟨aid, by rw [j1], g2⟩) (Nat.le_trans (Nat.le_trans hloH s3.1) m4.1) m3
          have g3 := e4.get m2 m5
          obtain ⟨t1, t2⟩ := mvL_ok hMv t alv (orI ar (ofE alv x0)) j1 j2 hfB r4
          obtain ⟨u1, u2⟩ := mvL_ok hMv e alv (orI ar (ofE alv x0)) j1 j2 hfB r5
          have hT := together_run (Nat.le_trans (Nat.le_trans (Nat.le_trans hloH s3.1) m4.1) e4.1) g3 e2 t1 u1 hm1 (by omega) (k - 1) (by omega)
          rw [show k - 1 + 1 = k by omega] at hT
          have hm : mv1 putP ofH (.mk op nn [x0] t e) alv ar = joinL (mvL putP ofH t alv (orI ar (ofE alv x0))) (mvL putP ofH e alv (orI ar (ofE alv x0))) := by rw [mv1, if_pos o1]; rfl
          have hsp : sp1 putP ofH S.upd (.mk op nn [x0] t e) alv ar ax an = spL putP ofH S.upd e alv (orI ar (ofE alv x0)) (spL putP ofH S.upd t alv (orI ar (ofE alv x0)) (S.upd ax an (.mk op nn [x0] t e) alv ar) (IntKind.i64.wrap (an + 1))).1 (spL putP ofH S.upd t alv (orI ar (ofE alv x0)) (S.upd ax an (.mk op nn [x0] t e) alv ar) (IntKind.i64.wrap (an + 1))).2 := by rw [sp1, if_pos o1]; rfl
          rw [hm] at j8 j9 q1 q2
          rw [hsp] at j9
          have hFr : Fr h O H3 O3 := j7.trans (s3.trans (m4.trans e4))
          have hrg := fun i hi => hS.rng (i := i) e3 hi
          have hBf := hS.frame (h' := H3 ++ [.cells 3 (ic (joinL (mvL putP ofH t alv (orI ar (ofE alv x0))) (mvL putP ofH e alv (orI ar (ofE alv x0)))))]) e3 (by simp) (fun i hi => List.getElem?_append_left (hrg i hi))
          generalize spL putP ofH S.upd t alv (orI ar (ofE alv x0)) (S.upd ax an (.mk op nn [x0] t e) alv ar) (IntKind.i64.wrap (an + 1)) = X1 at *
          generalize spL putP ofH S.upd e alv (orI ar (ofE alv x0)) X1.1 X1.2 = X2 at *
          generalize joinL (mvL putP ofH t alv (orI ar (ofE alv x0))) (mvL putP ofH e alv (orI ar (ofE alv x0))) = J at *
          obtain ⟨xo, xn, xc, xs⟩ := x0
          (repeat' (first | apply W_seq | refine W_true rfl rfl ?_ | refine W_false rfl rfl ?_ | (refine W_ops (id := 3) rfl ?_ <;> (refine T_go rfl ?_; refine G_true rfl (by with_reducible assumption) ?_) <;> apply T_nil) | (refine W_ops (id := 4) rfl ?_ <;> (refine T_go rfl ?_; refine G_op (O_index rfl rfl rfl rfl rfl (by assumption)) ?_) <;> (refine T_go rfl ?_; refine G_op rfl ?_) <;> refine T_ch 2 rfl ?_ <;> apply T_nil) | refine W_region (id := 5) rfl rfl ?_ | refine W_region (id := 6) rfl rfl ?_ | refine W_region (id := 7) rfl rfl ?_ | (refine W_ops (id := 10) rfl ?_ <;> (refine T_go rfl ?_; refine G_true rfl (by with_reducible assumption) ?_) <;> refine T_ch 1 rfl ?_ <;> apply T_nil) | (refine W_ops (id := 11) rfl ?_ <;> refine T_ch 5 rfl ?_ <;> (refine T_go rfl ?_; refine G_op (O_call rfl rfl rfl rfl (by assumption)) ?_) <;> apply T_nil) | (refine W_ops (id := 12) rfl ?_ <;> refine T_ch 4 rfl ?_ <;> (refine T_go rfl ?_; refine G_op (O_index rfl rfl rfl rfl rfl (by assumption)) ?_) <;> (refine T_go rfl ?_; refine G_op rfl ?_) <;> (refine T_go rfl ?_; refine G_op (O_call rfl rfl rfl rfl (by assumption)) ?_) <;> refine T_ch 2 rfl ?_ <;> apply T_nil) | (refine W_ops (id := 13) rfl ?_ <;> refine T_ch 6 rfl ?_ <;> (refine T_go rfl ?_; refine G_op (O_call rfl rfl rfl rfl (by assumption)) ?_) <;> refine T_ch 5 rfl ?_ <;> apply T_nil) | (refine W_ops (id := 14) rfl ?_ <;> refine T_ch 6 rfl ?_ <;> (refine T_go rfl ?_; refine G_op (O_call rfl rfl rfl rfl (by assumption)) ?_) <;> refine T_ch 5 rfl ?_ <;> apply T_nil) | (refine W_ops (id := 15) rfl ?_ <;> refine T_ch 2 rfl ?_ <;> (refine T_go rfl ?_; refine G_op (O_call rfl rfl rfl rfl (by assumption)) ?_) <;> refine T_ch 3 rfl ?_ <;> apply T_nil) | refine W_region (id := 23) rfl rfl ?_ | apply W_skip | apply W_block | apply W_ret | apply W_exit | refine W_true rfl (by assumption) ?_ | refine W_false rfl (by assumption) ?_ | refine W_cond rfl (fun _ => ?_) (fun _ => ?_)))
          exact ⟨⟨J, X2.1, X2.2, H3 ++ [.cells 3 (ic J)], O3, H3.length⟩, rfl, q1, q2, by simp, fun q => absurd (hrg _ q) (Nat.lt_irrefl _), hFr.1, hBf, hFr.app _, j8, j9⟩
        have c1 : (op == 1) = false := by simp [o1]
        by_cases o2 : op = 2
        · have c2 : (op == 2) = true := by simp [o2]
          obtain ⟨x0, rfl⟩ := r3 (.inr o2)
          have hx0 : (exsC [x0])[0]? = some (exC x0) := rfl
          have hxk : exK x0 ≤ exsK [x0] := exsK_mem [x0] 0 x0 rfl
          have hm : mv1 putP ofH (.mk op nn [x0] t e) alv ar = fixN (fP t [x0] ar) 600 alv := by rw [mv1, if_neg o1, if_pos o2]; rfl
          have hsp : sp1 putP ofH S.upd (.mk op nn [x0] t e) alv ar ax an = spL putP ofH S.upd t (fixN (fP t [x0] ar) 600 alv) (orI ar (ofE (fixN (fP t [x0] ar) 600 alv) x0)) (S.upd ax an (.mk op nn [x0] t e) (fixN (fP t [x0] ar) 600 alv) ar) (IntKind.i64.wrap (an + 1)) := by rw [sp1, if_neg o1, if_pos o2, hm]; rfl
          rw [hm] at j8 j9 q1 q2
          rw [hsp] at j9
          have hrm := roomL_le j2
          have hrg := fun i hi => hS.rng (i := i) j6 hi
          generalize hF : fixN (fP t [x0] ar) 600 alv = F at *
          (repeat' (first | apply W_seq | refine W_true rfl rfl ?_ | refine W_false rfl rfl ?_ | (refine W_ops (id := 3) rfl ?_ <;> (refine T_go rfl ?_; refine G_true rfl (by with_reducible assumption) ?_) <;> apply T_nil) | (refine W_ops (id := 4) rfl ?_ <;> (refine T_go rfl ?_; refine G_op (O_index rfl rfl rfl rfl rfl (by assumption)) ?_) <;> (refine T_go rfl ?_; refine G_op rfl ?_) <;> refine T_ch 2 rfl ?_ <;> apply T_nil) | refine W_region (id := 5) rfl rfl ?_ | refine W_region (id := 6) rfl rfl ?_ | refine W_region (id := 7) rfl rfl ?_ | (refine W_ops (id := 10) rfl ?_ <;> (refine T_go rfl ?_; refine G_false rfl (by with_reducible assumption) ?_) <;> refine T_ch 1 rfl ?_ <;> apply T_nil) | (refine W_ops (id := 16) rfl ?_ <;> (refine T_go rfl ?_; refine G_true rfl (by with_reducible assumption) ?_) <;> refine T_ch 1 rfl ?_ <;> apply T_nil) | apply W_skip | apply W_block | apply W_ret | apply W_exit | refine W_true rfl (by assumption) ?_ | refine W_false rfl (by assumption) ?_ | refine W_cond rfl (fun _ => ?_) (fun _ => ?_)))
          apply W_while (S := mwS lo m ar l S.f S.caps i an (IntKind.i64.wrap (an + 1)) (.mk op nn [x0] t e)) (a0 := ⟨alv, aH, aid⟩)
            (fun q => q.lv.length = m ∧ lvsB q.lv ∧ q.H[q.id]? = some (.cells 3 (ic q.lv)) ∧ ¬ aO q.id ∧ h.length ≤ q.id ∧ Fr aH (fun _ => False) q.H (fun _ => False) ∧ ∃ c, roomL q.lv < c ∧ fixN (fP t [x0] ar) c q.lv = F) (fun q => roomL q.lv) (by show roomL alv < k; omega) rfl ⟨j1, j2, j3, j4, j5, Fr.refl _ _, 600, by show roomL alv < 600; omega, hF⟩
          intro q hq
          obtain ⟨qlv, qH, qid⟩ := q
          obtain ⟨w1, w2, w3, w4, w5, w6, c, w7, w8⟩ := hq
          dsimp only at w1 w2 w3 w4 w5 w6 w7 w8
          have hloq : lo ≤ qH.length := Nat.le_trans hloH w6.1
          have hO := ofV_run w3 x0 (k - 1) (by omega) ha2.1 (by rw [w1]; exact r1.1) qH.length
          rw [show k - 1 + 1 = k by omega, w1] at hO
          have hfB : lvB (orI ar (ofE qlv x0)) := orI_B har (ofE_B w2 x0)
          obtain ⟨id2, H2, O2, m1, m2, m3, m4, m5, m6⟩ := moved_run m hm1 hm2 k see0 lo 0 (see0_ok m lo) t qlv (orI ar (ofE qlv x0)) (IntKind.i64.wrap (an + 1)) () qH (fun _ => False) (.sl qid 1 0 m) 0 (by omega) ht1 ht2 r4 w1 w2 hfB (.inr ⟨qid, by rw [w1], w3⟩) hloq (fun _ h => h)
          have m1' : call Try.prog cfg k lo (.func 93) [.vs 5 (smsC t), .sl qid 1 0 m, .int .i64 (orI ar (ofE qlv x0)), .int .i64 (IntKind.i64.wrap (an + 1)), .fn (.func 120) []] qH = some (.tup [.sl id2 1 0 m, .int .i64 (spL putP ofH see0.upd t qlv (orI ar (ofE qlv x0)) () (IntKind.i64.wrap (an + 1))).2], H2) := m1
          clear m1
          generalize (spL putP ofH see0.upd t qlv (orI ar (ofE qlv x0)) () (IntKind.i64.wrap (an + 1))).2 = nx at m1'
          have g2 := m4.get w3 (fun h => h)
          obtain ⟨t1, t2⟩ := mvL_ok hMv t qlv (orI ar (ofE qlv x0)) w1 w2 hfB r4
          have hT := together_run (Nat.le_trans hloq m4.1) g2 m2 w1 t1 hm1 (by omega) (k - 1) (by omega)
          rw [show k - 1 + 1 = k by omega] at hT
          obtain ⟨f1, f2, f3⟩ := round_ok hMv r4 har [x0] w1 w2
          have hfx : joinL qlv (mvL putP ofH t qlv (orI ar (ofE qlv x0))) = fP t [x0] ar qlv := rfl
          have hfx' : joinL qlv (mvL putP ofH t qlv (orI ar (ofH qlv [x0]))) = fP t [x0] ar qlv := rfl
          rw [hfx'] at f1 f2 f3
          rw [hfx] at hT
          obtain ⟨c, rfl⟩ : ∃ c', c = c' + 1 := ⟨c - 1, by omega⟩
          rw [fixN] at w8
          generalize fP t [x0] ar qlv = fx at *
          have g3 : (H2 ++ [HObj.cells 3 (ic fx)])[H2.length]? = some (.cells 3 (ic fx)) := by simp
          have g4 : (H2 ++ [HObj.cells 3 (ic fx)])[qid]? = some (.cells 3 (ic qlv)) := by rw [List.getElem?_append_left (cells_lt g2)]; exact g2
          have hEq := equalV_run g3 g4 (by omega) (k - 2) (by omega) lo
          rw [show k - 2 + 2 = k by omega, f1, w1] at hEq
          have hFr2 : Fr aH (fun _ => False) (H2 ++ [HObj.cells 3 (ic fx)]) (fun _ => False) := by
            have := (w6.trans m4).app [HObj.cells 3 (ic fx)]
            exact ⟨this.1, this.2.1, fun _ h => h.elim⟩
          by_cases hs : fx = qlv
          · rw [if_pos hs] at w8
            rw [decide_eq_true hs] at hEq
            rw [← w8] at j8 j9
            have hB3 := hS.frame (h' := H2 ++ [HObj.cells 3 (ic fx)]) j6 hFr2.1 (fun i hi => hFr2.2.1 i (hrg i hi) (fun h => h))
            obtain ⟨H4, O4, s1, s2, s3⟩ := hS.run k (scs t + (scs rest + b)) ax _ aO qid qlv ar an _ (hS.mono hB3 (by omega)) g4 w4 w1 w2 har (by omega) hbm' hvm1' (Nat.le_trans hloH hFr2.1)
            have n5 := s3.not (cells_lt g4) w4
            have g5 := s3.get g4 w4
            have hO5 := ofV_run g5 x0 (k - 1) (by omega) ha2.1 (by rw [w1]; exact r1.1) H4.length
            rw [show k - 1 + 1 = k by omega, w1] at hO5
            obtain ⟨id6, H6, O6, p1, p2, p3, p4, p5, p6⟩ := moved_run m hm1 hm2 k S lo kY hS t qlv (orI ar (ofE qlv x0)) (IntKind.i64.wrap (an + 1)) _ H4 O4 (.sl qid 1 0 m) (scs rest + b) (by omega) ht1 ht2 r4 w1 w2 hfB (.inr ⟨qid, by rw [w1], g5⟩) (Nat.le_trans (Nat.le_trans hloH hFr2.1) s3.1) s2
            have n6 := p4.not (cells_lt g5) n5
            have g6 := p4.get g5 n5
            have hFrA : Fr aH aO (H2 ++ [HObj.cells 3 (ic fx)]) aO := ⟨hFr2.1, fun i hi _ => hFr2.2.1 i hi (fun h => h), fun _ h => .inl h⟩
            have hFr6 : Fr h O H6 O6 := j7.trans (hFrA.trans (s3.trans p4))
            generalize spL putP ofH S.upd t qlv (orI ar (ofE qlv x0)) (S.upd ax an (.mk op nn [x0] t e) qlv ar) (IntKind.i64.wrap (an + 1)) = X1 at *
            obtain ⟨xo, xn, xc, xs⟩ := x0
            (repeat' (first | apply W_seq | refine W_true rfl rfl ?_ | refine W_false rfl rfl ?_ | (refine W_dops (id := 17) (bs := [0, 1, 0, 0, 0, 0, 32, 96, 224, 496, 1016, 0, 4095, 8191, 16383, 16383, 32767, 131071]) rfl (by decide +kernel) ?_ <;> (refine U_go rfl ?_; refine H_free (by decide +kernel) rfl rfl rfl rfl rfl ?_) <;> (refine U_go rfl ?_; refine H_free (by decide +kernel) rfl rfl rfl rfl rfl ?_) <;> (refine U_go rfl ?_; refine H_free (by decide +kernel) rfl rfl rfl rfl rfl ?_) <;> (refine U_go rfl ?_; refine H_free (by decide +kernel) rfl rfl rfl rfl rfl ?_) <;> (refine U_go rfl ?_; refine H_free (by decide +kernel) rfl rfl rfl rfl rfl ?_) <;> (refine U_go rfl ?_; refine H_free (by decide +kernel) rfl rfl rfl rfl rfl ?_) <;> (refine U_go rfl ?_; refine H_free (by decide +kernel) rfl rfl rfl rfl rfl ?_) <;> (refine U_go rfl ?_; refine H_free (by decide +kernel) rfl (O_index rfl rfl rfl rfl rfl (by assumption)) rfl rfl rfl ?_) <;> (refine U_go rfl ?_; refine H_free (by decide +kernel) rfl rfl rfl rfl rfl ?_) <;> (refine U_go rfl ?_; refine H_free (by decide +kernel) rfl (O_call rfl rfl rfl rfl (by assumption)) rfl rfl rfl ?_) <;> (refine U_go rfl ?_; refine H_free (by decide +kernel) rfl rfl rfl rfl rfl ?_) <;> (refine U_go rfl ?_; refine H_free (by decide +kernel) rfl rfl rfl rfl rfl ?_) <;> (refine U_go rfl ?_; refine H_op (by decide +kernel) (O_call rfl rfl rfl rfl (by assumption)) ?_) <;> (refine U_go rfl ?_; refine H_op (by decide +kernel) rfl ?_) <;> (refine U_go rfl ?_; refine H_free (by decide +kernel) rfl rfl rfl rfl rfl ?_) <;> (refine U_go rfl ?_; refine H_free (by decide +kernel) rfl rfl rfl rfl rfl ?_) <;> (refine U_go rfl ?_; refine H_free (by decide +kernel) rfl rfl rfl rfl rfl ?_) <;> (refine U_go rfl ?_; refine H_op (by decide +kernel) rfl ?_) <;> apply U_nil) | (refine W_ops (id := 18) rfl ?_ <;> refine T_ch 2 rfl ?_ <;> (refine T_go rfl ?_; refine G_op (O_call rfl rfl rfl rfl (by assumption)) ?_) <;> refine T_ch 1 rfl ?_ <;> apply T_nil) | (refine W_ops (id := 19) rfl ?_ <;> refine T_ch 2 rfl ?_ <;> (refine T_go rfl ?_; refine G_true (O_call rfl rfl rfl rfl (by assumption)) rfl ?_) <;> apply T_nil) | (refine W_ops (id := 21) rfl ?_ <;> refine T_ch 5 rfl ?_ <;> (refine T_go rfl ?_; refine G_op (O_call rfl rfl rfl rfl (by assumption)) ?_) <;> apply T_nil) | (refine W_dops (id := 22) (bs := [0, 1, 0, 0, 0, 0, 32, 96, 224, 496, 1016, 0, 0, 8191, 16383, 32767, 32767, 131071]) rfl (by decide +kernel) ?_ <;> (refine U_go rfl ?_; refine H_free (by decide +kernel) rfl rfl rfl rfl rfl ?_) <;> (refine U_go rfl ?_; refine H_free (by decide +kernel) rfl rfl rfl rfl rfl ?_) <;> (refine U_go rfl ?_; refine H_free (by decide +kernel) rfl rfl rfl rfl rfl ?_) <;> (refine U_go rfl ?_; refine H_free (by decide +kernel) rfl rfl rfl rfl rfl ?_) <;> (refine U_go rfl ?_; refine H_free (by decide +kernel) rfl rfl rfl rfl rfl ?_) <;> (refine U_go rfl ?_; refine H_free (by decide +kernel) rfl rfl rfl rfl rfl ?_) <;> (refine U_go rfl ?_; refine H_free (by decide +kernel) rfl rfl rfl rfl rfl ?_) <;> (refine U_go rfl ?_; refine H_free (by decide +kernel) rfl (O_index rfl rfl rfl rfl rfl (by assumption)) rfl rfl rfl ?_) <;> (refine U_go rfl ?_; refine H_free (by decide +kernel) rfl rfl rfl rfl rfl ?_) <;> (refine U_go rfl ?_; refine H_free (by decide +kernel) rfl (O_call rfl rfl rfl rfl (by assumption)) rfl rfl rfl ?_) <;> (refine U_go rfl ?_; refine H_free (by decide +kernel) rfl rfl rfl rfl rfl ?_) <;> (refine U_go rfl ?_; refine H_free (by decide +kernel) rfl rfl rfl rfl rfl ?_) <;> (refine U_go rfl ?_; refine H_free (by decide +kernel) rfl rfl rfl rfl rfl ?_) <;> (refine U_go rfl ?_; refine H_op (by decide +kernel) (O_call rfl rfl rfl rfl (by assumption)) ?_) <;> (refine U_go rfl ?_; refine H_op (by decide +kernel) rfl ?_) <;> (refine U_go rfl ?_; refine H_free (by decide +kernel) rfl rfl rfl rfl rfl ?_) <;> (refine U_go rfl ?_; refine H_free (by decide +kernel) rfl rfl rfl rfl rfl ?_) <;> (refine U_go rfl ?_; refine H_op (by decide +kernel) rfl ?_) <;> apply U_nil) | refine W_region (id := 23) rfl rfl ?_ | apply W_skip | apply W_block | apply W_ret | apply W_exit | refine W_true rfl (by assumption) ?_ | refine W_false rfl (by assumption) ?_ | refine W_cond rfl (fun _ => ?_) (fun _ => ?_)))
            exact ⟨⟨qlv, X1.1, X1.2, H6, O6, qid⟩, rfl, w1, w2, g6, n6, w5, p3, hFr6, j8, j9⟩
          · rw [if_neg hs] at w8
            rw [decide_eq_false hs] at hEq
            have hlt3 : roomL fx < roomL qlv := by
              rcases f3 with f3 | f3
              · exact absurd f3 hs
              · exact f3
            obtain ⟨xo, xn, xc, xs⟩ := x0
            (repeat' (first | apply W_seq | refine W_true rfl rfl ?_ | refine W_false rfl rfl ?_ | (refine W_dops (id := 17) (bs := [0, 1, 0, 0, 0, 0, 32, 96, 224, 496, 1016, 0, 4095, 8191, 16383, 16383, 32767, 131071]) rfl (by decide +kernel) ?_ <;> (refine U_go rfl ?_; refine H_free (by decide +kernel) rfl rfl rfl rfl rfl ?_) <;> (refine U_go rfl ?_; refine H_free (by decide +kernel) rfl rfl rfl rfl rfl ?_) <;> (refine U_go rfl ?_; refine H_free (by decide +kernel) rfl rfl rfl rfl rfl ?_) <;> (refine U_go rfl ?_; refine H_free (by decide +kernel) rfl rfl rfl rfl rfl ?_) <;> (refine U_go rfl ?_; refine H_free (by decide +kernel) rfl rfl rfl rfl rfl ?_) <;> (refine U_go rfl ?_; refine H_free (by decide +kernel) rfl rfl rfl rfl rfl ?_) <;> (refine U_go rfl ?_; refine H_free (by decide +kernel) rfl rfl rfl rfl rfl ?_) <;> (refine U_go rfl ?_; refine H_free (by decide +kernel) rfl (O_index rfl rfl rfl rfl rfl (by assumption)) rfl rfl rfl ?_) <;> (refine U_go rfl ?_; refine H_free (by decide +kernel) rfl rfl rfl rfl rfl ?_) <;> (refine U_go rfl ?_; refine H_free (by decide +kernel) rfl (O_call rfl rfl rfl rfl (by assumption)) rfl rfl rfl ?_) <;> (refine U_go rfl ?_; refine H_free (by decide +kernel) rfl rfl rfl rfl rfl ?_) <;> (refine U_go rfl ?_; refine H_free (by decide +kernel) rfl rfl rfl rfl rfl ?_) <;> (refine U_go rfl ?_; refine H_op (by decide +kernel) (O_call rfl rfl rfl rfl (by assumption)) ?_) <;> (refine U_go rfl ?_; refine H_op (by decide +kernel) rfl ?_) <;> (refine U_go rfl ?_; refine H_free (by decide +kernel) rfl rfl rfl rfl rfl ?_) <;> (refine U_go rfl ?_; refine H_free (by decide +kernel) rfl rfl rfl rfl rfl ?_) <;> (refine U_go rfl ?_; refine H_free (by decide +kernel) rfl rfl rfl rfl rfl ?_) <;> (refine U_go rfl ?_; refine H_op (by decide +kernel) rfl ?_) <;> apply U_nil) | (refine W_ops (id := 18) rfl ?_ <;> refine T_ch 2 rfl ?_ <;> (refine T_go rfl ?_; refine G_op (O_call rfl rfl rfl rfl (by assumption)) ?_) <;> refine T_ch 1 rfl ?_ <;> apply T_nil) | (refine W_ops (id := 19) rfl ?_ <;> refine T_ch 2 rfl ?_ <;> (refine T_go rfl ?_; refine G_false (O_call rfl rfl rfl rfl (by assumption)) rfl ?_) <;> apply T_nil) | refine W_region (id := 20) rfl rfl ?_ | apply W_skip | apply W_block | apply W_ret | apply W_exit | refine W_true rfl (by assumption) ?_ | refine W_false rfl (by assumption) ?_ | refine W_cond rfl (fun _ => ?_) (fun _ => ?_)))
            exact ⟨⟨fx, H2 ++ [.cells 3 (ic fx)], H2.length⟩, rfl, ⟨f1, f2, g3, fun q => by have h1 : H2.length < aH.length := hrg _ q; have := w6.1; have := m4.1; omega, by have := j7.1; have := w6.1; have := m4.1; show h.length ≤ H2.length; omega, hFr2, c, by show roomL fx < c; omega, w8⟩, hlt3⟩
        · have c2 : (op == 2) = false := by simp [o2]
          obtain ⟨H1, O1, s1, s2, s3⟩ := hS.run k (scs rest + b) ax aH aO aid alv ar an _ (hS.mono j6 (by omega)) j3 j4 j1 j2 har (by omega) hbm' hvm1' hloH
          have n1 := s3.not (cells_lt j3) j4
          have g1 := s3.get j3 j4
          have hP := put_run g1 hloid j1 _ hvm1' ar (k - 1) (by omega) hbm'
          rw [show k - 1 + 1 = k by omega] at hP
          have hm : mv1 putP ofH (.mk op nn a t e) alv ar = putP alv ar (.mk op nn a t e) := by rw [mv1, if_neg o1, if_neg o2]
          have hsp : sp1 putP ofH S.upd (.mk op nn a t e) alv ar ax an = (S.upd ax an (.mk op nn a t e) alv ar, IntKind.i64.wrap (an + 1)) := by rw [sp1, if_neg o1, if_neg o2]
          rw [hm] at j8 j9 q1 q2
          rw [hsp] at j9
          generalize putP alv ar (.mk op nn a t e) = pl at *
          have hBf := hS.frame (h' := H1.set aid (.cells 3 (ic pl))) s2 (by simp) (fun i hi => List.getElem?_set_ne (fun q => n1 (by rw [q]; exact hi)))
          have hget : (H1.set aid (HObj.cells 3 (ic pl)))[aid]? = some (.cells 3 (ic pl)) := List.getElem?_set_self (cells_lt g1)
          (repeat' (first | apply W_seq | refine W_true rfl rfl ?_ | refine W_false rfl rfl ?_ | (refine W_ops (id := 3) rfl ?_ <;> (refine T_go rfl ?_; refine G_true rfl (by with_reducible assumption) ?_) <;> apply T_nil) | (refine W_ops (id := 4) rfl ?_ <;> (refine T_go rfl ?_; refine G_op (O_index rfl rfl rfl rfl rfl (by assumption)) ?_) <;> (refine T_go rfl ?_; refine G_op rfl ?_) <;> refine T_ch 2 rfl ?_ <;> apply T_nil) | refine W_region (id := 5) rfl rfl ?_ | refine W_region (id := 6) rfl rfl ?_ | refine W_region (id := 7) rfl rfl ?_ | (refine W_ops (id := 8) rfl ?_ <;> refine T_ch 5 rfl ?_ <;> (refine T_go rfl ?_; refine G_op (O_call rfl rfl rfl rfl (by assumption)) ?_) <;> apply T_nil) | (refine W_ops (id := 9) rfl ?_ <;> refine T_ch 3 rfl ?_ <;> (refine T_go rfl ?_; refine G_op (O_call rfl rfl rfl rfl (by assumption)) ?_) <;> apply T_nil) | (refine W_ops (id := 10) rfl ?_ <;> (refine T_go rfl ?_; refine G_false rfl (by with_reducible assumption) ?_) <;> refine T_ch 1 rfl ?_ <;> apply T_nil) | (refine W_ops (id := 16) rfl ?_ <;> (refine T_go rfl ?_; refine G_false rfl (by with_reducible assumption) ?_) <;> refine T_ch 1 rfl ?_ <;> apply T_nil) | refine W_region (id := 23) rfl rfl ?_ | apply W_skip | apply W_block | apply W_ret | apply W_exit | refine W_true rfl (by assumption) ?_ | refine W_false rfl (by assumption) ?_ | refine W_cond rfl (fun _ => ?_) (fun _ => ?_)))
          exact ⟨⟨pl, S.upd ax an (.mk op nn a t e) alv ar, IntKind.i64.wrap (an + 1), H1.set aid (.cells 3 (ic pl)), O1, aid⟩, rfl, q1, q2, hget, n1, j5, hBf, (j7.trans s3).set j5 _, j8, j9⟩
      · intro a hJ
        have hlt := ge_sms (l := l)
        (repeat' (first | apply W_seq | refine W_true rfl rfl ?_ | refine W_false rfl rfl ?_ | (refine W_ops (id := 3) rfl ?_ <;> (refine T_go rfl ?_; refine G_false rfl (by with_reducible assumption) ?_) <;> apply T_nil) | refine W_region (id := 24) rfl rfl ?_ | apply W_skip | apply W_block | apply W_ret | apply W_exit | refine W_true rfl (by assumption) ?_ | refine W_false rfl (by assumption) ?_ | refine W_cond rfl (fun _ => ?_) (fun _ => ?_)))
        exact ⟨.inl rfl, _, rfl, a, rfl, hJ⟩
    obtain ⟨_, h1, e, rfl, _, _, h4, h5, h6, h7, h8, h9, h10⟩ := key
    rw [mvL] at h9
    rw [spL] at h10
    rw [← h9, ← h10]
    refine ⟨e.id, e.H, e.O, h1, h4, ?_, h8, h5, h6⟩
    rw [scs, Nat.zero_add] at h7
    exact h7
end Go.Proofs.Ytelobnllkhnpaaa.L
/- Types that move, in the program: All, Moved; the law LevelMoves. -/
open Go Go.Proofs Go.Ev Go.Proofs.Ytelobnllkhnpaaa.E
namespace Go.Proofs.Ytelobnllkhnpaaa.L
set_option linter.unusedVariables false
set_option linter.unusedSimpArgs false
set_option maxHeartbeats 2000000
set_option maxRecDepth 100000

theorem all_run (p : Pr') (S : See) (lo kY : Nat) (hS : SeeOk S p.vars.length lo kY) (k : Nat) (hk : smsK p.body + p.vars.length + kY + 1310 ≤ k) (hb : prB p) (hv1 : 1 ≤ p.vars.length) (hv2 : p.vars.length ≤ 18) (hvm : vmL p.vars.length p.body) (hB : lvsB (levs p))
    (x : S.σ) (h : Heap) (hlo : lo ≤ h.length) (O : Nat → Prop) (b : Nat) (hSB : S.B (scs p.body + b) x h O) :
    ∃ out : AV × Heap, call Try.prog cfg (k + 1) lo (.func 57) [.agg (prC p), .fn (.func S.f) S.caps] h = some out ∧
    ∃ (id : Nat) (O' : Nat → Prop), out.1 = .sl id 1 0 p.vars.length ∧ out.2[id]? = some (.cells 3 (ic (mvL putP ofH p.body (levs p) 0))) ∧ S.B b (spL putP ofH S.upd p.body (levs p) 0 x 0).1 out.2 O' ∧ Fr h O out.2 O' ∧ ¬ O' id ∧ h.length ≤ id := by
  have hL := levels_run p (k - 1) (by omega) (by omega) h h.length
  rw [show k - 1 + 1 = k by omega, accV_ne (levs_ne hv1)] at hL
  obtain ⟨id, H', O', m1, m2, m3, m4, m5, m6⟩ := moved_run p.vars.length hv1 hv2 k S lo kY hS p.body (levs p) 0 0 x h O (.vs 1 (intsC (levs p))) b (by omega) hb.2.1 hb.2.2 hvm (levs_len p) hB lvB0 (.inl rfl) hlo hSB
  generalize hX : (spL putP ofH S.upd p.body (levs p) 0 x 0).2 = n at m1
  have hend : ∃ (id' : Nat) (O'' : Nat → Prop), ((AV.sl id 1 0 p.vars.length, H') : AV × Heap).1 = .sl id' 1 0 p.vars.length ∧ ((AV.sl id 1 0 p.vars.length, H') : AV × Heap).2[id']? = some (.cells 3 (ic (mvL putP ofH p.body (levs p) 0))) ∧ S.B b (spL putP ofH S.upd p.body (levs p) 0 x 0).1 ((AV.sl id 1 0 p.vars.length, H') : AV × Heap).2 O'' ∧ Fr h O ((AV.sl id 1 0 p.vars.length, H') : AV × Heap).2 O'' ∧ ¬ O'' id' ∧ h.length ≤ id' := ⟨id, O', rfl, m2, m3, m4, m5, m6⟩
  generalize mvL putP ofH p.body (levs p) 0 = M at hend
  generalize (spL putP ofH S.upd p.body (levs p) 0 x 0).1 = X at hend
  generalize levs p = lv at hL m1
  obtain ⟨w, vs, body⟩ := p
  dsimp only at m1 hend
  apply W_callP Try.func57 rfl (Nat.le_of_ble_eq_true rfl) rfl rfl
  (repeat' (first | apply W_seq | refine W_true rfl rfl ?_ | refine W_false rfl rfl ?_ | refine W_region (id := 0) rfl rfl ?_ | (refine W_dops (id := 1) (bs := [0, 1, 0, 4, 0, 31, 63, 127, 127, 255, 1023]) rfl (by decide +kernel) ?_ <;> (refine U_go rfl ?_; refine H_free (by decide +kernel) rfl rfl rfl rfl rfl ?_) <;> (refine U_go rfl ?_; refine H_free (by decide +kernel) rfl rfl rfl rfl rfl ?_) <;> (refine U_go rfl ?_; refine H_free (by decide +kernel) rfl rfl rfl rfl rfl ?_) <;> (refine U_go rfl ?_; refine H_free (by decide +kernel) rfl (O_call rfl rfl rfl rfl (by assumption)) rfl rfl rfl ?_) <;> (refine U_go rfl ?_; refine H_free (by decide +kernel) rfl rfl rfl rfl rfl ?_) <;> (refine U_go rfl ?_; refine H_op (by decide +kernel) (O_call rfl rfl rfl rfl (by assumption)) ?_) <;> (refine U_go rfl ?_; refine H_op (by decide +kernel) rfl ?_) <;> (refine U_go rfl ?_; refine H_free (by decide +kernel) rfl rfl rfl rfl rfl ?_) <;> (refine U_go rfl ?_; refine H_free (by decide +kernel) rfl rfl rfl rfl rfl ?_) <;> (refine U_go rfl ?_; refine H_free (by decide +kernel) rfl rfl rfl rfl rfl ?_) <;> (refine U_go rfl ?_; refine H_op (by decide +kernel) rfl ?_) <;> apply U_nil) | refine W_region (id := 2) rfl rfl ?_ | apply W_skip | apply W_block | apply W_ret | apply W_exit | refine W_true rfl (by assumption) ?_ | refine W_false rfl (by assumption) ?_ | refine W_cond rfl (fun _ => ?_) (fun _ => ?_)))
  exact ⟨.inl rfl, _, rfl, hend⟩

def updM (x : List (List AV)) (n : Int) (s : Sm') (lv : List Int) (ar : Int) : List (List AV) := x ++ flPl (n, s, lv, ar)
/-- Moved's callback: the flows so far, in a variable of its own and a list. -/
def seeM (L : Nat) : See :=
  { σ := List (List AV), upd := updM
    B := fun b x h O => Row3 x ∧ x.length + b ≤ 90000 ∧ ((x = [] ∧ h[L]? = some (.cells 41 [.nils]) ∧ ∀ i, O i ↔ i = L) ∨
      ∃ id, L < id ∧ x ≠ [] ∧ h[L]? = some (.cells 41 [.sl id 3 0 x.length]) ∧ h[id]? = some (.cells 94 x.flatten) ∧ ∀ i, O i ↔ i = L ∨ i = id)
    f := 58, caps := [.hp L 1 0] }
theorem row3_flPl {x : List (List AV)} (hx : Row3 x) (p : Pl) : Row3 (x ++ flPl p) := fun r hr => by
  rcases List.mem_append.1 hr with hr | hr
  · exact hx r hr
  · exact flPl_row p r hr
set_option maxHeartbeats 2000000 in
theorem seeM_ok (L m lo : Nat) (hlo : lo ≤ L) : SeeOk (seeM L) m lo 10 where
  frame := by
    rintro b (x : List (List AV)) h O h' ⟨h1, h2, h3⟩ hl hO
    refine ⟨h1, h2, ?_⟩
    rcases h3 with ⟨q1, q2, q3⟩ | ⟨id, q0, q1, q2, q3, q4⟩
    · exact .inl ⟨q1, by rw [hO L ((q3 L).2 rfl)]; exact q2, q3⟩
    · exact .inr ⟨id, q0, q1, by rw [hO L ((q4 L).2 (.inl rfl))]; exact q2, by rw [hO id ((q4 id).2 (.inr rfl))]; exact q3, q4⟩
  mono := by
    rintro b b' x h O ⟨h1, h2, h3⟩ hb
    exact ⟨h1, by omega, h3⟩
  rng := by
    rintro b x h O i ⟨h1, h2, h3⟩ hi
    rcases h3 with ⟨q1, q2, q3⟩ | ⟨id, q0, q1, q2, q3, q4⟩
    · rw [(q3 i).1 hi]; exact cells_lt q2
    · rcases (q4 i).1 hi with e | e
      · rw [e]; exact cells_lt q2
      · rw [e]; exact cells_lt q3
  run := by
    rintro k b (x : List (List AV)) H O id lv ar n s ⟨h1, h2, h3⟩ hg hnO hlv hB har hk hbs hvm hloH
    show ∃ (h' : Heap) (O' : Nat → Prop), call Try.prog cfg k lo (.func 58) [.int .i64 n, .agg (smC s), .sl id 1 0 m, .int .i64 ar, .hp L 1 0] H = some (.tup [], h') ∧ (seeM L).B b (x ++ flPl (n, s, lv, ar)) h' O' ∧ Fr H O h' O'
    obtain ⟨op, nn, a, t, e⟩ := s
    have hrow3 := row3_flPl h1 (n, .mk op nn a t e, lv, ar)
    rw [smK] at hk
    rw [smB] at hbs
    rw [vm1] at hvm
    obtain ⟨⟨ha1, ha2⟩, _⟩ := hbs
    have hA := ofAllV_run hg a (k - 3) (by omega) ha1 ha2 (by rw [hlv]; exact hvm.1) lo
    rw [show k - 3 + 2 = k - 1 by omega, hlv] at hA
    have hW := within_run (orI ar (ofEs lv 0 a)) nn (k - 2) lo H
    rw [show k - 2 + 1 = k - 1 by omega] at hW
    obtain ⟨k, rfl⟩ : ∃ k', k = k' + 1 := ⟨k - 1, by omega⟩
    rw [Nat.add_sub_cancel] at hA hW
    have stay : flPl (n, .mk op nn a t e, lv, ar) = [] → (seeM L).B b (x ++ flPl (n, .mk op nn a t e, lv, ar)) H O ∧ Fr H O H O := fun he => by
      rw [he, List.append_nil]
      exact ⟨⟨h1, by omega, h3⟩, Fr.refl H O⟩
    by_cases o3 : op = 3
    · have c3 : (op == 3) = true := by simp [o3]
      cases hw : withinB (orI ar (ofEs lv 0 a)) nn with
      | true =>
        rw [hw] at hW
        have hf : flPl (n, .mk op nn a t e, lv, ar) = [] := by unfold flPl flowL; dsimp only; rw [if_pos o3, if_pos hw]
        obtain ⟨s1, s2⟩ := stay hf
        refine ⟨H, O, ?_, s1, s2⟩
        apply W_call Try.func58 rfl (Nat.le_of_ble_eq_true rfl) rfl rfl
        (repeat' (first | apply W_seq | refine W_true rfl rfl ?_ | refine W_false rfl rfl ?_ | refine W_region (id := 0) rfl rfl ?_ | (refine W_ops (id := 1) rfl ?_ <;> refine T_ch 4 rfl ?_ <;> (refine T_go rfl ?_; refine G_op (O_call rfl rfl rfl rfl (by assumption)) ?_) <;> refine T_ch 2 rfl ?_ <;> apply T_nil) | (refine W_ops (id := 2) rfl ?_ <;> refine T_ch 2 rfl ?_ <;> (refine T_go rfl ?_; refine G_true rfl (by with_reducible assumption) ?_) <;> refine T_ch 4 rfl ?_ <;> (refine T_go rfl ?_; refine G_true (O_call rfl rfl rfl rfl (by assumption)) rfl ?_) <;> refine T_ch 2 rfl ?_ <;> apply T_nil) | apply W_skip | apply W_block | apply W_ret | apply W_exit | refine W_true rfl (by assumption) ?_ | refine W_false rfl (by assumption) ?_ | refine W_cond rfl (fun _ => ?_) (fun _ => ?_)))
        exact ⟨.inr rfl, rfl⟩
      | false =>
        rw [hw] at hW
        have hf : flPl (n, .mk op nn a t e, lv, ar) = [[.int .i64 n, .int .i64 (orI ar (ofEs lv 0 a)), .int .i64 nn]] := by unfold flPl flowL; dsimp only; rw [if_pos o3, if_neg (by rw [hw]; simp)]
        rw [hf] at hrow3 ⊢
        rcases h3 with ⟨q1, q2, q3⟩ | ⟨jd, q0, q1, q2, q3, q4⟩
        · subst q1
          have hL := cells_lt q2
          have hap : append cfg.tab lo H 41 .nils (.vs 3 [[.int .i64 n, .int .i64 (orI ar (ofEs lv 0 a)), .int .i64 nn]]) = some (.sl H.length 3 0 1, H ++ [.cells 94 [.int .i64 n, .int .i64 (orI ar (ofEs lv 0 a)), .int .i64 nn]]) := rfl
          have g2 : (H ++ [HObj.cells 94 [.int .i64 n, .int .i64 (orI ar (ofEs lv 0 a)), .int .i64 nn]])[L]? = some (.cells 41 [.nils]) := by rw [List.getElem?_append_left hL]; exact q2
          refine ⟨(H ++ [HObj.cells 94 [.int .i64 n, .int .i64 (orI ar (ofEs lv 0 a)), .int .i64 nn]]).set L (.cells 41 [.sl H.length 3 0 1]), fun i => i = L ∨ i = H.length, ?_, ⟨hrow3, by simp at h2 ⊢; omega, .inr ⟨H.length, hL, by simp, ?_, ?_, fun i => Iff.rfl⟩⟩, ?_⟩
          · apply W_call Try.func58 rfl (Nat.le_of_ble_eq_true rfl) rfl rfl
            (repeat' (first | apply W_seq | refine W_true rfl rfl ?_ | refine W_false rfl rfl ?_ | refine W_region (id := 0) rfl rfl ?_ | (refine W_ops (id := 1) rfl ?_ <;> refine T_ch 4 rfl ?_ <;> (refine T_go rfl ?_; refine G_op (O_call rfl rfl rfl rfl (by assumption)) ?_) <;> refine T_ch 2 rfl ?_ <;> apply T_nil) | (refine W_ops (id := 2) rfl ?_ <;> refine T_ch 2 rfl ?_ <;> (refine T_go rfl ?_; refine G_true rfl (by with_reducible assumption) ?_) <;> refine T_ch 4 rfl ?_ <;> (refine T_go rfl ?_; refine G_false (O_call rfl rfl rfl rfl (by assumption)) rfl ?_) <;> refine T_ch 2 rfl ?_ <;> apply T_nil) | (refine W_ops (id := 3) rfl ?_ <;> (refine T_go rfl ?_; refine G_op (O_loadH rfl rfl rfl (by assumption) rfl rfl) ?_) <;> refine T_ch 6 rfl ?_ <;> (refine T_go rfl ?_; refine G_op (O_append rfl rfl rfl rfl rfl (by assumption)) ?_) <;> (refine T_go rfl ?_; refine G_op (O_storeH rfl rfl rfl rfl (by assumption) ⟨by assumption, rfl, rfl, Nat.le_of_ble_eq_true rfl⟩) ?_) <;> apply T_nil) | apply W_skip | apply W_block | apply W_ret | apply W_exit | refine W_true rfl (by assumption) ?_ | refine W_false rfl (by assumption) ?_ | refine W_cond rfl (fun _ => ?_) (fun _ => ?_)))
            exact ⟨.inr rfl, rfl⟩
          · exact List.getElem?_set_self (by simp; omega)
          · rw [List.getElem?_set_ne (by omega)]; simp
          · refine ⟨by simp, fun i hi ho => ?_, fun i hi => ?_⟩
            · rw [List.getElem?_set_ne (fun q => ho ((q3 i).2 q.symm)), List.getElem?_append_left hi]
            · rcases hi with rfl | rfl
              · exact .inl ((q3 _).2 rfl)
              · exact .inr (Nat.le_refl _)
        · have hL := cells_lt q2
          have hJ := cells_lt q3
          have hap : append cfg.tab lo H 41 (.sl jd 3 0 x.length) (.vs 3 [[.int .i64 n, .int .i64 (orI ar (ofEs lv 0 a)), .int .i64 nn]]) = some (.sl jd 3 0 (x.length + 1), H.set jd (.cells 94 (x.flatten ++ [.int .i64 n, .int .i64 (orI ar (ofEs lv 0 a)), .int .i64 nn]))) := by
            have := append_slV (tab := cfg.tab) (lo := lo) (h := H) (t := 41) (e := 94) (id := jd) (len := x.length) (xs := x.flatten) rfl rfl q3 (by omega) (by rw [flat_len _ (fun r hr => (h1 r hr).1)]) (by decide) [[.int .i64 n, .int .i64 (orI ar (ofEs lv 0 a)), .int .i64 nn]] (by simp only [room, List.length_cons, List.length_nil]; show (x.length + (0 + 1)) * 24 ≤ _; omega) (by simp only [room, List.length_cons, List.length_nil]; omega)
            rw [List.flatten_cons, List.flatten_nil, List.append_nil] at this
            exact this
          have g2 : (H.set jd (HObj.cells 94 (x.flatten ++ [.int .i64 n, .int .i64 (orI ar (ofEs lv 0 a)), .int .i64 nn])))[L]? = some (.cells 41 [.sl jd 3 0 x.length]) := by rw [List.getElem?_set_ne (by omega)]; exact q2
          refine ⟨(H.set jd (HObj.cells 94 (x.flatten ++ [.int .i64 n, .int .i64 (orI ar (ofEs lv 0 a)), .int .i64 nn]))).set L (.cells 41 [.sl jd 3 0 (x.length + 1)]), fun i => i = L ∨ i = jd, ?_, ⟨hrow3, by simp at h2 ⊢; omega, .inr ⟨jd, q0, by simp, ?_, ?_, fun i => Iff.rfl⟩⟩, ?_⟩
          · apply W_call Try.func58 rfl (Nat.le_of_ble_eq_true rfl) rfl rfl
            (repeat' (first | apply W_seq | refine W_true rfl rfl ?_ | refine W_false rfl rfl ?_ | refine W_region (id := 0) rfl rfl ?_ | (refine W_ops (id := 1) rfl ?_ <;> refine T_ch 4 rfl ?_ <;> (refine T_go rfl ?_; refine G_op (O_call rfl rfl rfl rfl (by assumption)) ?_) <;> refine T_ch 2 rfl ?_ <;> apply T_nil) | (refine W_ops (id := 2) rfl ?_ <;> refine T_ch 2 rfl ?_ <;> (refine T_go rfl ?_; refine G_true rfl (by with_reducible assumption) ?_) <;> refine T_ch 4 rfl ?_ <;> (refine T_go rfl ?_; refine G_false (O_call rfl rfl rfl rfl (by assumption)) rfl ?_) <;> refine T_ch 2 rfl ?_ <;> apply T_nil) | (refine W_ops (id := 3) rfl ?_ <;> (refine T_go rfl ?_; refine G_op (O_loadH rfl rfl rfl (by assumption) rfl rfl) ?_) <;> refine T_ch 6 rfl ?_ <;> (refine T_go rfl ?_; refine G_op (O_append rfl rfl rfl rfl rfl (by assumption)) ?_) <;> (refine T_go rfl ?_; refine G_op (O_storeH rfl rfl rfl rfl (by assumption) ⟨by assumption, rfl, rfl, Nat.le_of_ble_eq_true rfl⟩) ?_) <;> apply T_nil) | apply W_skip | apply W_block | apply W_ret | apply W_exit | refine W_true rfl (by assumption) ?_ | refine W_false rfl (by assumption) ?_ | refine W_cond rfl (fun _ => ?_) (fun _ => ?_)))
            exact ⟨.inr rfl, rfl⟩
          · rw [List.getElem?_set_self (by simp; omega)]; simp
          · rw [List.getElem?_set_ne (by omega), List.getElem?_set_self hJ]; simp
          · refine ⟨by simp, fun i hi ho => ?_, fun i hi => .inl ((q4 i).2 hi)⟩
            rw [List.getElem?_set_ne (fun q => ho ((q4 i).2 (.inl q.symm))), List.getElem?_set_ne (fun q => ho ((q4 i).2 (.inr q.symm)))]
    · have c3 : (op == 3) = false := by simp [o3]
      have hf : flPl (n, .mk op nn a t e, lv, ar) = [] := by unfold flPl; dsimp only; rw [if_neg o3]
      obtain ⟨s1, s2⟩ := stay hf
      refine ⟨H, O, ?_, s1, s2⟩
      apply W_call Try.func58 rfl (Nat.le_of_ble_eq_true rfl) rfl rfl
      (repeat' (first | apply W_seq | refine W_true rfl rfl ?_ | refine W_false rfl rfl ?_ | refine W_region (id := 0) rfl rfl ?_ | (refine W_ops (id := 1) rfl ?_ <;> refine T_ch 4 rfl ?_ <;> (refine T_go rfl ?_; refine G_op (O_call rfl rfl rfl rfl (by assumption)) ?_) <;> refine T_ch 2 rfl ?_ <;> apply T_nil) | (refine W_ops (id := 2) rfl ?_ <;> refine T_ch 2 rfl ?_ <;> (refine T_go rfl ?_; refine G_false rfl (by with_reducible assumption) ?_) <;> refine T_ch 4 rfl ?_ <;> refine T_skip rfl ?_ <;> refine T_ch 2 rfl ?_ <;> apply T_nil) | apply W_skip | apply W_block | apply W_ret | apply W_exit | refine W_true rfl (by assumption) ?_ | refine W_false rfl (by assumption) ?_ | refine W_cond rfl (fun _ => ?_) (fun _ => ?_)))
      exact ⟨.inr rfl, rfl⟩
end Go.Proofs.Ytelobnllkhnpaaa.L
