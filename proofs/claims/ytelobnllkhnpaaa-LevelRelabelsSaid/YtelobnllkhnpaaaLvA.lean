/- Small functions: or, within, of, Expr. -/
import Derived.Test.YtelobnllkhnpaaaEvO
import Derived.Test.YtelobnllkhnpaaaLvData
open Go Go.Proofs Go.Ev Go.Proofs.Ytelobnllkhnpaaa.E
namespace Go.Proofs.Ytelobnllkhnpaaa.L
set_option linter.unusedVariables false
set_option linter.unusedSimpArgs false
set_option maxRecDepth 100000

def orI (a b : Int) : Int := IntKind.i64.wrap ((BitVec.ofInt 64 a) ||| (BitVec.ofInt 64 b)).toNat
theorem or_run (k lo : Nat) (a b : Int) (h : Heap) : call Try.prog cfg (k + 1) lo (.func 53) [.int .i64 a, .int .i64 b] h = some (.int .i64 (orI a b), h) := by
  apply W_call Try.func53 rfl (Nat.le_of_ble_eq_true rfl) rfl
  (repeat' (first | apply W_seq | refine W_true rfl rfl ?_ | refine W_false rfl rfl ?_ | refine W_region (id := 0) rfl ?_ | refine W_region (id := 1) rfl ?_ | apply W_skip | apply W_block | apply W_ret | apply W_exit | refine W_true rfl (by assumption) ?_ | refine W_false rfl (by assumption) ?_ | refine W_cond rfl (fun _ => ?_) (fun _ => ?_)))
  exact ⟨.inl rfl, rfl⟩

mutual
def ofE (l : List Int) : Ex' → Int
  | .mk op n _ es => ofEs l (if op = 1 then l.getD n.toNat 0 else 0) es
def ofEs (l : List Int) (a : Int) : List Ex' → Int
  | [] => a
  | e :: es => ofEs l (orI a (ofE l e)) es
end
-- The reads of an expression are of variables that there are.
mutual
def rdE (m : Nat) : Ex' → Prop
  | .mk op n _ es => (op = 1 → 0 ≤ n ∧ n < m) ∧ rdEs m es
def rdEs (m : Nat) : List Ex' → Prop
  | [] => True
  | e :: es => rdE m e ∧ rdEs m es
end
theorem rdEs_mem {m : Nat} : ∀ {l : List Ex'} {i : Nat} {e : Ex'}, rdEs m l → l[i]? = some e → rdE m e
  | [], i, e, _, h => by simp at h
  | a :: l, 0, e, hb, h => by simp at h; subst h; exact hb.1
  | a :: l, i + 1, e, hb, h => by simp at h; exact rdEs_mem hb.2 h
def intsC (l : List Int) : List (List AV) := l.map fun n => [.int .i64 n]
theorem intsC_at {l : List Int} {n : Int} (h : 0 ≤ n ∧ n < l.length) : 0 ≤ n ∧ (intsC l)[n.toNat]? = some [.int .i64 (l.getD n.toNat 0)] := by
  refine ⟨h.1, ?_⟩
  have : n.toNat < l.length := by omega
  simp [intsC, List.getElem?_map, List.getElem?_eq_getElem this, List.getD_eq_getElem?_getD]
theorem lt_exs {l : List Ex'} {i : Nat} (h : i < l.length) : decide ((i : Int) < ((exsC l).length : Int)) = true := decide_eq_true (by rw [exsC_len]; omega)
theorem ge_exs {l : List Ex'} : decide ((l.length : Int) < ((exsC l).length : Int)) = false := decide_eq_false (by rw [exsC_len]; omega)

def ofS (h : Heap) (lo : Nat) (l : List Int) (es : List Ex') (j : Int) (a : Int) : St :=
  { env := [(0, .v (.vs 1 (intsC l))), (5, .v (.int .i64 a)), (17, .v (.vs 4 (exsC es))), (18, .v (.int .i64 (exsC es).length)), (19, .v (.int .i64 j))], loc := [], heap := h, inRound := false, lo := lo }
theorem of_run : ∀ (k : Nat) (e : Ex') (l : List Int), exK e ≤ k → exB e → rdE l.length e → ∀ (lo : Nat) (h : Heap),
    call Try.prog cfg k lo (.func 47) [.vs 1 (intsC l), .agg (exC e)] h = some (.int .i64 (ofE l e), h)
  | 0, e, l, hk, _, _, _, _ => by have := exK_pos e; omega
  | k + 1, .mk op n cp es, l, hk, hb, hr, lo, h => by
    rw [exK] at hk
    rw [exB] at hb
    rw [rdE] at hr
    have hlen := exsK_len es
    have hbk := hb.1
    apply W_call Try.func47 rfl (Nat.le_of_ble_eq_true rfl) rfl
    have hrow : (op == 1) = true → _ := fun hop => intsC_at (hr.1 (by simpa using hop))
    cases hc : (op == 1)
    case' true => replace hrow := hrow hc
    all_goals
      (repeat' (first | apply W_seq | refine W_true rfl rfl ?_ | refine W_false rfl rfl ?_ | refine W_region (id := 0) rfl ?_ | refine W_region (id := 1) rfl ?_ | (refine W_ops (id := 2) ?_ <;> refine T_ch 2 rfl ?_ <;> (refine T_go rfl ?_; first | refine G_true rfl rfl ?_ | refine G_false rfl rfl ?_ | refine G_true rfl (by with_reducible assumption) ?_ | refine G_false rfl (by with_reducible assumption) ?_ | refine G_true rfl (by assumption) ?_ | refine G_false rfl (by assumption) ?_ | refine G_split rfl (fun _ => ?_) (fun _ => ?_)) <;> apply T_nil) | (refine W_ops (id := 3) ?_ <;> refine T_ch 3 rfl ?_ <;> (refine T_go rfl ?_; first | refine G_op (O_index rfl rfl rfl rfl rfl (by assumption)) ?_ | refine G_op (O_indexI rfl rfl rfl rfl rfl (by assumption)) ?_ | refine G_op (O_indexH rfl rfl rfl rfl rfl (by assumption) (by assumption) (by assumption)) ?_ | refine G_op rfl ?_) <;> (refine T_go rfl ?_; first | refine G_op rfl ?_ | refine G_op (O_loadS rfl rfl rfl rfl (by assumption) rfl rfl) ?_ | refine G_op (O_loadH rfl rfl rfl (by assumption) rfl rfl) ?_) <;> refine T_ch 1 rfl ?_ <;> apply T_nil) | refine W_region (id := 4) rfl ?_ | apply W_skip | apply W_block | apply W_ret | apply W_exit | refine W_true rfl (by assumption) ?_ | refine W_false rfl (by assumption) ?_ | refine W_cond rfl (fun _ => ?_) (fun _ => ?_)))
      apply W_iter (S := ofS h h.length l es) (l := es) (fun rest a => ofEs l a rest = ofE l (.mk op n cp es)) (by omega) (by omega) rfl (by simp only [ofE]; simp at hc; simp [hc])
      · intro i e rest a hi hd hil hJ
        have hrow := exsC_get _ _ _ hi
        have ih := of_run k e l (by have := exsK_mem es i _ hi; omega) (exsB_mem es i _ hb.2 hi) (rdEs_mem hr.2 hi) h.length h
        have hlt := lt_exs hil
        obtain ⟨op', n', cp', es'⟩ := e
        (repeat' (first | apply W_seq | refine W_true rfl rfl ?_ | refine W_false rfl rfl ?_ | (refine W_ops (id := 5) ?_ <;> (refine T_go rfl ?_; first | refine G_true rfl rfl ?_ | refine G_false rfl rfl ?_ | refine G_true rfl (by with_reducible assumption) ?_ | refine G_false rfl (by with_reducible assumption) ?_ | refine G_true rfl (by assumption) ?_ | refine G_false rfl (by assumption) ?_ | refine G_split rfl (fun _ => ?_) (fun _ => ?_)) <;> apply T_nil) | (refine W_ops (id := 6) ?_ <;> (refine T_go rfl ?_; first | refine G_op (O_index rfl rfl rfl rfl rfl (by assumption)) ?_ | refine G_op (O_indexI rfl rfl rfl rfl rfl (by assumption)) ?_ | refine G_op (O_indexH rfl rfl rfl rfl rfl (by assumption) (by assumption) (by assumption)) ?_ | refine G_op rfl ?_) <;> (refine T_go rfl ?_; first | refine G_op rfl ?_ | refine G_op (O_loadS rfl rfl rfl rfl (by assumption) rfl rfl) ?_ | refine G_op (O_loadH rfl rfl rfl (by assumption) rfl rfl) ?_) <;> refine T_ch 2 rfl ?_ <;> apply T_nil) | (refine W_ops (id := 7) ?_ <;> refine T_ch 3 rfl ?_ <;> (refine T_go rfl ?_; refine G_op (O_call rfl rfl rfl rfl (by assumption)) ?_) <;> refine T_ch 2 rfl ?_ <;> apply T_nil) | refine W_region (id := 8) rfl ?_ | apply W_skip | apply W_block | apply W_ret | apply W_exit | refine W_true rfl (by assumption) ?_ | refine W_false rfl (by assumption) ?_ | refine W_cond rfl (fun _ => ?_) (fun _ => ?_)))
        exact ⟨_, rfl, by rw [← hJ]; rfl⟩
      · intro a hJ
        have hlt := ge_exs (l := es)
        (repeat' (first | apply W_seq | refine W_true rfl rfl ?_ | refine W_false rfl rfl ?_ | (refine W_ops (id := 5) ?_ <;> (refine T_go rfl ?_; first | refine G_true rfl rfl ?_ | refine G_false rfl rfl ?_ | refine G_true rfl (by with_reducible assumption) ?_ | refine G_false rfl (by with_reducible assumption) ?_ | refine G_true rfl (by assumption) ?_ | refine G_false rfl (by assumption) ?_ | refine G_split rfl (fun _ => ?_) (fun _ => ?_)) <;> apply T_nil) | refine W_region (id := 9) rfl ?_ | apply W_skip | apply W_block | apply W_ret | apply W_exit | refine W_true rfl (by assumption) ?_ | refine W_false rfl (by assumption) ?_ | refine W_cond rfl (fun _ => ?_) (fun _ => ?_)))
        exact ⟨.inl rfl, by rw [← hJ]; rfl⟩
end Go.Proofs.Ytelobnllkhnpaaa.L
