/- Lists that grow; levels; level.check; ref21.Expr; level.Expr. -/
import Derived.Test.YtelobnllkhnpaaaLvM
import Derived.Test.YtelobnllkhnpaaaLvAcc
open Go Go.Proofs Go.Ev Go.Proofs.Ytelobnllkhnpaaa.E
namespace Go.Proofs.Ytelobnllkhnpaaa.L
set_option linter.unusedVariables false
set_option linter.unusedSimpArgs false
set_option maxRecDepth 100000

def levs (p : Pr') : List Int := p.vars.map (·.level)
def lvS (h : Heap) (vs : List Vr') (i : Int) (l : List Int) : St :=
  { env := [(3, .v (accA h 1 (intsC l))), (7, .v (.vs 3 (vsC vs))), (8, .v (.int .i64 (vsC vs).length)), (9, .v (.int .i64 i))], loc := [], heap := accH h 3 (intsC l), inRound := false, lo := h.length }
theorem intsC_row (l : List Int) : ∀ r, r ∈ intsC l → r.length = 1 ∧ ∀ x, x ∈ r → static x = true := by
  intro r hr
  obtain ⟨n, _, rfl⟩ := List.mem_map.1 hr
  refine ⟨rfl, fun x hx => ?_⟩
  simp at hx; subst hx; rfl
theorem intsC_len (l : List Int) : (intsC l).length = l.length := by simp [intsC]
theorem int_append (h : Heap) (l : List Int) (v : Int) (hl : l.length < 1000000) : append cfg.tab h.length (accH h 3 (intsC l)) 38 (accA h 1 (intsC l)) (.vs 1 [[.int .i64 v]]) = some (accA h 1 (intsC (l ++ [v])), accH h 3 (intsC (l ++ [v]))) := by
  have := acc_append (tab := cfg.tab) (lo := h.length) (h := h) (t := 38) (e := 3) rfl rfl (by decide) (Nat.le_refl _) (intsC l) [[.int .i64 v]] (fun r hr => (intsC_row l r hr).1) (by rw [intsC_len]; simp only [List.length_cons, List.length_nil, room]; show (l.length + (0 + 1)) * 8 ≤ _; omega) (by rw [intsC_len]; simp [room]; omega)
  rw [this]
  simp [intsC]
theorem levels_run (p : Pr') (k : Nat) (hk : p.vars.length < k) (hv : p.vars.length < 1000) (h : Heap) (lo : Nat) : call Try.prog cfg (k + 1) lo (.func 48) [.agg (prC p)] h = some (accV 1 (intsC (levs p)), h) := by
  obtain ⟨w, vs, body⟩ := p
  dsimp only at hk hv
  have hfin := acc_frz (h := h) (e := 3) (sz := 1) (intsC (levs ⟨w, vs, body⟩)) (intsC_row _)
  apply W_call Try.func48 rfl (Nat.le_of_ble_eq_true rfl) rfl
  (repeat' (first | apply W_seq | refine W_true rfl rfl ?_ | refine W_false rfl rfl ?_ | refine W_region (id := 0) rfl ?_ | refine W_region (id := 1) rfl ?_ | refine W_region (id := 2) rfl ?_ | apply W_skip | apply W_block | apply W_ret | apply W_exit | refine W_true rfl (by assumption) ?_ | refine W_false rfl (by assumption) ?_ | refine W_cond rfl (fun _ => ?_) (fun _ => ?_)))
  apply W_iterI (S := lvS h vs) (l := vs) (a0 := []) (fun i rest a => a ++ rest.map (·.level) = levs ⟨w, vs, body⟩ ∧ a.length = i) (by omega) (by omega) rfl ⟨rfl, rfl⟩
  · intro i v rest a hi hd hil hJ
    have hrow := vsC_get hi
    have hlt := lt_vsC hil
    have hap := int_append h a v.level (by omega)
    obtain ⟨nm, level, cells⟩ := v
    dsimp only at hap
    (repeat' (first | apply W_seq | refine W_true rfl rfl ?_ | refine W_false rfl rfl ?_ | (refine W_ops (id := 3) ?_ <;> (refine T_go rfl ?_; first | refine G_true rfl rfl ?_ | refine G_false rfl rfl ?_ | refine G_true rfl (by with_reducible assumption) ?_ | refine G_false rfl (by with_reducible assumption) ?_ | refine G_true rfl (by assumption) ?_ | refine G_false rfl (by assumption) ?_ | refine G_split rfl (fun _ => ?_) (fun _ => ?_)) <;> apply T_nil) | (refine W_ops (id := 4) ?_ <;> (refine T_go rfl ?_; first | refine G_op (O_index rfl rfl rfl rfl rfl (by assumption)) ?_ | refine G_op (O_indexI rfl rfl rfl rfl rfl (by assumption)) ?_ | refine G_op (O_indexH rfl rfl rfl rfl rfl (by assumption) (by assumption) (by assumption)) ?_ | refine G_op rfl ?_) <;> (refine T_go rfl ?_; first | refine G_op rfl ?_ | refine G_op (O_loadS rfl rfl rfl rfl (by assumption) rfl rfl) ?_ | refine G_op (O_loadH rfl rfl rfl (by assumption) rfl rfl) ?_) <;> refine T_ch 2 rfl ?_ <;> apply T_nil) | (refine W_ops (id := 5) ?_ <;> refine T_ch 4 rfl ?_ <;> (refine T_go rfl ?_; first | refine G_op (O_append rfl rfl rfl rfl rfl (by assumption)) ?_ | refine G_op rfl ?_) <;> refine T_ch 1 rfl ?_ <;> apply T_nil) | refine W_region (id := 6) rfl ?_ | apply W_skip | apply W_block | apply W_ret | apply W_exit | refine W_true rfl (by assumption) ?_ | refine W_false rfl (by assumption) ?_ | refine W_cond rfl (fun _ => ?_) (fun _ => ?_)))
    exact ⟨a ++ [level], rfl, by rw [← hJ.1]; simp, by simp [hJ.2]⟩
  · intro a hJ
    have hlt := ge_vsC (l := vs)
    (repeat' (first | apply W_seq | refine W_true rfl rfl ?_ | refine W_false rfl rfl ?_ | (refine W_ops (id := 3) ?_ <;> (refine T_go rfl ?_; first | refine G_true rfl rfl ?_ | refine G_false rfl rfl ?_ | refine G_true rfl (by with_reducible assumption) ?_ | refine G_false rfl (by with_reducible assumption) ?_ | refine G_true rfl (by assumption) ?_ | refine G_false rfl (by assumption) ?_ | refine G_split rfl (fun _ => ?_) (fun _ => ?_)) <;> apply T_nil) | refine W_region (id := 7) rfl ?_ | apply W_skip | apply W_block | apply W_ret | apply W_exit | refine W_true rfl (by assumption) ?_ | refine W_false rfl (by assumption) ?_ | refine W_cond rfl (fun _ => ?_) (fun _ => ?_)))
    have : a = levs ⟨w, vs, body⟩ := by simpa using hJ.1
    subst this
    exact ⟨.inl rfl, hfin⟩
def lrS (h : Heap) (p : Pr') (i : Int) (l : List Int) : St :=
  { env := [(1, .p 1 0), (3, .v (accA h 1 (intsC l))), (4, .v (.int .i64 i))], loc := [(1, prC p)], heap := accH h 3 (intsC l), inRound := false, lo := h.length }
theorem levelsR_run (p : Pr') (k : Nat) (hk : p.vars.length < k) (hv : p.vars.length < 1000) (h : Heap) (lo : Nat) : call Try.prog cfg (k + 1) lo (.func 18) [.agg (prC p)] h = some (accV 1 (intsC (levs p)), h) := by
  obtain ⟨w, vs, body⟩ := p
  dsimp only at hk hv
  have hfin := acc_frz (h := h) (e := 3) (sz := 1) (intsC (levs ⟨w, vs, body⟩)) (intsC_row _)
  apply W_call Try.func18 rfl (Nat.le_of_ble_eq_true rfl) rfl
  (repeat' (first | apply W_seq | refine W_true rfl rfl ?_ | refine W_false rfl rfl ?_ | refine W_region (id := 0) rfl ?_ | refine W_region (id := 1) rfl ?_ | refine W_region (id := 2) rfl ?_ | apply W_skip | apply W_block | apply W_ret | apply W_exit | refine W_true rfl (by assumption) ?_ | refine W_false rfl (by assumption) ?_ | refine W_cond rfl (fun _ => ?_) (fun _ => ?_)))
  apply W_iterI (S := lrS h ⟨w, vs, body⟩) (l := vs) (a0 := []) (fun i rest a => a ++ rest.map (·.level) = levs ⟨w, vs, body⟩ ∧ a.length = i) (by omega) (by omega) rfl ⟨rfl, rfl⟩
  · intro i v rest a hi hd hil hJ
    have hrow := vsC_get hi
    have hlt := lt_vsC hil
    have hap := int_append h a v.level (by omega)
    obtain ⟨nm, level, cells⟩ := v
    dsimp only at hap
    (repeat' (first | apply W_seq | refine W_true rfl rfl ?_ | refine W_false rfl rfl ?_ | (refine W_ops (id := 3) ?_ <;> refine T_ch 4 rfl ?_ <;> (refine T_go rfl ?_; first | refine G_true rfl rfl ?_ | refine G_false rfl rfl ?_ | refine G_true rfl (by with_reducible assumption) ?_ | refine G_false rfl (by with_reducible assumption) ?_ | refine G_true rfl (by assumption) ?_ | refine G_false rfl (by assumption) ?_ | refine G_split rfl (fun _ => ?_) (fun _ => ?_)) <;> apply T_nil) | refine W_region (id := 4) rfl ?_ | (refine W_ops (id := 5) ?_ <;> refine T_ch 4 rfl ?_ <;> (refine T_go rfl ?_; first | refine G_op (O_index rfl rfl rfl rfl rfl (by assumption)) ?_ | refine G_op (O_indexI rfl rfl rfl rfl rfl (by assumption)) ?_ | refine G_op (O_indexH rfl rfl rfl rfl rfl (by assumption) (by assumption) (by assumption)) ?_ | refine G_op rfl ?_) <;> refine T_ch 1 rfl ?_ <;> (refine T_go rfl ?_; first | refine G_op rfl ?_ | refine G_op (O_loadS rfl rfl rfl rfl (by assumption) rfl rfl) ?_ | refine G_op (O_loadH rfl rfl rfl (by assumption) rfl rfl) ?_) <;> refine T_ch 1 rfl ?_ <;> (refine T_go rfl ?_; first | refine G_op (O_append rfl rfl rfl rfl rfl (by assumption)) ?_ | refine G_op rfl ?_) <;> refine T_ch 1 rfl ?_ <;> apply T_nil) | apply W_skip | apply W_block | apply W_ret | apply W_exit | refine W_true rfl (by assumption) ?_ | refine W_false rfl (by assumption) ?_ | refine W_cond rfl (fun _ => ?_) (fun _ => ?_)))
    exact ⟨a ++ [level], rfl, by rw [← hJ.1]; simp, by simp [hJ.2]⟩
  · intro a hJ
    have hlt := ge_vsC (l := vs)
    (repeat' (first | apply W_seq | refine W_true rfl rfl ?_ | refine W_false rfl rfl ?_ | (refine W_ops (id := 3) ?_ <;> refine T_ch 4 rfl ?_ <;> (refine T_go rfl ?_; first | refine G_true rfl rfl ?_ | refine G_false rfl rfl ?_ | refine G_true rfl (by with_reducible assumption) ?_ | refine G_false rfl (by with_reducible assumption) ?_ | refine G_true rfl (by assumption) ?_ | refine G_false rfl (by assumption) ?_ | refine G_split rfl (fun _ => ?_) (fun _ => ?_)) <;> apply T_nil) | refine W_region (id := 6) rfl ?_ | apply W_skip | apply W_block | apply W_ret | apply W_exit | refine W_true rfl (by assumption) ?_ | refine W_false rfl (by assumption) ?_ | refine W_cond rfl (fun _ => ?_) (fun _ => ?_)))
    have : a = levs ⟨w, vs, body⟩ := by simpa using hJ.1
    subst this
    exact ⟨.inl rfl, hfin⟩

def oeS (h : Heap) (lo : Nat) (l : List Int) (e : Ex') (j : Int) (a : Int) : St :=
  { env := [(0, .v (.vs 1 (intsC l))), (3, .p 3 0), (5, .v (.int .i64 a)), (6, .v (.int .i64 j))], loc := [(3, exC e)], heap := h, inRound := false, lo := lo }
theorem ofR_run : ∀ (k : Nat) (e : Ex') (l : List Int), exK e + 1 ≤ k → exB e → rdE l.length e → ∀ (lo : Nat) (h : Heap),
    call Try.prog cfg k lo (.func 17) [.vs 1 (intsC l), .agg (exC e)] h = some (.int .i64 (ofE l e), h)
  | 0, e, l, hk, _, _, _, _ => by have := exK_pos e; omega
  | k + 1, .mk op n cp es, l, hk, hb, hr, lo, h => by
    rw [exK] at hk
    rw [exB] at hb
    rw [rdE] at hr
    have hlen := exsK_len es
    have hbk := hb.1
    have hrow : (op == 1) = true → _ := fun hop => intsC_at (hr.1 (by simpa using hop))
    cases hc : (op == 1)
    case' true => replace hrow := hrow hc
    all_goals
      apply W_call Try.func17 rfl (Nat.le_of_ble_eq_true rfl) rfl
      (repeat' (first | apply W_seq | refine W_true rfl rfl ?_ | refine W_false rfl rfl ?_ | refine W_region (id := 0) rfl ?_ | refine W_region (id := 1) rfl ?_ | (refine W_ops (id := 2) ?_ <;> refine T_ch 2 rfl ?_ <;> (refine T_go rfl ?_; first | refine G_true rfl rfl ?_ | refine G_false rfl rfl ?_ | refine G_true rfl (by with_reducible assumption) ?_ | refine G_false rfl (by with_reducible assumption) ?_ | refine G_true rfl (by assumption) ?_ | refine G_false rfl (by assumption) ?_ | refine G_split rfl (fun _ => ?_) (fun _ => ?_)) <;> apply T_nil) | (refine W_ops (id := 3) ?_ <;> refine T_ch 3 rfl ?_ <;> (refine T_go rfl ?_; first | refine G_op (O_index rfl rfl rfl rfl rfl (by assumption)) ?_ | refine G_op (O_indexI rfl rfl rfl rfl rfl (by assumption)) ?_ | refine G_op (O_indexH rfl rfl rfl rfl rfl (by assumption) (by assumption) (by assumption)) ?_ | refine G_op rfl ?_) <;> (refine T_go rfl ?_; first | refine G_op rfl ?_ | refine G_op (O_loadS rfl rfl rfl rfl (by assumption) rfl rfl) ?_ | refine G_op (O_loadH rfl rfl rfl (by assumption) rfl rfl) ?_) <;> refine T_ch 1 rfl ?_ <;> apply T_nil) | refine W_region (id := 4) rfl ?_ | apply W_skip | apply W_block | apply W_ret | apply W_exit | refine W_true rfl (by assumption) ?_ | refine W_false rfl (by assumption) ?_ | refine W_cond rfl (fun _ => ?_) (fun _ => ?_)))
      apply W_iter (S := oeS h h.length l (.mk op n cp es)) (l := es) (fun rest a => ofEs l a rest = ofE l (.mk op n cp es)) (by omega) (by omega) rfl (by simp only [ofE]; simp at hc; simp [hc])
      · intro i e rest a hi hd hil hJ
        have hrow := exsC_get _ _ _ hi
        have ih := ofR_run k e l (by have := exsK_mem es i _ hi; omega) (exsB_mem es i _ hb.2 hi) (rdEs_mem hr.2 hi) h.length h
        have hO := or_run (k - 1) h.length a (ofE l e) h
        rw [show k - 1 + 1 = k by omega] at hO
        have hlt := lt_exs hil
        obtain ⟨op', n', cp', es'⟩ := e
        (repeat' (first | apply W_seq | refine W_true rfl rfl ?_ | refine W_false rfl rfl ?_ | (refine W_ops (id := 5) ?_ <;> refine T_ch 4 rfl ?_ <;> (refine T_go rfl ?_; first | refine G_true rfl rfl ?_ | refine G_false rfl rfl ?_ | refine G_true rfl (by with_reducible assumption) ?_ | refine G_false rfl (by with_reducible assumption) ?_ | refine G_true rfl (by assumption) ?_ | refine G_false rfl (by assumption) ?_ | refine G_split rfl (fun _ => ?_) (fun _ => ?_)) <;> apply T_nil) | refine W_region (id := 6) rfl ?_ | (refine W_ops (id := 7) ?_ <;> refine T_ch 5 rfl ?_ <;> (refine T_go rfl ?_; first | refine G_op (O_index rfl rfl rfl rfl rfl (by assumption)) ?_ | refine G_op (O_indexI rfl rfl rfl rfl rfl (by assumption)) ?_ | refine G_op (O_indexH rfl rfl rfl rfl rfl (by assumption) (by assumption) (by assumption)) ?_ | refine G_op rfl ?_) <;> (refine T_go rfl ?_; first | refine G_op rfl ?_ | refine G_op (O_loadS rfl rfl rfl rfl (by assumption) rfl rfl) ?_ | refine G_op (O_loadH rfl rfl rfl (by assumption) rfl rfl) ?_) <;> (refine T_go rfl ?_; refine G_op (O_call rfl rfl rfl rfl (by assumption)) ?_) <;> (refine T_go rfl ?_; refine G_op (O_call rfl rfl rfl rfl (by assumption)) ?_) <;> refine T_ch 1 rfl ?_ <;> apply T_nil) | apply W_skip | apply W_block | apply W_ret | apply W_exit | refine W_true rfl (by assumption) ?_ | refine W_false rfl (by assumption) ?_ | refine W_cond rfl (fun _ => ?_) (fun _ => ?_)))
        exact ⟨_, rfl, by rw [← hJ]; rfl⟩
      · intro a hJ
        have hlt := ge_exs (l := es)
        (repeat' (first | apply W_seq | refine W_true rfl rfl ?_ | refine W_false rfl rfl ?_ | (refine W_ops (id := 5) ?_ <;> refine T_ch 4 rfl ?_ <;> (refine T_go rfl ?_; first | refine G_true rfl rfl ?_ | refine G_false rfl rfl ?_ | refine G_true rfl (by with_reducible assumption) ?_ | refine G_false rfl (by with_reducible assumption) ?_ | refine G_true rfl (by assumption) ?_ | refine G_false rfl (by assumption) ?_ | refine G_split rfl (fun _ => ?_) (fun _ => ?_)) <;> apply T_nil) | refine W_region (id := 8) rfl ?_ | apply W_skip | apply W_block | apply W_ret | apply W_exit | refine W_true rfl (by assumption) ?_ | refine W_false rfl (by assumption) ?_ | refine W_cond rfl (fun _ => ?_) (fun _ => ?_)))
        exact ⟨.inl rfl, by rw [← hJ]; rfl⟩

def chkI (p : Pr') : Int := if okP p = true then (if singleP p = true then 0 else 1) else 30
theorem levcheck_run (p : Pr') (k : Nat) (hk : smsK p.body + p.vars.length + 90 ≤ k) (hb : prB p) (h : Heap) (lo : Nat) : call Try.prog cfg (k + 1) lo (.func 45) [.agg (prC p)] h = some (.int .i64 (chkI p), h) := by
  have hS := singleP_run p (k - 2) (by omega) hb h h.length
  rw [show k - 2 + 2 = k by omega] at hS
  have hc : chkI p = if okP p = true then (if singleP p = true then 0 else 1) else 30 := rfl
  have hsp : singleP p = (okP p && singleR p) := rfl
  generalize singleP p = sp at hS hc hsp
  generalize okP p = ok at hS hc hsp
  obtain ⟨w, vs, body⟩ := p
  cases ok <;> cases sp
  · apply W_call Try.func45 rfl (Nat.le_of_ble_eq_true rfl) rfl
    (repeat' (first | apply W_seq | refine W_true rfl rfl ?_ | refine W_false rfl rfl ?_ | refine W_region (id := 0) rfl ?_ | (refine W_ops (id := 1) ?_ <;> refine T_ch 1 rfl ?_ <;> (refine T_go rfl ?_; refine G_op (O_call rfl rfl rfl rfl (by assumption)) ?_) <;> refine T_ch 1 rfl ?_ <;> (refine T_go rfl ?_; first | refine G_true rfl rfl ?_ | refine G_false rfl rfl ?_ | refine G_true rfl (by with_reducible assumption) ?_ | refine G_false rfl (by with_reducible assumption) ?_ | refine G_true rfl (by assumption) ?_ | refine G_false rfl (by assumption) ?_ | refine G_split rfl (fun _ => ?_) (fun _ => ?_)) <;> refine T_ch 3 rfl ?_ <;> apply T_nil) | (refine W_ops (id := 2) ?_ <;> refine T_ch 1 rfl ?_ <;> (refine T_go rfl ?_; first | refine G_true rfl rfl ?_ | refine G_false rfl rfl ?_ | refine G_true rfl (by with_reducible assumption) ?_ | refine G_false rfl (by with_reducible assumption) ?_ | refine G_true rfl (by assumption) ?_ | refine G_false rfl (by assumption) ?_ | refine G_split rfl (fun _ => ?_) (fun _ => ?_)) <;> refine T_ch 4 rfl ?_ <;> apply T_nil) | refine W_region (id := 3) rfl ?_ | refine W_region (id := 4) rfl ?_ | apply W_skip | apply W_block | apply W_ret | apply W_exit | refine W_true rfl (by assumption) ?_ | refine W_false rfl (by assumption) ?_ | refine W_cond rfl (fun _ => ?_) (fun _ => ?_)))
    all_goals exact ⟨.inl rfl, by rw [hc]; rfl⟩
  · cases hsp
  · apply W_call Try.func45 rfl (Nat.le_of_ble_eq_true rfl) rfl
    (repeat' (first | apply W_seq | refine W_true rfl rfl ?_ | refine W_false rfl rfl ?_ | refine W_region (id := 0) rfl ?_ | (refine W_ops (id := 1) ?_ <;> refine T_ch 1 rfl ?_ <;> (refine T_go rfl ?_; refine G_op (O_call rfl rfl rfl rfl (by assumption)) ?_) <;> refine T_ch 1 rfl ?_ <;> (refine T_go rfl ?_; first | refine G_true rfl rfl ?_ | refine G_false rfl rfl ?_ | refine G_true rfl (by with_reducible assumption) ?_ | refine G_false rfl (by with_reducible assumption) ?_ | refine G_true rfl (by assumption) ?_ | refine G_false rfl (by assumption) ?_ | refine G_split rfl (fun _ => ?_) (fun _ => ?_)) <;> refine T_ch 3 rfl ?_ <;> apply T_nil) | (refine W_ops (id := 2) ?_ <;> refine T_ch 1 rfl ?_ <;> (refine T_go rfl ?_; first | refine G_true rfl rfl ?_ | refine G_false rfl rfl ?_ | refine G_true rfl (by with_reducible assumption) ?_ | refine G_false rfl (by with_reducible assumption) ?_ | refine G_true rfl (by assumption) ?_ | refine G_false rfl (by assumption) ?_ | refine G_split rfl (fun _ => ?_) (fun _ => ?_)) <;> refine T_ch 4 rfl ?_ <;> apply T_nil) | refine W_region (id := 3) rfl ?_ | refine W_region (id := 4) rfl ?_ | apply W_skip | apply W_block | apply W_ret | apply W_exit | refine W_true rfl (by assumption) ?_ | refine W_false rfl (by assumption) ?_ | refine W_cond rfl (fun _ => ?_) (fun _ => ?_)))
    all_goals exact ⟨.inl rfl, by rw [hc]; rfl⟩
  · apply W_call Try.func45 rfl (Nat.le_of_ble_eq_true rfl) rfl
    (repeat' (first | apply W_seq | refine W_true rfl rfl ?_ | refine W_false rfl rfl ?_ | refine W_region (id := 0) rfl ?_ | (refine W_ops (id := 1) ?_ <;> refine T_ch 1 rfl ?_ <;> (refine T_go rfl ?_; refine G_op (O_call rfl rfl rfl rfl (by assumption)) ?_) <;> refine T_ch 1 rfl ?_ <;> (refine T_go rfl ?_; first | refine G_true rfl rfl ?_ | refine G_false rfl rfl ?_ | refine G_true rfl (by with_reducible assumption) ?_ | refine G_false rfl (by with_reducible assumption) ?_ | refine G_true rfl (by assumption) ?_ | refine G_false rfl (by assumption) ?_ | refine G_split rfl (fun _ => ?_) (fun _ => ?_)) <;> refine T_ch 3 rfl ?_ <;> apply T_nil) | (refine W_ops (id := 2) ?_ <;> refine T_ch 1 rfl ?_ <;> (refine T_go rfl ?_; first | refine G_true rfl rfl ?_ | refine G_false rfl rfl ?_ | refine G_true rfl (by with_reducible assumption) ?_ | refine G_false rfl (by with_reducible assumption) ?_ | refine G_true rfl (by assumption) ?_ | refine G_false rfl (by assumption) ?_ | refine G_split rfl (fun _ => ?_) (fun _ => ?_)) <;> refine T_ch 4 rfl ?_ <;> apply T_nil) | refine W_region (id := 3) rfl ?_ | refine W_region (id := 4) rfl ?_ | apply W_skip | apply W_block | apply W_ret | apply W_exit | refine W_true rfl (by assumption) ?_ | refine W_false rfl (by assumption) ?_ | refine W_cond rfl (fun _ => ?_) (fun _ => ?_)))
    all_goals exact ⟨.inl rfl, by rw [hc]; rfl⟩
end Go.Proofs.Ytelobnllkhnpaaa.L
