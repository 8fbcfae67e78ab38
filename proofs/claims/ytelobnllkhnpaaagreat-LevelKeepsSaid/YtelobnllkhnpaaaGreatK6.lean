/- level.flows, level.Check; the flows of the law; Same. -/
import Derived.Test.YtelobnllkhnpaaaGreatK5
set_option linter.unusedVariables false
set_option linter.unusedSimpArgs false
set_option maxHeartbeats 40000000
set_option maxRecDepth 1000000
open Go Go.Proofs Go.Ev Go.Proofs.YtelobnllkhnpaaaGreat.E
namespace Go.Proofs.YtelobnllkhnpaaaGreat.L
theorem Fi (h : aj) (rows : List (List AV)) (m : Int) (hr : ∀ r, r ∈ rows -> r.length = 3 /\ ∀ x, x ∈ r -> bh x = true) : ja true h (Dn h rows) (kN h rows m) = some (bg 3 rows, h) := by
 cases rows with
 | nil => rfl
 | cons r l =>
  have hlen : ∀ q, q ∈ r :: l -> q.length = 3 := fun q hq => (hr q hq).1
  have hst : (r :: l).flatten.all bh = true := by
   rw [List.all_eq_true];intro x hx;obtain ⟨q, h1, h2⟩ := List.mem_flatten.1 hx;exact (hr q h1).2 x h2
  have hg : (kN h (r :: l) m)[h.length + 2]? = some (.cells 109 (r :: l).flatten) := by simp [kN]
  have h1 : er (kN h (r :: l) m) h.length (.sl (h.length + 2) 3 0 (l.length + 1)) = some (.vs 3 (r :: l)) := by
   unfold er;dsimp only;rw [hg];dsimp only;rw [if_pos ⟨by omega, by rw [dg _ hlen]; simp, hst⟩, List.drop_zero]
   rw [show l.length + 1 = (r :: l).length from rfl, eY _ hlen]
  show (if true then match frz (kN h (r :: l) m) h.length (Dn h (r :: l)) with | some b => some (b, h) | none => none else _) = _;have h2 : frz (kN h (r :: l) m) h.length (Dn h (r :: l)) = some (.vs 3 (r :: l)) := h1;rw [h2]
  rfl
def HB (lv : List Int) (p : bp) : List (List AV) := (dR dy lv p.body 0 [] 0).1
theorem BT (lv : List Int) (p : bp) (k : Nat) (hk : bA p.body + 30 <= k) (hN : bu p.body <= 600) (hb : lB p) (hr : vF lv.length p.body) (h : aj) (lo : Nat) :
  call Tryz.prog ba (k + 1) lo (.func 59) [.agg (bY p), .vs 1 (ag lv)] h = some (bg 3 (HB lv p), h) := by
 have hF := mF lv h h.length (Nat.le_refl _) k p.body (by omega) hb.2.1 hb.2.2 hr 0 [] 0 (fun r hr => by cases hr) (by simp; omega);obtain ⟨g1, _⟩ := jy lv p.body 0 [] 0 (fun r hr => by cases hr);have hP : HB lv p = (dR dy lv p.body 0 [] 0).1 := rfl;generalize dR dy lv p.body 0 [] 0 = R at hF g1 hP;rw [hP];have hfin := Fi h R.1 R.2 g1;have hlo : h.length <= (h ++ [ap.cells 46 [.nils]]).length := by simp
 have hg : (h ++ [ap.cells 46 [.nils]] ++ [ap.cells 3 [.int .i64 0]])[(h ++ [ap.cells 46 [.nils]]).length]? = some (.cells 3 [.int .i64 0]) := by simp
 have e1 : (BS h []).set (h.length + 1) (.cells 3 [.int .i64 0]) = (h ++ [ap.cells 46 [.nils]] ++ [ap.cells 3 [.int .i64 0]]).set (h ++ [ap.cells 46 [.nils]]).length (.cells 3 [.int .i64 0]) := by simp [BS, List.set_append]
 have e2 : h.length + 1 = (h ++ [ap.cells 46 [.nils]]).length := by simp
 rw [vG h R.1, e1, e2] at hF;have hg2 : (kN h R.1 R.2)[h.length]? = some (.cells 46 [Dn h R.1]) := by
  cases R.1 <;> simp [kN, Dn]
 obtain ⟨w, vs, body⟩ := p;dsimp only at hF;apply ai Tryz.func59 U (Nb U) U U;(repeat' (first | apply ab | refine Wr 0 U U ?_ | refine Wr 1 U U ?_ | (refine Wo 2 U ?_;refine Tc 1 U (Tg U (aM U U U U ‹_› ⟨by assumption, U, U, Nb U⟩) ?_) <;> refine Tn ?_) | (refine Wo 3 U ?_;refine Tc 4 U (Tg U (aa U U U U ‹_›) ?_) <;> refine Tn ?_) | (refine Wo 4 U ?_;refine Tg U (aA U U U ‹_› U U) ?_ <;> refine Tc 1 U (Tn ?_)) | apply am));exact ⟨.inl rfl, hfin⟩
def Dp (p : bp) : AV := if cx p = 0 then bg 3 (HB (bd p) p) else .nils
theorem zu (p : bp) (hN : bu p.body <= 600) (k : Nat) (hk : bA p.body + p.vars.length + 100 <= k) (hb : lB p) (hr : iF p = true -> vF p.vars.length p.body) (h : aj) (lo : Nat) :
  call Tryz.prog ba (k + 1) lo (.func 15) [.agg (bY p)] h = some (.tup [Dp p, .int .i64 (cx p)], h) := by
 have hC := eg p (k - 1) (by omega) hb h h.length;rw [show k - 1 + 1 = k by omega, oQ p hN] at hC
 unfold Dp;rcases gW p with ⟨hf, hP, hS⟩ | hf | hf
 ·rw [hf] at hC ⊢
  rw [if_pos rfl];obtain ⟨hh, hl1, hl2⟩ := fC hP;have hL := mE p (k - 1) (by omega) (by omega) h h.length;have hF := BT (bd p) p (k - 1) (by omega) hN hb (by rw [cq]; exact hr hP) h h.length;rw [show k - 1 + 1 = k by omega] at hL hF
  rw [vD (vE hl1)] at hL;generalize HB (bd p) p = R at hF ⊢;generalize bd p = lv at hL hF;obtain ⟨w, vs, body⟩ := p;cases R <;>
  ·apply ai Tryz.func15 U (Nb U) U U
   (repeat' (first | apply ab | refine af U U ?_ | refine Wr 0 U U ?_ | (refine Wo 1 U ?_;refine Tc 1 U (Tg U (aa U U U U ‹_›) ?_) <;> refine Tc 1 U (Tn ?_)) | (refine Wo 2 U ?_;refine Tc 1 U (Tf U U U (Tn ?_))) | (refine Wd 4 [0,0,2,7,15,31] U U (by decide +kernel) ?_;refine Uf U U U (Uf U U U (Uf U (aa U U U U ‹_›) U ?_)) <;> refine Uo U (aa U U U U ‹_›) ?_ <;> refine Uo U U (Uo U U (Un ?_))) | apply ak | apply am));exact ⟨.inl rfl, rfl⟩
 ·rw [hf] at hC ⊢
  rw [if_neg (by simp)];obtain ⟨w, vs, body⟩ := p;apply ai Tryz.func15 U (Nb U) U U;(repeat' (first | apply ab | refine ah U U ?_ | refine Wr 0 U U ?_ | (refine Wo 1 U ?_;refine Tc 1 U (Tg U (aa U U U U ‹_›) ?_) <;> refine Tc 1 U (Tn ?_)) | (refine Wo 2 U ?_;refine Tc 1 U (Tt U U U (Tn ?_))) | refine Wr 3 U U ?_ | apply am));exact ⟨.inl rfl, rfl⟩
 ·rw [hf] at hC ⊢
  rw [if_neg (by simp)];obtain ⟨w, vs, body⟩ := p;apply ai Tryz.func15 U (Nb U) U U;(repeat' (first | apply ab | refine ah U U ?_ | refine Wr 0 U U ?_ | (refine Wo 1 U ?_;refine Tc 1 U (Tg U (aa U U U U ‹_›) ?_) <;> refine Tc 1 U (Tn ?_)) | (refine Wo 2 U ?_;refine Tc 1 U (Tt U U U (Tn ?_))) | refine Wr 3 U U ?_ | apply am));exact ⟨.inl rfl, rfl⟩
def HC (x : Int × Int × Int) : List AV := [.int .i64 x.1, .int .i64 x.2.1, .int .i64 x.2.2]
mutual
def rF : ay -> Nat
 | .mk _ _ _ t e => 1 + fD t + fD e
def fD : List ay -> Nat
 | [] => 0
 | s :: l => rF s + fD l
end
mutual
theorem mG : ∀ s : ay, rF s <= jw s
 | .mk _ _ a t e => by rw [rF, jw]; have := d6 t; have := d6 e; omega
theorem d6 : ∀ l : List ay, fD l <= bu l
 | [] => by rw [fD, bu]; omega
 | s :: l => by rw [fD, bu]; have := mG s; have := d6 l; omega
end
mutual
theorem iT : ∀ (s : ay) (n : Int), 0 <= n -> n + jw s < 1000000 -> jj s n = n + rF s
 | .mk op m a t e, n, h0, h1 => by
  rw [jw] at h1;have := d6 t;have := d6 e;rw [jj, rF, eP t 0 (by omega) (by omega), eP e 0 (by omega) (by omega), eo (n := n + 1) (by omega) (by omega), eo (n := n + 1 + _) (by omega) (by omega), eo (by omega) (by omega)]; omega
theorem eP : ∀ (l : List ay) (n : Int), 0 <= n -> n + bu l < 1000000 -> cW l n = n + fD l
 | [], n, h0, h1 => by rw [cW, fD]; omega
 | s :: l, n, h0, h1 => by
  rw [bu] at h1;have := mG s;rw [cW, fD, iT s n h0 (by omega), eP l _ (by omega) (by omega)]; omega
end
theorem li {t e : List ay} (h : nw t e = true) : t = [] /\ e = [] := by
 unfold nw at h;simp only [Bool.and_eq_true, beq_iff_eq] at h;exact ⟨List.length_eq_zero_iff.1 (by omega), List.length_eq_zero_iff.1 (by omega)⟩
mutual
theorem Dq {w : Int} {vs : List bk} (lv : List Int) : ∀ (s : ay) (ar : Int) (x : List (List AV)) (n : Int), dT w vs s = true -> 0 <= n -> n + jw s < 1000000 -> ma dy lv s ar x n = (x ++ xg lv s ar n, jj s n)
 | .mk op nn a t e, ar, x, n, hr, h0, h1 => by
  rw [dT] at hr;simp only [Bool.and_eq_true] at hr;obtain ⟨⟨⟨hh, ht⟩, he⟩, _⟩ := hr;have hc1 := iT (.mk op nn a t e) n h0 h1;rw [jw] at h1;rw [ma, xg];unfold iP at hh;dsimp only at hh;have hflat : t = [] /\ e = [] -> jj (.mk op nn a t e) n = IntKind.i64.wrap (n + 1) := fun ⟨q1, q2⟩ => by
   subst q1 q2;rw [hc1, rF, fD, eo (by omega) (by omega)]; omega
  by_cases o0 : op = 0
  ·rw [if_pos o0, Bool.and_eq_true] at hh
   have hf := li hh.1;rw [hflat hf, if_pos o0, if_pos o0, hf.1, hf.2]; simp [eE, dy]
  by_cases o4 : op = 4
  ·rw [if_neg o0, if_neg (by omega), if_neg (by omega), if_neg (by omega), if_pos o4, Bool.and_eq_true] at hh
   have hf := li hh.1;rw [hflat hf, if_neg o0, if_pos o4, if_neg o0, if_pos o4, hf.1, hf.2]; simp [eE, dy]
  by_cases o3 : op = 3
  ·rw [if_neg o0, if_neg (by omega), if_neg (by omega), if_pos o3] at hh
   simp only [Bool.and_eq_true] at hh;have hf := li hh.1.1.1;rw [hflat hf, if_neg o0, if_neg o4, if_pos o3, if_neg o0, if_neg o4, if_pos o3, hf.1, hf.2]; simp [eE, dy]
  rw [if_neg o0, if_neg o4, if_neg o3, if_neg o0, if_neg o4, if_neg o3, List.nil_append]
  by_cases o1 : op = 1 \/ op = 2
  ·rw [if_pos o1, eo (n := n + 1) (by omega) (by omega), nD lv t _ x (n + 1) ht (by omega) (by omega)]
   have := d6 t;have := d6 e;have e1 : cW t (n + 1) = n + 1 + fD t := eP t _ (by omega) (by omega);have e2 : cW t 0 = fD t := by rw [eP t 0 (by omega) (by omega)]; omega
   dsimp only;rw [e1, nD lv e _ _ (n + 1 + fD t) he (by omega) (by omega), e2, eo (n := n + 1 + _) (by omega) (by omega), hc1, rF, eP e _ (by omega) (by omega), List.append_assoc];congr 1; omega
  ·rw [if_neg o1]
   rw [if_neg o0, if_neg (by omega), if_neg (by omega), if_neg o3, if_neg o4] at hh
   split at hh
   ·simp only [Bool.and_eq_true] at hh
    have hf := li hh.1.1;rw [hflat hf, hf.1, hf.2]; simp [eE]
   ·cases hh
theorem nD {w : Int} {vs : List bk} (lv : List Int) : ∀ (l : List ay) (ar : Int) (x : List (List AV)) (n : Int), ce w vs l = true -> 0 <= n -> n + bu l < 1000000 -> dR dy lv l ar x n = (x ++ eE lv l ar n, cW l n)
 | [], ar, x, n, hr, h0, h1 => by rw [dR, eE, cW, List.append_nil]
 | s :: l, ar, x, n, hr, h0, h1 => by
  rw [ce, Bool.and_eq_true] at hr;rw [bu] at h1;have := mG s;rw [dR, eE, cW, Dq lv s ar x n hr.1 h0 (by omega)];dsimp only;rw [iT s n h0 (by omega), nD lv l ar _ _ hr.2 (by omega) (by omega), List.append_assoc]
end
mutual
theorem Dr {w : Int} {vs : List bk} : ∀ (s : ay), dT w vs s = true -> xe vs.length s
 | .mk op nn a t e, hr => by
  rw [dT] at hr;simp only [Bool.and_eq_true] at hr;obtain ⟨⟨⟨hh, ht⟩, he⟩, ha⟩ := hr;rw [xe];refine ⟨?_, fun ho => ?_, vH t ht, vH e he⟩
  ·have key : ∀ es : List aF, es.all (ks w vs 1) = true -> s7 vs.length es := by
    intro es
    induction es with
    | nil => intro _; trivial
    | cons x es ih =>
     intro h;rw [List.all_cons, Bool.and_eq_true] at h;exact ⟨GS h.1, ih h.2⟩
   exact key a ha
  ·unfold iP at hh
   dsimp only at hh;rcases ho with ho | ho
   ·rw [if_pos ho, Bool.and_eq_true] at hh
    have := hh.2;unfold cw at this;simp only [Bool.and_eq_true, decide_eq_true_eq] at this;exact this.1
   ·rw [if_neg (by omega), if_neg (by omega), if_neg (by omega), if_neg (by omega), if_pos ho, Bool.and_eq_true] at hh
    have := hh.2;unfold cw at this;simp only [Bool.and_eq_true, decide_eq_true_eq] at this;exact this.1
theorem vH {w : Int} {vs : List bk} : ∀ (l : List ay), ce w vs l = true -> vF vs.length l
 | [], _ => trivial
 | s :: l, hr => by
  rw [ce, Bool.and_eq_true] at hr;exact ⟨Dr s hr.1, vH l hr.2⟩
end
theorem bV {p : bp} (h : iF p = true) : ce p.width p.vars p.body = true := by
 unfold iF at h;simp only [Bool.and_eq_true] at h;exact h.2
theorem GV (p : bp) (lv : List Int) (hP : iF p = true) (hN : bu p.body <= 600) : HB lv p = eE lv p.body 0 0 := by
 unfold HB;rw [nD lv p.body 0 [] 0 (bV hP) (by omega) (by omega)]
 rfl
theorem BU (a f t : Int) : ∃ fl : List (Int × Int × Int), ep a f t = fl.map HC := by
 unfold ep
 split
 ·exact ⟨[], rfl⟩
 ·exact ⟨[(a, f, t)], rfl⟩
def ic (l : List Int) : List AV := l.map fun n => .int .i64 n
theorem qi (l : List Int) : (ag l).flatten = ic l := by
 induction l with
 | nil => rfl
 | cons a l ih => simp only [ag, List.map_cons, List.flatten_cons, ic] at ih ⊢; rw [ih]; rfl
theorem fE (l : List Int) : (ic l).length = l.length := by simp [ic]
theorem vI {l : List Int} {i : Nat} {n : Int} (h : l[i]? = some n) : (ic l)[i]? = some (.int .i64 n) := by simp [ic, h]
theorem jz (l : List Int) : (ic l).all bh = true := by
 rw [List.all_eq_true];intro x hx;obtain ⟨n, _, rfl⟩ := List.mem_map.1 hx
 rfl
theorem zv {l : List Int} {i : Nat} (v : Int) (h : i < l.length) : bb (ic l) i [.int .i64 v] = ic (l.set i v) := by
 unfold bb ic;rw [List.set_eq_take_append_cons_drop, if_pos h];simp [List.map_take, List.map_drop]
theorem ik : ∀ l : List Int, cv 1 l.length (ic l) = ag l
 | [] => rfl
 | a :: l => by
  have := ik l;simp only [ic, ag, List.length_cons, cv, List.map_cons] at this ⊢;rw [<- this]; rfl
def cb (x : Int) : Prop := 0 <= x /\ x < 32
def bf (l : List Int) : Prop := ∀ x, x ∈ l -> cb x
theorem lG {Q : Int -> Int -> Prop} (h : ∀ a b : Fin 32, Q (a.val : Int) (b.val : Int)) {a b : Int} (ha : cb a) (hb : cb b) : Q a b := by
 have := h ⟨a.toNat, by have := ha.2; have := ha.1; omega⟩ ⟨b.toNat, by have := hb.2; have := hb.1; omega⟩
 rw [Int.toNat_of_nonneg ha.1, Int.toNat_of_nonneg hb.1] at this;exact this
theorem bC {a b : Int} (ha : cb a) (hb : cb b) : cb (be a b) := lG (Q := fun a b => 0 <= be a b /\ be a b < 32) (by decide +kernel) ha hb
theorem jA (a b : Int) : be a b = be b a := by unfold be; rw [BitVec.or_comm]
theorem nE {b : Int} (hb : cb b) : be 0 b = b := lG (Q := fun a b => be 0 b = b) (by decide +kernel) hb hb
theorem ut {b : Int} (hb : cb b) : be b 0 = b := by rw [jA, nE hb]
theorem zw {a b : Int} (ha : cb a) (hb : cb b) : a <= be a b := lG (Q := fun a b => a <= be a b) (by decide +kernel) ha hb
theorem cm : cb 0 := by unfold cb; omega
theorem mb : cb 16 := by unfold cb; omega
theorem aJ {l : List Int} (h : bf l) (i : Nat) : cb (l.getD i 0) := by
 rw [List.getD_eq_getElem?_getD];cases hi : l[i]? with
 | none => exact cm
 | some x => exact h x (List.mem_of_getElem? hi)
mutual
theorem fa {l : List Int} (h : bf l) : ∀ e : aF, cb (gB l e)
 | .mk op n _ es => by
  rw [gB];refine cn h es ?_
  split
  ·exact aJ h _
  ·exact cm
theorem cn {l : List Int} (h : bf l) : ∀ (es : List aF) {a : Int}, cb a -> cb (bz l a es)
 | [], a, ha => by rw [bz]; exact ha
 | e :: es, a, ha => by rw [bz]; exact cn h es (bC ha (fa h e))
end
theorem rG {l : List Int} {v : Int} (h : bf l) (hv : cb v) (i : Nat) : bf (l.set i v) := fun x hx => by
 rcases List.mem_or_eq_of_mem_set hx with h' | h'
 ·exact h x h'
 ·rw [h']; exact hv
def bK (a b : List Int) : List Int := List.zipWith be a b
theorem jC {a b : List Int} (h : a.length = b.length) : (bK a b).length = a.length := by simp [bK, h]
theorem kx : ∀ {a b : List Int}, bf a -> bf b -> bf (bK a b)
 | [], _, _, _ => fun x hx => by simp [bK] at hx
 | _ :: _, [], _, _ => fun x hx => by simp [bK] at hx
 | x :: a, y :: b, ha, hb => fun z hz => by
  simp only [bK, List.zipWith_cons_cons, List.mem_cons] at hz;rcases hz with rfl | hz
  ·exact bC (ha x (List.mem_cons_self ..)) (hb y (List.mem_cons_self ..))
  ·exact kx (fun w hw => ha w (List.mem_cons_of_mem _ hw)) (fun w hw => hb w (List.mem_cons_of_mem _ hw)) z hz
def eF : List Int -> Nat
 | [] => 0
 | x :: l => (32 - x).toNat + eF l
theorem rH : ∀ {l : List Int}, bf l -> eF l <= 32 * l.length
 | [], _ => by simp [eF]
 | x :: l, h => by
  have := rH (l := l) fun w hw => h w (List.mem_cons_of_mem _ hw)
  have := (h x (List.mem_cons_self ..)).1;simp only [eF, List.length_cons]; omega
theorem rI : ∀ {a b : List Int}, bf a -> bf b -> a.length = b.length -> eF (bK a b) <= eF a /\ (bK a b = a \/ eF (bK a b) < eF a)
 | [], [], _, _, _ => ⟨by simp [bK], .inl rfl⟩
 | x :: a, y :: b, ha, hb, hl => by
  obtain ⟨h1, h2⟩ := rI (a := a) (b := b) (fun w hw => ha w (List.mem_cons_of_mem _ hw)) (fun w hw => hb w (List.mem_cons_of_mem _ hw)) (by simpa using hl);have hx := ha x (List.mem_cons_self ..);have hge := zw hx (hb y (List.mem_cons_self ..));have hB := bC hx (hb y (List.mem_cons_self ..));unfold bK at h1 h2 ⊢;simp only [List.zipWith_cons_cons, eF];have q1 := hx.2;have q2 := hB.2;refine ⟨by omega, ?_⟩
  by_cases he : be x y = x
  ·rcases h2 with h2 | h2
   ·left; rw [he, h2]
   ·right; omega
  ·right; omega
 | [], _ :: _, _, _, h => by simp at h
 | _ :: _, [], _, _, h => by simp at h
def iG (f : List Int -> List Int) : Nat -> List Int -> List Int
 | 0, x => x
 | n + 1, x => if f x = x then x else iG f n (f x)
theorem lH {f : List Int -> List Int} {Q : List Int -> Prop} (hf : ∀ x, Q x -> Q (f x)) : ∀ (n : Nat) (x : List Int), Q x -> Q (iG f n x)
 | 0, x, h => h
 | n + 1, x, h => by
  rw [iG]
  split
  ·exact h
  ·exact lH hf n _ (hf x h)
theorem rJ {f g : List Int -> List Int} {Q : List Int -> Prop} (hf : ∀ x, Q x -> Q (f x)) (hfg : ∀ x, Q x -> f x = g x) : ∀ (n : Nat) (x : List Int), Q x -> iG f n x = iG g n x
 | 0, x, h => rfl
 | n + 1, x, h => by
  rw [iG, iG, <- hfg x h]
  split
  ·rfl
  ·exact rJ hf hfg n _ (hf x h)
mutual
def mc (m : Nat) : ay -> Prop
 | .mk op n a t e => s7 m a /\ ((op = 0 \/ op = 4) -> 0 <= n /\ n < m) /\ ((op = 1 \/ op = 2 \/ op = 3) -> ∃ x, a = [x]) /\ xi m t /\ xi m e
def xi (m : Nat) : List ay -> Prop
 | [] => True
 | s :: l => mc m s /\ xi m l
end
theorem AD {m : Nat} : ∀ {l : List ay} {i : Nat} {e : ay}, xi m l -> l[i]? = some e -> mc m e
 | [], i, e, _, h => by simp at h
 | a :: l, 0, e, hb, h => by simp at h; subst h; exact hb.1
 | a :: l, i + 1, e, hb, h => by simp at h; exact AD hb.2 h
mutual
theorem GW {m : Nat} : ∀ {s : ay}, mc m s -> xe m s
 | .mk op n a t e, h => by rw [mc] at h; rw [xe]; exact ⟨h.1, h.2.1, vJ h.2.2.2.1, vJ h.2.2.2.2⟩
theorem vJ {m : Nat} : ∀ {l : List ay}, xi m l -> vF m l
 | [], _ => trivial
 | s :: l, h => ⟨GW h.1, vJ h.2⟩
end
section
variable (pt : List Int -> Int -> ay -> List Int) (og : List Int -> List aF -> Int)
mutual
def gK : ay -> List Int -> Int -> List Int
 | .mk op n a t e, lv, ar =>
  if op = 1 then bK (fb t lv (be ar (og lv a))) (fb e lv (be ar (og lv a)))
  else if op = 2 then iG (fun x => bK x (fb t x (be ar (og x a)))) 600 lv
  else pt lv ar (.mk op n a t e)
def fb : List ay -> List Int -> Int -> List Int
 | [], lv, _ => lv
 | s :: l, lv, ar => fb l (gK s lv ar) ar
end
structure Mv (m : Nat) : Prop where
 pt : ∀ lv ar s, lv.length = m -> bf lv -> cb ar -> mc m s -> (pt lv ar s).length = m /\ bf (pt lv ar s)
 og : ∀ lv a, bf lv -> cb (og lv a)
variable {pt og}
mutual
theorem fF {m : Nat} (H : Mv pt og m) : ∀ (s : ay) (lv : List Int) (ar : Int), lv.length = m -> bf lv -> cb ar -> mc m s -> (gK pt og s lv ar).length = m /\ bf (gK pt og s lv ar)
 | .mk op n a t e, lv, ar, hl, hb, ha, hv => by
  have hv' := hv;rw [mc] at hv;rw [gK]
  split
  ·obtain ⟨t1, t2⟩ := cK H t lv (be ar (og lv a)) hl hb (bC ha (H.og lv a hb)) hv.2.2.2.1
   obtain ⟨e1, e2⟩ := cK H e lv (be ar (og lv a)) hl hb (bC ha (H.og lv a hb)) hv.2.2.2.2;exact ⟨by rw [jC (by omega)]; exact t1, kx t2 e2⟩
  ·split
   ·exact lH (Q := fun x => x.length = m /\ bf x) (fun x hx => by
     obtain ⟨t1, t2⟩ := cK H t x (be ar (og x a)) hx.1 hx.2 (bC ha (H.og x a hx.2)) hv.2.2.2.1;exact ⟨by rw [jC (by omega)]; exact hx.1, kx hx.2 t2⟩) _ _ ⟨hl, hb⟩
   ·exact H.pt lv ar _ hl hb ha hv'
theorem cK {m : Nat} (H : Mv pt og m) : ∀ (l : List ay) (lv : List Int) (ar : Int), lv.length = m -> bf lv -> cb ar -> xi m l -> (fb pt og l lv ar).length = m /\ bf (fb pt og l lv ar)
 | [], lv, ar, hl, hb, _, _ => by rw [fb]; exact ⟨hl, hb⟩
 | s :: l, lv, ar, hl, hb, ha, hv => by
  obtain ⟨q1, q2⟩ := fF H s lv ar hl hb ha hv.1;rw [fb];exact cK H l _ ar q1 q2 ha hv.2
end
theorem nF {m : Nat} (H : Mv pt og m) {t : List ay} (hv : xi m t) {ar : Int} (ha : cb ar) (a : List aF) {x : List Int} (hl : x.length = m) (hb : bf x) :
  (bK x (fb pt og t x (be ar (og x a)))).length = m /\ bf (bK x (fb pt og t x (be ar (og x a)))) /\ (bK x (fb pt og t x (be ar (og x a))) = x \/ eF (bK x (fb pt og t x (be ar (og x a)))) < eF x) := by
 obtain ⟨t1, t2⟩ := cK H t x (be ar (og x a)) hl hb (bC ha (H.og x a hb)) hv;exact ⟨by rw [jC (by omega)]; exact hl, kx hb t2, (rI hb t2 (by omega)).2⟩
end
abbrev Pl := Int × ay × List Int × Int
section
variable (pt : List Int -> Int -> ay -> List Int) (og : List Int -> List aF -> Int)
mutual
def nG : ay -> List Int -> Int -> Int -> List Pl
 | .mk op nn a t e, lv, ar, n =>
  if op = 1 then (n, .mk op nn a t e, lv, ar) :: (iV t lv (be ar (og lv a)) (IntKind.i64.wrap (n + 1)) ++ iV e lv (be ar (og lv a)) (IntKind.i64.wrap (IntKind.i64.wrap (n + 1) + cW t 0)))
  else if op = 2 then (n, .mk op nn a t e, gK pt og (.mk op nn a t e) lv ar, ar) :: iV t (gK pt og (.mk op nn a t e) lv ar) (be ar (og (gK pt og (.mk op nn a t e) lv ar) a)) (IntKind.i64.wrap (n + 1))
  else [(n, .mk op nn a t e, lv, ar)]
def iV : List ay -> List Int -> Int -> Int -> List Pl
 | [], _, _, _ => []
 | s :: l, lv, ar, n => nG s lv ar n ++ iV l (gK pt og s lv ar) ar (jj s n)
end
variable {σ : Type} (upd : σ -> Int -> ay -> List Int -> Int -> σ)
mutual
def EN : ay -> List Int -> Int -> σ -> Int -> σ × Int
 | .mk op nn a t e, lv, ar, x, n =>
  if op = 1 then
   lI e lv (be ar (og lv a)) (lI t lv (be ar (og lv a)) (upd x n (.mk op nn a t e) lv ar) (IntKind.i64.wrap (n + 1))).1 (lI t lv (be ar (og lv a)) (upd x n (.mk op nn a t e) lv ar) (IntKind.i64.wrap (n + 1))).2
  else if op = 2 then
   lI t (gK pt og (.mk op nn a t e) lv ar) (be ar (og (gK pt og (.mk op nn a t e) lv ar) a)) (upd x n (.mk op nn a t e) (gK pt og (.mk op nn a t e) lv ar) ar) (IntKind.i64.wrap (n + 1))
  else (upd x n (.mk op nn a t e) lv ar, IntKind.i64.wrap (n + 1))
def lI : List ay -> List Int -> Int -> σ -> Int -> σ × Int
 | [], _, _, x, n => (x, n)
 | s :: l, lv, ar, x, n => lI l (gK pt og s lv ar) ar (EN s lv ar x n).1 (EN s lv ar x n).2
end
end
def zx {σ : Type} (upd : σ -> Int -> ay -> List Int -> Int -> σ) (x : σ) (p : Pl) : σ := upd x p.1 p.2.1 p.2.2.1 p.2.2.2
mutual
theorem GX {w : Int} {vs : List bk} {pt : List Int -> Int -> ay -> List Int} {og : List Int -> List aF -> Int} {σ : Type} (upd : σ -> Int -> ay -> List Int -> Int -> σ) :
  ∀ (s : ay) (lv : List Int) (ar : Int) (x : σ) (n : Int), dT w vs s = true -> 0 <= n -> n + jw s < 1000000 -> EN pt og upd s lv ar x n = ((nG pt og s lv ar n).foldl (zx upd) x, jj s n)
 | .mk op nn a t e, lv, ar, x, n, hr, h0, h1 => by
  rw [dT] at hr;simp only [Bool.and_eq_true] at hr;obtain ⟨⟨⟨hh, ht⟩, he⟩, _⟩ := hr;have hc1 := iT (.mk op nn a t e) n h0 h1;rw [jw] at h1;have hst := d6 t;have hse := d6 e;unfold iP at hh;dsimp only at hh;rw [EN, nG];have e2 : cW t 0 = fD t := by rw [eP t 0 (by omega) (by omega)]; omega
  have e1 : cW t (n + 1) = n + 1 + fD t := eP t _ (by omega) (by omega)
  by_cases o1 : op = 1
  ·rw [if_pos o1, if_pos o1, eo (n := n + 1) (by omega) (by omega), oT upd t _ _ _ (n + 1) ht (by omega) (by omega)]
   dsimp only;rw [e1, oT upd e _ _ _ (n + 1 + fD t) he (by omega) (by omega), e2, eo (n := n + 1 + _) (by omega) (by omega), hc1, rF, eP e _ (by omega) (by omega), List.foldl_cons, List.foldl_append];congr 1; omega
  ·rw [if_neg o1, if_neg o1]
   by_cases o2 : op = 2
   ·rw [if_pos o2, if_pos o2, eo (n := n + 1) (by omega) (by omega), oT upd t _ _ _ (n + 1) ht (by omega) (by omega), e1, hc1, rF]
    rw [if_neg (by omega), if_neg o1, if_pos o2] at hh;simp only [Bool.and_eq_true, beq_iff_eq] at hh;have : e = [] := List.length_eq_zero_iff.1 (by omega);subst this;rw [List.foldl_cons, fD];congr 1; omega
   ·rw [if_neg o2, if_neg o2]
    have hf : nw t e = true := by
     rw [if_neg o1, if_neg o2] at hh
     split at hh
     ·simp only [Bool.and_eq_true] at hh; exact hh.1
     split at hh
     ·simp only [Bool.and_eq_true] at hh; exact hh.1.1.1
     split at hh
     ·simp only [Bool.and_eq_true] at hh; exact hh.1
     split at hh
     ·simp only [Bool.and_eq_true] at hh; exact hh.1.1
     ·cases hh
    obtain ⟨q1, q2⟩ := li hf;subst q1 q2;rw [hc1, rF, fD, eo (by omega) (by omega)];simp only [List.foldl_cons, List.foldl_nil, zx];congr 1
theorem oT {w : Int} {vs : List bk} {pt : List Int -> Int -> ay -> List Int} {og : List Int -> List aF -> Int} {σ : Type} (upd : σ -> Int -> ay -> List Int -> Int -> σ) :
  ∀ (l : List ay) (lv : List Int) (ar : Int) (x : σ) (n : Int), ce w vs l = true -> 0 <= n -> n + bu l < 1000000 -> lI pt og upd l lv ar x n = ((iV pt og l lv ar n).foldl (zx upd) x, cW l n)
 | [], lv, ar, x, n, hr, h0, h1 => by rw [lI, iV, cW]; rfl
 | s :: l, lv, ar, x, n, hr, h0, h1 => by
  rw [ce, Bool.and_eq_true] at hr;rw [bu] at h1;have := mG s;rw [lI, iV, cW, GX upd s lv ar x n hr.1 h0 (by omega)];dsimp only;rw [iT s n h0 (by omega), oT upd l _ ar _ _ hr.2 (by omega) (by omega), List.foldl_append]
end
def fg (lv : List Int) : List aF -> Int
 | [] => 0
 | x :: _ => gB lv x
def dG (lv : List Int) (a : List aF) : Int := bz lv 0 a
def gw (lv : List Int) (ar op : Int) (a : List aF) : Int := if op = 4 then be (be ar (bz lv 0 a)) 16 else be ar (bz lv 0 a)
def bT (lv : List Int) (ar : Int) : ay -> List Int
 | .mk op n a _ _ => if op = 0 \/ op = 4 then (if a.length = 2 \/ (op = 4 /\ a.length = 1) then lv.set n.toNat (be (lv.getD n.toNat 0) (gw lv ar op a)) else lv.set n.toNat (gw lv ar op a)) else lv
def pO (vs : List bk) (lv : List Int) (n : Int) : Int := if aI vs n > 1 then lv.getD n.toNat 0 else 0
def cX (vs : List bk) (lv : List Int) (ar : Int) : ay -> List Int
 | .mk op n a _ _ => if op = 0 \/ op = 4 then lv.set n.toNat (be (gw lv ar op a) (pO vs lv n)) else lv
theorem eh {lv : List Int} {ar : Int} (h : bf lv) (ha : cb ar) (op : Int) (a : List aF) : cb (gw lv ar op a) := by
 unfold gw
 split
 ·exact bC (bC ha (cn h a cm)) mb
 ·exact bC ha (cn h a cm)
theorem gl {lv : List Int} (h : bf lv) (vs : List bk) (n : Int) : cb (pO vs lv n) := by
 unfold pO
 split
 ·exact aJ h _
 ·exact cm
theorem vK (m : Nat) : Mv bT fg m where
 pt lv ar s hl hb ha _ := by
  obtain ⟨op, n, a, t, e⟩ := s;unfold bT;dsimp only
  split
  ·split
   ·exact ⟨by simpa using hl, rG hb (bC (aJ hb _) (eh hb ha op a)) _⟩
   ·exact ⟨by simpa using hl, rG hb (eh hb ha op a) _⟩
  ·exact ⟨hl, hb⟩
 og lv a hb := by
  cases a with
  | nil => exact cm
  | cons x l => exact fa hb x
theorem dQ (vs : List bk) (m : Nat) : Mv (cX vs) dG m where
 pt lv ar s hl hb ha _ := by
  obtain ⟨op, n, a, t, e⟩ := s;unfold cX;dsimp only
  split
  ·exact ⟨by simpa using hl, rG hb (bC (eh hb ha op a) (gl hb vs n)) _⟩
  ·exact ⟨hl, hb⟩
 og lv a hb := cn hb a cm
theorem vL {lv : List Int} (hb : bf lv) {a : List aF} (h : ∃ x, a = [x]) : fg lv a = dG lv a := by
 obtain ⟨x, rfl⟩ := h;unfold fg dG;rw [bz, bz, nE (fa hb x)]
mutual
theorem mH {w : Int} {vs : List bk} : ∀ (s : ay), dT w vs s = true -> mc vs.length s
 | .mk op nn a t e, hr => by
  have hrd := Dr _ hr;rw [xe] at hrd;rw [dT] at hr;simp only [Bool.and_eq_true] at hr;obtain ⟨⟨⟨hh, ht⟩, he⟩, ha⟩ := hr;rw [mc];refine ⟨hrd.1, hrd.2.1, fun ho => ?_, dE t ht, dE e he⟩
  unfold iP at hh;dsimp only at hh;have hl : a.length = 1 := by
   rcases ho with ho | ho
   ·rw [if_neg (by omega), if_pos ho] at hh
    simp only [Bool.and_eq_true, beq_iff_eq] at hh;omega
   rcases ho with ho | ho
   ·rw [if_neg (by omega), if_neg (by omega), if_pos ho] at hh
    simp only [Bool.and_eq_true, beq_iff_eq] at hh;omega
   ·rw [if_neg (by omega), if_neg (by omega), if_neg (by omega), if_pos ho] at hh
    simp only [Bool.and_eq_true, beq_iff_eq] at hh;omega
  cases a with
  | nil => simp at hl
  | cons x a => cases a with
   | nil => exact ⟨x, rfl⟩
   | cons y a => simp at hl
theorem dE {w : Int} {vs : List bk} : ∀ (l : List ay), ce w vs l = true -> xi vs.length l
 | [], _ => trivial
 | s :: l, hr => by
  rw [ce, Bool.and_eq_true] at hr;exact ⟨mH s hr.1, dE l hr.2⟩
end
theorem GY {w : Int} {vs : List bk} {s : ay} (hr : dT w vs s = true) {lv : List Int} {ar : Int} (hb : bf lv) (ha : cb ar) : bT lv ar s = cX vs lv ar s := by
 obtain ⟨op, n, a, t, e⟩ := s;rw [dT] at hr;simp only [Bool.and_eq_true] at hr;obtain ⟨⟨⟨hh, _⟩, _⟩, _⟩ := hr;unfold iP at hh;dsimp only at hh;unfold bT cX;dsimp only;have hB := eh hb ha op a
 by_cases o0 : op = 0
 ·rw [if_pos o0, Bool.and_eq_true] at hh
  have hv := hh.2;unfold cw at hv;simp only [Bool.and_eq_true, beq_iff_eq] at hv;have hv2 := hv.2;have hp : op = 0 \/ op = 4 := .inl o0;simp only [if_pos hp];unfold pO
  by_cases hc : aI vs n > 1
  ·rw [decide_eq_true hc] at hv2
   have : (a.length : Int) = 2 := by rw [hv2]; rfl
   rw [if_pos (.inl (by omega)), if_pos hc, jA]
  ·rw [decide_eq_false hc] at hv2
   have : (a.length : Int) = 1 := by rw [hv2]; rfl
   rw [if_neg (show ¬ (a.length = 2 \/ (op = 4 /\ a.length = 1)) by omega), if_neg hc, ut hB]
 by_cases o4 : op = 4
 ·rw [if_neg o0, if_neg (by omega), if_neg (by omega), if_neg (by omega), if_pos o4, Bool.and_eq_true] at hh
  have hv := hh.2;unfold cw at hv;simp only [Bool.and_eq_true, beq_iff_eq] at hv;have hv2 := hv.2;have hp : op = 0 \/ op = 4 := .inr o4;simp only [if_pos hp];unfold pO
  by_cases hc : aI vs n > 1
  ·rw [decide_eq_true hc] at hv2
   have : (a.length : Int) = 1 := by rw [hv2]; rfl
   rw [if_pos (.inr ⟨o4, by omega⟩), if_pos hc, jA]
  ·rw [decide_eq_false hc] at hv2
   have : (a.length : Int) = 0 := by rw [hv2]; rfl
   rw [if_neg (show ¬ (a.length = 2 \/ (op = 4 /\ a.length = 1)) by omega), if_neg hc, ut hB]
 ·rw [if_neg (by omega), if_neg (by omega)]
mutual
theorem zy {w : Int} {vs : List bk} : ∀ (s : ay) (lv : List Int) (ar : Int), dT w vs s = true -> lv.length = vs.length -> bf lv -> cb ar -> gK bT fg s lv ar = gK (cX vs) dG s lv ar
 | .mk op n a t e, lv, ar, hr, hl, hb, ha => by
  have hr' := hr;have hvm := mH _ hr;rw [mc] at hvm;rw [dT] at hr;simp only [Bool.and_eq_true] at hr;obtain ⟨⟨⟨_, ht⟩, he⟩, _⟩ := hr;rw [gK, gK]
  by_cases o1 : op = 1
  ·rw [if_pos o1, if_pos o1, vL hb (hvm.2.2.1 (.inl o1))]
   have hB : cb (be ar (dG lv a)) := bC ha (cn hb a cm);rw [rK t lv _ ht hl hb hB, rK e lv _ he hl hb hB]
  ·rw [if_neg o1, if_neg o1]
   by_cases o2 : op = 2
   ·rw [if_pos o2, if_pos o2]
    refine rJ (Q := fun x => x.length = vs.length /\ bf x) (fun x hx => ?_) (fun x hx => ?_) _ _ ⟨hl, hb⟩
    ·obtain ⟨q1, q2, _⟩ := nF (vK vs.length) hvm.2.2.2.1 ha a hx.1 hx.2
     exact ⟨q1, q2⟩
    ·rw [vL hx.2 (hvm.2.2.1 (.inr (.inl o2))), rK t x _ ht hx.1 hx.2 (show cb (be ar (dG x a)) from bC ha (cn hx.2 a cm))]
   ·rw [if_neg o2, if_neg o2]
    exact GY hr' hb ha
theorem rK {w : Int} {vs : List bk} : ∀ (l : List ay) (lv : List Int) (ar : Int), ce w vs l = true -> lv.length = vs.length -> bf lv -> cb ar -> fb bT fg l lv ar = fb (cX vs) dG l lv ar
 | [], lv, ar, hr, hl, hb, ha => by rw [fb, fb]
 | s :: l, lv, ar, hr, hl, hb, ha => by
  rw [ce, Bool.and_eq_true] at hr;rw [fb, fb, zy s lv ar hr.1 hl hb ha];obtain ⟨q1, q2⟩ := fF (dQ vs vs.length) s lv ar hl hb ha (mH s hr.1);exact rK l _ ar hr.2 q1 q2 ha
end
mutual
theorem GZ {w : Int} {vs : List bk} : ∀ (s : ay) (lv : List Int) (ar n : Int), dT w vs s = true -> lv.length = vs.length -> bf lv -> cb ar -> nG bT fg s lv ar n = nG (cX vs) dG s lv ar n
 | .mk op nn a t e, lv, ar, n, hr, hl, hb, ha => by
  have hr' := hr;have hvm := mH _ hr;have hm := zy _ lv ar hr hl hb ha;obtain ⟨q1, q2⟩ := fF (dQ vs vs.length) _ lv ar hl hb ha hvm;rw [mc] at hvm;rw [dT] at hr;simp only [Bool.and_eq_true] at hr;obtain ⟨⟨⟨_, ht⟩, he⟩, _⟩ := hr;rw [nG, nG]
  by_cases o1 : op = 1
  ·have hB : cb (be ar (dG lv a)) := bC ha (cn hb a cm)
   rw [if_pos o1, if_pos o1, vL hb (hvm.2.2.1 (.inl o1)), rL t lv _ _ ht hl hb hB, rL e lv _ _ he hl hb hB]
  ·rw [if_neg o1, if_neg o1]
   by_cases o2 : op = 2
   ·rw [if_pos o2, if_pos o2, hm, vL q2 (hvm.2.2.1 (.inr (.inl o2))), rL t _ (be ar (dG (gK (cX vs) dG (.mk op nn a t e) lv ar) a)) _ ht q1 q2 (bC ha (cn q2 a cm))]
   ·rw [if_neg o2, if_neg o2]
theorem rL {w : Int} {vs : List bk} : ∀ (l : List ay) (lv : List Int) (ar n : Int), ce w vs l = true -> lv.length = vs.length -> bf lv -> cb ar -> iV bT fg l lv ar n = iV (cX vs) dG l lv ar n
 | [], lv, ar, n, hr, hl, hb, ha => by rw [iV, iV]
 | s :: l, lv, ar, n, hr, hl, hb, ha => by
  rw [ce, Bool.and_eq_true] at hr;obtain ⟨q1, q2⟩ := fF (dQ vs vs.length) s lv ar hl hb ha (mH s hr.1);rw [iV, iV, GZ s lv ar n hr.1 hl hb ha, zy s lv ar hr.1 hl hb ha, rL l _ ar _ hr.2 q1 q2 ha]
end
def Ds : List Int -> Nat -> Int
 | [], _ => 0
 | b :: r, i => b * 2 ^ i + Ds r (i + 1)
theorem uu (i : Nat) : (2 : Int) ^ (i + 1) = 2 * 2 ^ i := by rw [Int.pow_succ, Int.mul_comm]
theorem Gl : ∀ (l : List Int) (i : Nat), (∀ b, b ∈ l -> b = 0 \/ b = 1) -> 0 <= Ds l i /\ Ds l i + 2 ^ i <= 2 ^ (i + l.length)
 | [], i, _ => by rw [Ds]; exact ⟨by omega, by simp⟩
 | b :: r, i, h => by
  obtain ⟨h1, h2⟩ := Gl r (i + 1) fun x hx => h x (List.mem_cons_of_mem _ hx)
  have hp : (0 : Int) < 2 ^ i := Int.pow_pos (by omega);have e : i + (b :: r).length = i + 1 + r.length := by rw [List.length_cons]; omega
  rw [Ds, e];rw [uu] at h2;rcases h b (List.mem_cons_self ..) with rfl | rfl
  ·rw [Int.zero_mul]; omega
  ·rw [Int.one_mul]; omega
def ozS (h : aj) (lo id n : Nat) (i : Int) (a : Int) : St :=
 {env := [(0, .v (.sl id 1 0 n)), (3, .v (.int .i64 a)), (4, .v (.int .i64 i))], loc := [], heap := h, inRound := false, lo := lo }
theorem Fj (l : List Int) (hl : ∀ b, b ∈ l -> b = 0 \/ b = 1) (hn : l.length <= 8) (id n T : Nat) (hnl : n = l.length) (k : Nat) (hk : 20 <= k) (h : aj) (hh : h[id]? = some (.cells T (ic l))) (lo : Nat) :
  call Tryz.prog ba (k + 1) lo (.func 181) [.sl id 1 0 n] h = some (.int .i64 (Ds l 0), h) := by
 have hfull : 0 + n * 1 = (ic l).length := by rw [fE]; omega
 apply ai Tryz.func181 U (Nb U) U U;(repeat' (first | apply ab | refine Wr 0 U U ?_ | refine Wr 1 U U ?_ | refine Wr 2 U U ?_ | apply ae));apply aS (S := ozS h h.length id n) (l := l) (a0 := 0) (fun i rest a => a + Ds rest i = Ds l 0 /\ 0 <= a /\ a < 2 ^ i /\ i + rest.length = l.length /\ ∀ b, b ∈ rest -> b = 0 \/ b = 1) (by omega) (by omega) rfl ⟨by simp, by omega, by simp, by simp, hl⟩
 ·intro i x rest a hi hd hil hJ
  obtain ⟨j1, j2, j3, j4, j5⟩ := hJ;have hlt : decide ((i : Int) < (n : Int)) = true := decide_eq_true (by omega);have hin : i < n := by omega
  have hcell : (ic l)[0 + i * 1]? = some (.int .i64 x) := by rw [Nat.zero_add, Nat.mul_one]; exact vI hi
  have hp := gv i (by omega) (k - 1) (by omega) h h.length;rw [show k - 1 + 1 = k by omega] at hp
  rw [List.length_cons] at j4;(repeat' (first | apply ab | refine ah U U ?_ | (refine Wo 3 U ?_;refine Tc 3 U (Tt U U ‹_› (Tn ?_))) | refine Wr 4 U U ?_ | (refine Wd 5 [0,0,0,6,14,0,32,126,255,511] U U (by decide +kernel) ?_;refine Uf U U U (Uf U U U (Uf U U U (Uf U (dJ U U U U U ‹_› ‹_› ‹_›) U ?_))) <;> refine Uf U (aA U U U ‹_› U ‹_›) U ?_ <;> refine Uf U U U (Uf U (aa U U U U ‹_›) U ?_) <;> refine Uf U U U (Uo U U (Uo U U (Un ?_)))) | apply ak | apply ae));refine ⟨_, rfl, ?_⟩;have hpl := mA (n := i) (by omega);have hx := j5 x (List.mem_cons_self ..);have e : IntKind.i64.wrap (a + IntKind.i64.wrap (x * 2 ^ i)) = a + x * 2 ^ i := by
   rcases hx with rfl | rfl
   ·rw [Int.zero_mul, eo (n := 0) (by omega) (by omega), eo (by omega) (by omega)]
   ·rw [Int.one_mul, eo (n := 2 ^ i) (by omega) (by omega), eo (by omega) (by omega)]
  rw [e];rw [Ds] at j1;refine ⟨by omega, ?_, ?_, by omega, fun b hb => j5 b (List.mem_cons_of_mem _ hb)⟩
  ·rcases hx with rfl | rfl
   ·rw [Int.zero_mul]; omega
   ·rw [Int.one_mul]; omega
  ·rw [uu]
   rcases hx with rfl | rfl
   ·rw [Int.zero_mul]; omega
   ·rw [Int.one_mul]; omega
 ·intro a hJ
  obtain ⟨j1, _⟩ := hJ;have hge : decide ((l.length : Int) < (n : Int)) = false := decide_eq_false (by omega);(repeat' (first | apply ab | refine af U U ?_ | (refine Wo 3 U ?_;refine Tc 3 U (Tf U U ‹_› (Tn ?_))) | refine Wr 6 U U ?_ | apply am | apply aC));refine ⟨.inl rfl, ?_⟩;rw [Ds, Int.add_zero] at j1;rw [j1]; rfl
def nH (op a b : Int) (w : Nat) : List Int := (List.range w).map fun i => pN op (nB a i) (nB b i)
def nI (op : Int) (w : Nat) (a b : Int) : Int := Ds (nH op a b w) 0
theorem xj (op a b : Int) (w : Nat) : ∀ x, x ∈ nH op a b w -> x = 0 \/ x = 1 := fun x hx => by
 obtain ⟨i, _, rfl⟩ := List.mem_map.1 hx;exact Dj op (qg a i) (qg b i)
theorem Fk (op : Int) (w : Nat) (a b : Int) : 0 <= nI op w a b /\ nI op w a b < 2 ^ w := by
 have := Gl (nH op a b w) 0 (xj op a b w);have hl : (nH op a b w).length = w := by simp [nH]
 rw [hl] at this;simp at this;unfold nI;omega
def eaS (h : aj) (op : Int) (w : Nat) (a b : Int) (i : Int) (l : List Int) : St :=
 {env := [(0, .v (.int .i64 op)), (1, .v (.int .i64 w)), (2, .v (.int .i64 a)), (3, .v (.int .i64 b)), (9, .v (bo h 1 (ag l))), (10, .v (.int .i64 i))], loc := [], heap := aQ h 3 (ag l), inRound := false, lo := h.length }
theorem BV (h : aj) (l : List Int) (hne : l ≠ []) : bo h 1 (ag l) = .sl h.length 1 0 l.length /\ (aQ h 3 (ag l))[h.length]? = some (.cells 3 (ic l)) := by
 cases l with
 | nil => exact absurd rfl hne
 | cons x l =>
  refine ⟨?_, ?_⟩
  ·show AV.sl h.length 1 0 ((ag l).length + 1) = _
   rw [bw]; rfl
  ·show (h ++ [ap.cells _ (ag (x :: l)).flatten])[h.length]? = _
   rw [qi]; simp
theorem BW (op : Int) (w : Nat) (hw1 : 1 <= w) (hw : w <= 8) (a b : Int) (ha : 0 <= a) (ha2 : a < 4611686018427387904) (hb : 0 <= b) (hb2 : b < 4611686018427387904) (k : Nat) (hk : 40 <= k) (h : aj) (lo : Nat) :
  call Tryz.prog ba (k + 1) lo (.func 167) [.int .i64 op, .int .i64 w, .int .i64 a, .int .i64 b] h = some (.int .i64 (nI op w a b), h) := by
 apply ai Tryz.func167 U (Nb U) U U;(repeat' (first | apply ab | refine Wr 0 U U ?_ | refine Wr 1 U U ?_ | refine Wr 2 U U ?_ | apply ae));apply aS (S := eaS h op w a b) (l := List.range w) (a0 := []) (fun i rest l => l = nH op a b i /\ i + rest.length = w) (by rw [List.length_range]; omega) (by rw [List.length_range]; omega) rfl ⟨rfl, by simp⟩
 ·intro i x rest l hi hd hil hJ
  obtain ⟨j1, j2⟩ := hJ;have hlt := vu hil;rw [List.length_range] at hil;have hll : l.length = i := by rw [j1]; simp [nH]
  have h1 := qh a ha ha2 i (by omega) (k - 2) (by omega) (aQ h 3 (ag l)) h.length;have h2 := qh b hb hb2 i (by omega) (k - 2) (by omega) (aQ h 3 (ag l)) h.length;have h3 := Dk op (qg a i) (qg b i) (k - 1) (aQ h 3 (ag l)) h.length;rw [show k - 2 + 2 = k by omega] at h1 h2
  rw [show k - 1 + 1 = k by omega] at h3
  have hap := kw h l (pN op (nB a i) (nB b i)) (by omega);(repeat' (first | apply ab | refine ah U U ?_ | (refine Wo 3 U ?_;refine Tc 2 U (Tt U U ‹_› (Tn ?_))) | refine Wr 4 U U ?_ | (refine Wo 5 U ?_;refine Tc 4 U (Tg U (aa U U U U ‹_›) ?_) <;> refine Tc 2 U (Tg U (aa U U U U ‹_›) ?_) <;> refine Tg U (aa U U U U ‹_›) ?_ <;> refine Tc 1 U (Tg U (aN U U U U U ‹_›) ?_) <;> refine Tc 1 U (Tn ?_)) | apply ak | apply ae));refine ⟨l ++ [pN op (nB a i) (nB b i)], rfl, ?_, ?_⟩
  ·rw [j1]; simp [nH, List.range_succ]
  ·rw [List.length_cons] at j2; omega
 ·intro l hJ
  obtain ⟨j1, _⟩ := hJ;have hge := vv (n := w);rw [List.length_range] at j1;have hll : l.length = w := by rw [j1]; simp [nH]
  obtain ⟨q1, q2⟩ := BV h l (fun e => by rw [e] at hll; simp at hll; omega);have hof := Fj l (by rw [j1]; exact xj op a b w) (by omega) h.length l.length 3 rfl (k - 1) (by omega) _ q2 h.length;rw [show k - 1 + 1 = k by omega, <- q1] at hof
  (repeat' (first | apply ab | refine af U U ?_ | (refine Wo 3 U ?_;refine Tc 2 U (Tf U U ‹_› (Tn ?_))) | (refine Wo 6 U ?_;refine Tc 1 U (Tg U (aa U U U U ‹_›) ?_) <;> refine Tc 1 U (Tn ?_)) | apply am | apply aC));refine ⟨.inl rfl, ?_⟩;rw [j1]; rfl
def Gm (op : Int) (w : Nat) (a b : Int) : Int :=
 if op = 2 then (a + b) % 2 ^ w else if op = 3 then (a + 2 ^ w - b) % 2 ^ w else if op = 4 then a * b % 2 ^ w
 else if op = 5 then (if b = 0 then mB w else a / b) else if op = 6 then (if b = 0 then a else a % b)
 else if op = 7 \/ op = 8 \/ op = 9 then nI op w a b
 else if op = 10 then (if b >= w then 0 else a * 2 ^ b.toNat % 2 ^ w) else if op = 11 then (if b >= w then 0 else a / 2 ^ b.toNat)
 else if op = 13 then fe (a == b) else fe (decide (a < b))
theorem Dt (b : Bool) {w : Nat} (hw : 1 <= w) : 0 <= fe b /\ fe b < 2 ^ w := by
 have h2 : (2 : Int) <= 2 ^ w := by
  have : 2 ^ 1 <= 2 ^ w := Nat.pow_le_pow_right (by omega) hw;have e : ((2 ^ w : Nat) : Int) = 2 ^ w := by simp
  omega
 cases b <;> simp [fe] <;> omega
theorem HP (op : Int) {w : Nat} (hw : 1 <= w) {a b : Int} (ha : 0 <= a) (ha2 : a < 2 ^ w) (hb : 0 <= b) (hb2 : b < 2 ^ w) : 0 <= Gm op w a b /\ Gm op w a b < 2 ^ w := by
 have hp : (0 : Int) < 2 ^ w := Int.pow_pos (by omega);have hm : ∀ x : Int, 0 <= x % 2 ^ w /\ x % 2 ^ w < 2 ^ w := fun x => ⟨Int.emod_nonneg _ (by omega), Int.emod_lt_of_pos _ hp⟩
 have hd : ∀ c : Int, 0 <= a / c \/ c < 0 := fun c => by
  rcases Int.lt_or_le c 0 with h | h
  ·exact .inr h
  ·exact .inl (Int.ediv_nonneg ha h)
 have hd2 : ∀ c : Int, a / c <= a := fun c => Int.ediv_le_self _ ha
 unfold Gm
 split
 ·exact hm _
 split
 ·exact hm _
 split
 ·exact hm _
 split
 ·split
  ·unfold mB; omega
  ·exact ⟨Int.ediv_nonneg ha hb, Int.lt_of_le_of_lt (hd2 b) ha2⟩
 split
 ·split
  ·exact ⟨ha, ha2⟩
  ·rename_i h
   exact ⟨Int.emod_nonneg _ h, Int.lt_trans (Int.emod_lt_of_pos _ (by omega)) hb2⟩
 split
 ·exact Fk op w a b
 split
 ·split
  ·exact ⟨by omega, hp⟩
  ·exact hm _
 split
 ·split
  ·exact ⟨by omega, hp⟩
  ·exact ⟨Int.ediv_nonneg ha (Int.le_of_lt (Int.pow_pos (by omega))), Int.lt_of_le_of_lt (hd2 _) ha2⟩
 split
 ·exact Dt _ hw
 ·exact Dt _ hw
theorem vM {w : Nat} (hw : w <= 8) : (2 : Int) ^ w <= 256 := by
 have h2 : 2 ^ w <= 2 ^ 8 := Nat.pow_le_pow_right (by omega) hw;have e : ((2 ^ w : Nat) : Int) = 2 ^ w := by simp
 omega
theorem uw {a b : Int} (ha : 0 <= a) (ha2 : a < 256) (hb : 0 <= b) (hb2 : b <= 256) : 0 <= a * b /\ a * b <= 65536 :=
 ⟨Int.mul_nonneg ha hb, by have := Int.mul_le_mul (show a <= 256 by omega) hb2 hb (by omega); omega⟩
theorem G0 (op : Int) (w : Nat) (hw1 : 1 <= w) (hw : w <= 8) (a b : Int) (ha : 0 <= a) (ha2 : a < 2 ^ w) (hb : 0 <= b) (hb2 : b < 2 ^ w) (k : Nat) (hk : 50 <= k) (h : aj) (lo : Nat) :
  call Tryz.prog ba (k + 1) lo (.func 145) [.int .i64 op, .int .i64 w, .int .i64 a, .int .i64 b] h = some (.int .i64 (Gm op w a b), h) := by
 have hw2 := vM hw;have hp0 : (0 : Int) < 2 ^ w := Int.pow_pos (by omega);have hp := gv w (by omega) (k - 1) (by omega) h h.length;have ht := vz w (by omega) (k - 2) (by omega) h h.length;have he := BW op w hw1 hw a b ha (by omega) hb (by omega) (k - 1) (by omega) h h.length;have ho := fun c => lE (k - 1) h.length h c
 have ho1 := ho true;have ho0 := ho false;rw [show k - 1 + 1 = k by omega] at hp he ho1 ho0
 rw [show k - 2 + 2 = k by omega] at ht
 have hne := vy w
 by_cases o2 : op = 2
 ·subst o2
  apply ai Tryz.func145 U (Nb U) U U;(repeat' (first | apply ab | refine ah U U ?_ | refine Wr 0 U U ?_ | refine Wr 1 U U ?_ | (refine Wo 2 U ?_;refine Tt U U U (Tc 1 U (Tn ?_))) | (refine Wo 3 U ?_;refine Tc 4 U (Tg U (aa U U U U ‹_›) ?_) <;> refine Tg U (gu U U U ‹_›) ?_ <;> refine Tc 1 U (Tn ?_)) | apply ae | apply am));refine ⟨.inl rfl, Eq.trans (b := some (AV.int .i64 _, _)) rfl ?_⟩;rw [eo (by omega) (by omega), eD (by omega)]; rfl
 by_cases o3 : op = 3
 ·subst o3
  apply ai Tryz.func145 U (Nb U) U U;(repeat' (first | apply ab | refine ah U U ?_ | refine af U U ?_ | refine Wr 0 U U ?_ | refine Wr 1 U U ?_ | (refine Wo 2 U ?_;refine Tf U U U (Tc 1 U (Tn ?_))) | (refine Wo 4 U ?_;refine Tt U U U (Tc 1 U (Tn ?_))) | (refine Wo 5 U ?_;refine Tc 2 U (Tg U (aa U U U U ‹_›) ?_) <;> refine Tc 4 U (Tg U (aa U U U U ‹_›) ?_) <;> refine Tg U (gu U U U ‹_›) ?_ <;> refine Tc 1 U (Tn ?_)) | apply ae | apply am));refine ⟨.inl rfl, Eq.trans (b := some (AV.int .i64 _, _)) rfl ?_⟩;rw [eo (n := a + 2 ^ w) (by omega) (by omega), eo (by omega) (by omega), eD (by omega)]; rfl
 by_cases o4 : op = 4
 ·subst o4
  have hm := uw ha (by omega) hb (by omega);apply ai Tryz.func145 U (Nb U) U U;(repeat' (first | apply ab | refine ah U U ?_ | refine af U U ?_ | refine Wr 0 U U ?_ | refine Wr 1 U U ?_ | (refine Wo 2 U ?_;refine Tf U U U (Tc 1 U (Tn ?_))) | (refine Wo 4 U ?_;refine Tf U U U (Tc 1 U (Tn ?_))) | (refine Wo 6 U ?_;refine Tt U U U (Tc 1 U (Tn ?_))) | (refine Wo 7 U ?_;refine Tc 4 U (Tg U (aa U U U U ‹_›) ?_) <;> refine Tg U (gu U U U ‹_›) ?_ <;> refine Tc 1 U (Tn ?_)) | apply ae | apply am));refine ⟨.inl rfl, Eq.trans (b := some (AV.int .i64 _, _)) rfl ?_⟩;rw [eo (by omega) (by omega), eD (by omega)]; rfl
 by_cases o5 : op = 5
 ·subst o5
  cases hb0 : (b == 0)
  ·have hbn : b ≠ 0 := by simpa using hb0
   apply ai Tryz.func145 U (Nb U) U U;(repeat' (first | apply ab | refine ah U U ?_ | refine af U U ?_ | refine Wr 0 U U ?_ | refine Wr 1 U U ?_ | (refine Wo 2 U ?_;refine Tf U U U (Tc 1 U (Tn ?_))) | (refine Wo 4 U ?_;refine Tf U U U (Tc 1 U (Tn ?_))) | (refine Wo 6 U ?_;refine Tf U U U (Tc 1 U (Tn ?_))) | (refine Wo 8 U ?_;refine Tt U U U (Tc 1 U (Tn ?_))) | (refine Wo 9 U ?_;refine Tc 1 U (Tf U U ‹_› (Tn ?_))) | (refine Wo 11 U ?_;refine Tc 2 U (Tg U (l9 U U U ‹_›) ?_) <;> refine Tc 1 U (Tn ?_)) | apply ak | apply ae | apply am));refine ⟨.inl rfl, Eq.trans (b := some (AV.int .i64 _, _)) rfl ?_⟩;have := Int.ediv_le_self b ha;have := Int.ediv_nonneg ha hb;rw [jx ha, eo (by omega) (by omega)];show _ = some (AV.int .i64 (if b = 0 then mB w else a / b), h);rw [if_neg hbn]
  ·have hbn : b = 0 := by simpa using hb0
   apply ai Tryz.func145 U (Nb U) U U;(repeat' (first | apply ab | refine ah U U ?_ | refine af U U ?_ | refine Wr 0 U U ?_ | refine Wr 1 U U ?_ | (refine Wo 2 U ?_;refine Tf U U U (Tc 1 U (Tn ?_))) | (refine Wo 4 U ?_;refine Tf U U U (Tc 1 U (Tn ?_))) | (refine Wo 6 U ?_;refine Tf U U U (Tc 1 U (Tn ?_))) | (refine Wo 8 U ?_;refine Tt U U U (Tc 1 U (Tn ?_))) | (refine Wo 9 U ?_;refine Tc 1 U (Tt U U ‹_› (Tn ?_))) | (refine Wo 10 U ?_;refine Tc 1 U (Tg U (aa U U U U ‹_›) ?_) <;> refine Tc 1 U (Tn ?_)) | apply ae | apply am));refine ⟨.inl rfl, Eq.trans (b := some (AV.int .i64 _, _)) rfl ?_⟩;show _ = some (AV.int .i64 (if b = 0 then mB w else a / b), h);rw [if_pos hbn]
 by_cases o6 : op = 6
 ·subst o6
  cases hb0 : (b == 0)
  ·have hbn : b ≠ 0 := by simpa using hb0
   apply ai Tryz.func145 U (Nb U) U U;(repeat' (first | apply ab | refine ah U U ?_ | refine af U U ?_ | refine Wr 0 U U ?_ | refine Wr 1 U U ?_ | (refine Wo 2 U ?_;refine Tf U U U (Tc 1 U (Tn ?_))) | (refine Wo 4 U ?_;refine Tf U U U (Tc 1 U (Tn ?_))) | (refine Wo 6 U ?_;refine Tf U U U (Tc 1 U (Tn ?_))) | (refine Wo 8 U ?_;refine Tf U U U (Tc 1 U (Tn ?_))) | (refine Wo 12 U ?_;refine Tt U U U (Tc 1 U (Tn ?_))) | (refine Wo 13 U ?_;refine Tc 1 U (Tf U U ‹_› (Tn ?_))) | (refine Wo 15 U ?_;refine Tc 2 U (Tg U (gu U U U ‹_›) ?_) <;> refine Tc 1 U (Tn ?_)) | apply ak | apply ae | apply am));refine ⟨.inl rfl, Eq.trans (b := some (AV.int .i64 _, _)) rfl ?_⟩;rw [eD ha];show _ = some (AV.int .i64 (if b = 0 then a else a % b), h);rw [if_neg hbn]
  ·have hbn : b = 0 := by simpa using hb0
   apply ai Tryz.func145 U (Nb U) U U;(repeat' (first | apply ab | refine ah U U ?_ | refine af U U ?_ | refine Wr 0 U U ?_ | refine Wr 1 U U ?_ | (refine Wo 2 U ?_;refine Tf U U U (Tc 1 U (Tn ?_))) | (refine Wo 4 U ?_;refine Tf U U U (Tc 1 U (Tn ?_))) | (refine Wo 6 U ?_;refine Tf U U U (Tc 1 U (Tn ?_))) | (refine Wo 8 U ?_;refine Tf U U U (Tc 1 U (Tn ?_))) | (refine Wo 12 U ?_;refine Tt U U U (Tc 1 U (Tn ?_))) | (refine Wo 13 U ?_;refine Tc 1 U (Tt U U ‹_› (Tn ?_))) | refine Wr 14 U U ?_ | apply ae | apply am));refine ⟨.inl rfl, Eq.trans (b := some (AV.int .i64 _, _)) rfl ?_⟩;show _ = some (AV.int .i64 (if b = 0 then a else a % b), h);rw [if_pos hbn]
 by_cases o7 : op = 7
 ·subst o7
  apply ai Tryz.func145 U (Nb U) U U;(repeat' (first | apply ab | refine ah U U ?_ | refine af U U ?_ | refine Wr 0 U U ?_ | refine Wr 1 U U ?_ | (refine Wo 2 U ?_;refine Tf U U U (Tc 1 U (Tn ?_))) | (refine Wo 4 U ?_;refine Tf U U U (Tc 1 U (Tn ?_))) | (refine Wo 6 U ?_;refine Tf U U U (Tc 1 U (Tn ?_))) | (refine Wo 8 U ?_;refine Tf U U U (Tc 1 U (Tn ?_))) | (refine Wo 12 U ?_;refine Tf U U U (Tc 1 U (Tn ?_))) | (refine Wo 16 U ?_;refine Tt U U U (Tc 1 U (Tn ?_))) | (refine Wo 19 U ?_;refine Tc 4 U (Tg U (aa U U U U ‹_›) ?_) <;> refine Tc 1 U (Tn ?_)) | apply ak | apply ae | apply am));exact ⟨.inl rfl, rfl⟩
 by_cases o8 : op = 8
 ·subst o8
  apply ai Tryz.func145 U (Nb U) U U;(repeat' (first | apply ab | refine ah U U ?_ | refine af U U ?_ | refine Wr 0 U U ?_ | refine Wr 1 U U ?_ | (refine Wo 2 U ?_;refine Tf U U U (Tc 1 U (Tn ?_))) | (refine Wo 4 U ?_;refine Tf U U U (Tc 1 U (Tn ?_))) | (refine Wo 6 U ?_;refine Tf U U U (Tc 1 U (Tn ?_))) | (refine Wo 8 U ?_;refine Tf U U U (Tc 1 U (Tn ?_))) | (refine Wo 12 U ?_;refine Tf U U U (Tc 1 U (Tn ?_))) | (refine Wo 16 U ?_;refine Tf U U U (Tc 1 U (Tn ?_))) | (refine Wo 17 U ?_;refine Tt U U U (Tc 1 U (Tn ?_))) | (refine Wo 19 U ?_;refine Tc 4 U (Tg U (aa U U U U ‹_›) ?_) <;> refine Tc 1 U (Tn ?_)) | apply ak | apply ae | apply am));exact ⟨.inl rfl, rfl⟩
 by_cases o9 : op = 9
 ·subst o9
  apply ai Tryz.func145 U (Nb U) U U;(repeat' (first | apply ab | refine ah U U ?_ | refine af U U ?_ | refine Wr 0 U U ?_ | refine Wr 1 U U ?_ | (refine Wo 2 U ?_;refine Tf U U U (Tc 1 U (Tn ?_))) | (refine Wo 4 U ?_;refine Tf U U U (Tc 1 U (Tn ?_))) | (refine Wo 6 U ?_;refine Tf U U U (Tc 1 U (Tn ?_))) | (refine Wo 8 U ?_;refine Tf U U U (Tc 1 U (Tn ?_))) | (refine Wo 12 U ?_;refine Tf U U U (Tc 1 U (Tn ?_))) | (refine Wo 16 U ?_;refine Tf U U U (Tc 1 U (Tn ?_))) | (refine Wo 17 U ?_;refine Tf U U U (Tc 1 U (Tn ?_))) | (refine Wo 18 U ?_;refine Tt U U U (Tc 1 U (Tn ?_))) | (refine Wo 19 U ?_;refine Tc 4 U (Tg U (aa U U U U ‹_›) ?_) <;> refine Tc 1 U (Tn ?_)) | apply ae | apply am));exact ⟨.inl rfl, rfl⟩
 by_cases o10 : op = 10
 ·subst o10
  cases hge : decide (b >= (w : Int))
  ·have hlt := of_decide_eq_false hge
   have hbp := gv b.toNat (by omega) (k - 1) (by omega) h h.length;rw [show k - 1 + 1 = k by omega, Int.toNat_of_nonneg hb] at hbp
   have hb3 : (2 : Int) ^ b.toNat <= 256 := vM (by omega);have hb4 : (0 : Int) < 2 ^ b.toNat := Int.pow_pos (by omega);have hm := uw ha (by omega) (show (0 : Int) <= 2 ^ b.toNat by omega) hb3;apply ai Tryz.func145 U (Nb U) U U;(repeat' (first | apply ab | refine ah U U ?_ | refine af U U ?_ | refine Wr 0 U U ?_ | refine Wr 1 U U ?_ | (refine Wo 2 U ?_;refine Tf U U U (Tc 1 U (Tn ?_))) | (refine Wo 4 U ?_;refine Tf U U U (Tc 1 U (Tn ?_))) | (refine Wo 6 U ?_;refine Tf U U U (Tc 1 U (Tn ?_))) | (refine Wo 8 U ?_;refine Tf U U U (Tc 1 U (Tn ?_))) | (refine Wo 12 U ?_;refine Tf U U U (Tc 1 U (Tn ?_))) | (refine Wo 16 U ?_;refine Tf U U U (Tc 1 U (Tn ?_))) | (refine Wo 17 U ?_;refine Tf U U U (Tc 1 U (Tn ?_))) | (refine Wo 18 U ?_;refine Tf U U U (Tc 1 U (Tn ?_))) | (refine Wo 20 U ?_;refine Tt U U U (Tc 1 U (Tn ?_))) | (refine Wo 21 U ?_;refine Tc 2 U (Tf U U ‹_› (Tn ?_))) | (refine Wo 23 U ?_;refine Tc 2 U (Tg U (aa U U U U ‹_›) ?_) <;> refine Tc 2 U (Tg U (aa U U U U ‹_›) ?_) <;> refine Tg U (gu U U U ‹_›) ?_ <;> refine Tc 1 U (Tn ?_)) | apply ak | apply ae | apply am));refine ⟨.inl rfl, Eq.trans (b := some (AV.int .i64 _, _)) rfl ?_⟩;rw [eo (by omega) (by omega), eD (by omega)];show _ = some (AV.int .i64 (if b >= w then 0 else a * 2 ^ b.toNat % 2 ^ w), h);rw [if_neg hlt]
  ·apply ai Tryz.func145 U (Nb U) U U
   (repeat' (first | apply ab | refine ah U U ?_ | refine af U U ?_ | refine Wr 0 U U ?_ | refine Wr 1 U U ?_ | (refine Wo 2 U ?_;refine Tf U U U (Tc 1 U (Tn ?_))) | (refine Wo 4 U ?_;refine Tf U U U (Tc 1 U (Tn ?_))) | (refine Wo 6 U ?_;refine Tf U U U (Tc 1 U (Tn ?_))) | (refine Wo 8 U ?_;refine Tf U U U (Tc 1 U (Tn ?_))) | (refine Wo 12 U ?_;refine Tf U U U (Tc 1 U (Tn ?_))) | (refine Wo 16 U ?_;refine Tf U U U (Tc 1 U (Tn ?_))) | (refine Wo 17 U ?_;refine Tf U U U (Tc 1 U (Tn ?_))) | (refine Wo 18 U ?_;refine Tf U U U (Tc 1 U (Tn ?_))) | (refine Wo 20 U ?_;refine Tt U U U (Tc 1 U (Tn ?_))) | (refine Wo 21 U ?_;refine Tc 2 U (Tt U U ‹_› (Tn ?_))) | refine Wr 22 U U ?_ | apply ae | apply am));refine ⟨.inl rfl, Eq.trans (b := some (AV.int .i64 _, _)) rfl ?_⟩;show _ = some (AV.int .i64 (if b >= w then 0 else a * 2 ^ b.toNat % 2 ^ w), h);rw [if_pos (of_decide_eq_true hge)]
 by_cases o11 : op = 11
 ·subst o11
  cases hge : decide (b >= (w : Int))
  ·have hlt := of_decide_eq_false hge
   have hbp := gv b.toNat (by omega) (k - 1) (by omega) h h.length;rw [show k - 1 + 1 = k by omega, Int.toNat_of_nonneg hb] at hbp
   have hbne := vy b.toNat;have hb4 : (0 : Int) < 2 ^ b.toNat := Int.pow_pos (by omega);have := Int.ediv_le_self (2 ^ b.toNat) ha;have := Int.ediv_nonneg ha (Int.le_of_lt hb4);apply ai Tryz.func145 U (Nb U) U U;(repeat' (first | apply ab | refine ah U U ?_ | refine af U U ?_ | refine Wr 0 U U ?_ | refine Wr 1 U U ?_ | (refine Wo 2 U ?_;refine Tf U U U (Tc 1 U (Tn ?_))) | (refine Wo 4 U ?_;refine Tf U U U (Tc 1 U (Tn ?_))) | (refine Wo 6 U ?_;refine Tf U U U (Tc 1 U (Tn ?_))) | (refine Wo 8 U ?_;refine Tf U U U (Tc 1 U (Tn ?_))) | (refine Wo 12 U ?_;refine Tf U U U (Tc 1 U (Tn ?_))) | (refine Wo 16 U ?_;refine Tf U U U (Tc 1 U (Tn ?_))) | (refine Wo 17 U ?_;refine Tf U U U (Tc 1 U (Tn ?_))) | (refine Wo 18 U ?_;refine Tf U U U (Tc 1 U (Tn ?_))) | (refine Wo 20 U ?_;refine Tf U U U (Tc 1 U (Tn ?_))) | (refine Wo 24 U ?_;refine Tt U U U (Tc 1 U (Tn ?_))) | (refine Wo 25 U ?_;refine Tc 2 U (Tf U U ‹_› (Tn ?_))) | (refine Wo 27 U ?_;refine Tc 2 U (Tg U (aa U U U U ‹_›) ?_) <;> refine Tg U (l9 U U U ‹_›) ?_ <;> refine Tc 1 U (Tn ?_)) | apply ak | apply ae | apply am));refine ⟨.inl rfl, Eq.trans (b := some (AV.int .i64 _, _)) rfl ?_⟩;rw [jx ha, eo (by omega) (by omega)];show _ = some (AV.int .i64 (if b >= w then 0 else a / 2 ^ b.toNat), h);rw [if_neg hlt]
  ·apply ai Tryz.func145 U (Nb U) U U
   (repeat' (first | apply ab | refine ah U U ?_ | refine af U U ?_ | refine Wr 0 U U ?_ | refine Wr 1 U U ?_ | (refine Wo 2 U ?_;refine Tf U U U (Tc 1 U (Tn ?_))) | (refine Wo 4 U ?_;refine Tf U U U (Tc 1 U (Tn ?_))) | (refine Wo 6 U ?_;refine Tf U U U (Tc 1 U (Tn ?_))) | (refine Wo 8 U ?_;refine Tf U U U (Tc 1 U (Tn ?_))) | (refine Wo 12 U ?_;refine Tf U U U (Tc 1 U (Tn ?_))) | (refine Wo 16 U ?_;refine Tf U U U (Tc 1 U (Tn ?_))) | (refine Wo 17 U ?_;refine Tf U U U (Tc 1 U (Tn ?_))) | (refine Wo 18 U ?_;refine Tf U U U (Tc 1 U (Tn ?_))) | (refine Wo 20 U ?_;refine Tf U U U (Tc 1 U (Tn ?_))) | (refine Wo 24 U ?_;refine Tt U U U (Tc 1 U (Tn ?_))) | (refine Wo 25 U ?_;refine Tc 2 U (Tt U U ‹_› (Tn ?_))) | refine Wr 26 U U ?_ | apply ae | apply am));refine ⟨.inl rfl, Eq.trans (b := some (AV.int .i64 _, _)) rfl ?_⟩;show _ = some (AV.int .i64 (if b >= w then 0 else a / 2 ^ b.toNat), h);rw [if_pos (of_decide_eq_true hge)]
 by_cases o13 : op = 13
 ·subst o13
  cases hab : (a == b)
  ·apply ai Tryz.func145 U (Nb U) U U
   (repeat' (first | apply ab | refine ah U U ?_ | refine af U U ?_ | refine Wr 0 U U ?_ | refine Wr 1 U U ?_ | (refine Wo 2 U ?_;refine Tf U U U (Tc 1 U (Tn ?_))) | (refine Wo 4 U ?_;refine Tf U U U (Tc 1 U (Tn ?_))) | (refine Wo 6 U ?_;refine Tf U U U (Tc 1 U (Tn ?_))) | (refine Wo 8 U ?_;refine Tf U U U (Tc 1 U (Tn ?_))) | (refine Wo 12 U ?_;refine Tf U U U (Tc 1 U (Tn ?_))) | (refine Wo 16 U ?_;refine Tf U U U (Tc 1 U (Tn ?_))) | (refine Wo 17 U ?_;refine Tf U U U (Tc 1 U (Tn ?_))) | (refine Wo 18 U ?_;refine Tf U U U (Tc 1 U (Tn ?_))) | (refine Wo 20 U ?_;refine Tf U U U (Tc 1 U (Tn ?_))) | (refine Wo 24 U ?_;refine Tf U U U (Tc 1 U (Tn ?_))) | (refine Wo 28 U ?_;refine Tt U U U (Tc 1 U (Tn ?_))) | (refine Wo 29 U ?_;refine Tc 2 U (Tf U U ‹_› (Tg U (aa U U U U ‹_›) ?_)) <;> refine Tc 1 U (Tn ?_)) | apply ae | apply am));refine ⟨.inl rfl, Eq.trans (b := some (AV.int .i64 _, _)) rfl ?_⟩;show _ = some (AV.int .i64 (fe (a == b)), h);rw [hab]
  ·apply ai Tryz.func145 U (Nb U) U U
   (repeat' (first | apply ab | refine ah U U ?_ | refine af U U ?_ | refine Wr 0 U U ?_ | refine Wr 1 U U ?_ | (refine Wo 2 U ?_;refine Tf U U U (Tc 1 U (Tn ?_))) | (refine Wo 4 U ?_;refine Tf U U U (Tc 1 U (Tn ?_))) | (refine Wo 6 U ?_;refine Tf U U U (Tc 1 U (Tn ?_))) | (refine Wo 8 U ?_;refine Tf U U U (Tc 1 U (Tn ?_))) | (refine Wo 12 U ?_;refine Tf U U U (Tc 1 U (Tn ?_))) | (refine Wo 16 U ?_;refine Tf U U U (Tc 1 U (Tn ?_))) | (refine Wo 17 U ?_;refine Tf U U U (Tc 1 U (Tn ?_))) | (refine Wo 18 U ?_;refine Tf U U U (Tc 1 U (Tn ?_))) | (refine Wo 20 U ?_;refine Tf U U U (Tc 1 U (Tn ?_))) | (refine Wo 24 U ?_;refine Tf U U U (Tc 1 U (Tn ?_))) | (refine Wo 28 U ?_;refine Tt U U U (Tc 1 U (Tn ?_))) | (refine Wo 29 U ?_;refine Tc 2 U (Tt U U ‹_› (Tg U (aa U U U U ‹_›) ?_)) <;> refine Tc 1 U (Tn ?_)) | apply ae | apply am));refine ⟨.inl rfl, Eq.trans (b := some (AV.int .i64 _, _)) rfl ?_⟩;show _ = some (AV.int .i64 (fe (a == b)), h);rw [hab]
 ·have e2 : (op == 2) = false := by simpa using o2
  have e3 : (op == 3) = false := by simpa using o3
  have e4 : (op == 4) = false := by simpa using o4
  have e5 : (op == 5) = false := by simpa using o5
  have e6 : (op == 6) = false := by simpa using o6
  have e7 : (op == 7) = false := by simpa using o7
  have e8 : (op == 8) = false := by simpa using o8
  have e9 : (op == 9) = false := by simpa using o9
  have e10 : (op == 10) = false := by simpa using o10
  have e11 : (op == 11) = false := by simpa using o11
  have e13 : (op == 13) = false := by simpa using o13
  have hz : Gm op w a b = fe (decide (a < b)) := by
   unfold Gm;rw [if_neg o2, if_neg o3, if_neg o4, if_neg o5, if_neg o6, if_neg (by omega), if_neg o10, if_neg o11, if_neg o13]
  rw [hz];cases hab : decide (a < b)
  ·apply ai Tryz.func145 U (Nb U) U U
   (repeat' (first | apply ab | refine af U U ?_ | refine Wr 0 U U ?_ | refine Wr 1 U U ?_ | (refine Wo 2 U ?_;refine Tf U U ‹_› (Tc 1 U (Tn ?_))) | (refine Wo 4 U ?_;refine Tf U U ‹_› (Tc 1 U (Tn ?_))) | (refine Wo 6 U ?_;refine Tf U U ‹_› (Tc 1 U (Tn ?_))) | (refine Wo 8 U ?_;refine Tf U U ‹_› (Tc 1 U (Tn ?_))) | (refine Wo 12 U ?_;refine Tf U U ‹_› (Tc 1 U (Tn ?_))) | (refine Wo 16 U ?_;refine Tf U U ‹_› (Tc 1 U (Tn ?_))) | (refine Wo 17 U ?_;refine Tf U U ‹_› (Tc 1 U (Tn ?_))) | (refine Wo 18 U ?_;refine Tf U U ‹_› (Tc 1 U (Tn ?_))) | (refine Wo 20 U ?_;refine Tf U U ‹_› (Tc 1 U (Tn ?_))) | (refine Wo 24 U ?_;refine Tf U U ‹_› (Tc 1 U (Tn ?_))) | (refine Wo 28 U ?_;refine Tf U U ‹_› (Tc 1 U (Tn ?_))) | (refine Wo 30 U ?_;refine Tc 2 U (Tf U U ‹_› (Tg U (aa U U U U ‹_›) ?_)) <;> refine Tc 1 U (Tn ?_)) | apply ak | apply ae | apply am));exact ⟨.inl rfl, rfl⟩
  ·apply ai Tryz.func145 U (Nb U) U U
   (repeat' (first | apply ab | refine af U U ?_ | refine Wr 0 U U ?_ | refine Wr 1 U U ?_ | (refine Wo 2 U ?_;refine Tf U U ‹_› (Tc 1 U (Tn ?_))) | (refine Wo 4 U ?_;refine Tf U U ‹_› (Tc 1 U (Tn ?_))) | (refine Wo 6 U ?_;refine Tf U U ‹_› (Tc 1 U (Tn ?_))) | (refine Wo 8 U ?_;refine Tf U U ‹_› (Tc 1 U (Tn ?_))) | (refine Wo 12 U ?_;refine Tf U U ‹_› (Tc 1 U (Tn ?_))) | (refine Wo 16 U ?_;refine Tf U U ‹_› (Tc 1 U (Tn ?_))) | (refine Wo 17 U ?_;refine Tf U U ‹_› (Tc 1 U (Tn ?_))) | (refine Wo 18 U ?_;refine Tf U U ‹_› (Tc 1 U (Tn ?_))) | (refine Wo 20 U ?_;refine Tf U U ‹_› (Tc 1 U (Tn ?_))) | (refine Wo 24 U ?_;refine Tf U U ‹_› (Tc 1 U (Tn ?_))) | (refine Wo 28 U ?_;refine Tf U U ‹_› (Tc 1 U (Tn ?_))) | (refine Wo 30 U ?_;refine Tc 2 U (Tt U U ‹_› (Tg U (aa U U U U ‹_›) ?_)) <;> refine Tc 1 U (Tn ?_)) | apply ak | apply ae | apply am));exact ⟨.inl rfl, rfl⟩
def cE (n : Int) : aF := .mk 0 n 0 []
def iW (i w W s : Int) : aF := .mk 1 i s (if decide (W > 1) then [cE w] else [])
def yr (i w W : Int) : aF := .mk 13 0 0 [iW i w W 0, iW i w W 1]
def cG (a b : aF) : aF := .mk 7 0 0 [a, b]
variable (k : Nat) (h : aj) (lo : Nat)
theorem ux (i w W s : Int) : call Tryz.prog ba (k + 1) lo (.func 123) [.int .i64 i, .int .i64 w, .int .i64 W, .int .i64 s] h = some (.agg (cT (iW i w W s)), h) := by
 cases hc : decide (W > 1)
 ·have e : cT (iW i w W s) = cT (.mk 1 i s []) := by unfold iW; rw [hc]; rfl
  rw [e];apply ai Tryz.func123 U (Nb U) U U;(repeat' (first | apply ab | refine af U U ?_ | refine Wr 0 U U ?_ | refine Wr 1 U U ?_ | (refine Wo 2 U ?_;refine Tc 1 U (Tf U U ‹_› (Tn ?_))) | refine Wr 4 U U ?_ | apply ak | apply am));exact ⟨.inl rfl, rfl⟩
 ·have e : cT (iW i w W s) = cT (.mk 1 i s [cE w]) := by unfold iW; rw [hc]; rfl
  rw [e];apply ai Tryz.func123 U (Nb U) U U;(repeat' (first | apply ab | refine ah U U ?_ | refine Wr 0 U U ?_ | refine Wr 1 U U ?_ | (refine Wo 2 U ?_;refine Tc 1 U (Tt U U ‹_› (Tn ?_))) | refine Wr 3 U U ?_ | refine Wr 4 U U ?_ | apply am));exact ⟨.inl rfl, rfl⟩
theorem rM (a b : aF) : call Tryz.prog ba (k + 1) lo (.func 38) [.agg (cT a), .agg (cT b)] h = some (.agg (cT (.mk 13 0 0 [a, b])), h) := by
 obtain ⟨o1, n1, c1, l1⟩ := a;obtain ⟨o2, n2, c2, l2⟩ := b;apply ai Tryz.func38 U (Nb U) U U;(repeat' (first | apply ab | refine Wr 0 U U ?_ | refine Wr 1 U U ?_ | apply am));exact ⟨.inl rfl, rfl⟩
def EO (i W : Int) (acc : Option aF) (w : Nat) : Option aF := some (match acc with | none => yr i w W | some a => cG a (yr i w W))
def sU (g : Nat -> Bool) : List bk -> Nat -> Option aF -> Option aF
 | [], _, acc => acc
 | v :: l, i, acc => sU g l (i + 1) (if g i then (List.range v.cells.toNat).foldl (EO i v.cells) acc else acc)
def Fl : Option aF -> List AV
 | none => [.int .i64 0, .int .i64 0, .int .i64 0, .nils]
 | some e => cT e
def samS (h : aj) (vs : List bk) (cl : AV) (i : Int) (a : Option aF × aj) : St :=
 {env := [(1, .v cl), (4, .p 4 0), (6, .p 6 0), (7, .v (.bool a.1.isSome)), (13, .v (.vs 3 (ii vs))), (14, .v (.int .i64 (ii vs).length)), (15, .v (.int .i64 i))], loc := [(4, Fl none), (6, Fl a.1)], heap := a.2, inRound := false, lo := h.length }
def samI (h : aj) (vs : List bk) (cl : AV) (i : Int) (v : bk) (w : Int) (a : Option aF × aj) : St :=
 {env := [(1, .v cl), (4, .p 4 0), (6, .p 6 0), (7, .v (.bool a.1.isSome)), (8, .v (.int .i64 i)), (9, .p 9 0), (13, .v (.vs 3 (ii vs))), (14, .v (.int .i64 (ii vs).length)), (15, .v (.int .i64 i)), (25, .v (.int .i64 v.cells)), (26, .v (.int .i64 w))], loc := [(4, Fl none), (6, Fl a.1), (9, E5 v)], heap := a.2, inRound := false, lo := h.length }
def agC (o : Option aF) : aF := o.getD (.mk 0 0 0 [])
theorem lJ (w0 : Int) (vs : List bk) (body : List ay) (g : Nat -> Bool) (fid : Nat) (caps : List AV) (k : Nat) (hk : vs.length + 3 < k) (hv : vs.length < 1000) (hc : ∀ v, v ∈ vs -> v.cells.toNat + 3 < k /\ v.cells <= 1000) (h : aj) (lo : Nat)
  (hf : ∀ (i : Nat), i < vs.length -> ∀ js, call Tryz.prog ba k h.length (.func fid) ([.int .i64 (i : Int)] ++ caps) (h ++ js) = some (.bool (g i), h ++ js)) :
  call Tryz.prog ba (k + 1) lo (.func 81) [.agg (bY ⟨w0, vs, body⟩), .fn (.func fid) caps] h = some (.tup [.agg (cT (agC (sU g vs 0 none))), .bool (sU g vs 0 none).isSome], h) := by
 apply ai Tryz.func81 U (Nb U) U U;(repeat' (first | apply ab | refine Wr 0 U U ?_ | refine Wr 1 U U ?_ | refine Wr 2 U U ?_ | refine Wr 3 U U ?_ | apply ae));apply aS (S := samS h vs (.fn (.func fid) caps)) (l := vs) (a0 := (none, h)) (fun i rest a => sU g rest i a.1 = sU g vs 0 none /\ ∃ js, a.2 = h ++ js) (by omega) (by omega) rfl ⟨rfl, [], by simp⟩
 ·intro i v rest a hi hd hil hJ
  obtain ⟨acc, H⟩ := a;obtain ⟨hJ1, js, hH⟩ := hJ;dsimp only at hJ1 hH;subst hH;have hrow := gk hi;have hlt := ld hil;have hfi := hf i hil js;have hcv := hc v (List.mem_of_getElem? hi);rw [sU] at hJ1;cases hg : g i
  ·rw [hg] at hfi hJ1
   rw [if_neg (by simp)] at hJ1;obtain ⟨nm, level, cells⟩ := v;(repeat' (first | apply ab | refine ah U U ?_ | (refine Wo 4 U ?_;refine Tt U U ‹_› (Tn ?_)) | (refine Wo 5 U ?_;refine Tc 1 U (Tg U (aq U U U U U ‹_›) ?_) <;> refine Tg U U (Tc 3 U (Tn ?_))) | (refine Wo 6 U ?_;refine Tc 2 U (Tf U (aa U U U U ‹_›) U ?_) <;> refine Tc 1 U (Tn ?_)) | refine Wr 15 U U ?_ | apply ak | apply ae | apply aC));exact ⟨(acc, h ++ js), rfl, hJ1, js, rfl⟩
  ·rw [hg] at hfi hJ1
   rw [if_pos rfl] at hJ1;obtain ⟨nm, level, cells⟩ := v;dsimp only at hcv hJ1;(repeat' (first | apply ab | refine ah U U ?_ | refine af U U ?_ | (refine Wo 4 U ?_;refine Tt U U ‹_› (Tn ?_)) | (refine Wo 5 U ?_;refine Tc 1 U (Tg U (aq U U U U U ‹_›) ?_) <;> refine Tg U U (Tc 3 U (Tn ?_))) | (refine Wo 6 U ?_;refine Tc 2 U (Tt U (aa U U U U ‹_›) U ?_) <;> refine Tc 1 U (Tn ?_)) | refine Wr 7 U U ?_ | apply ak | apply ae));apply aS (S := samI h vs (.fn (.func fid) caps) i ⟨nm, level, cells⟩) (l := List.range cells.toNat) (a0 := (acc, h ++ js))
    (fun w ws a => sU g rest (i + 1) (ws.foldl (EO i cells) a.1) = sU g vs 0 none /\ ∃ js, a.2 = h ++ js) (by simp; omega) (by simp; omega) rfl ⟨hJ1, js, rfl⟩
   ·intro w x ws a hw hdw hwl hJw
    obtain ⟨a1, H⟩ := a;obtain ⟨hJ2, js2, hH⟩ := hJw;dsimp only at hJ2 hH;have hx : x = w := by
     have := List.getElem?_range (n := cells.toNat) (i := w) (by simpa using hwl);rw [this] at hw; injection hw with hw; exact hw.symm
    subst hx;have hlw : decide ((x : Int) < cells) = true := decide_eq_true (by simp at hwl; omega);have hc0 := ux (k - 1) H H.length i x cells 0;have hc1 := ux (k - 1) H H.length i x cells 1;have heq := rM (k - 1) H H.length (iW i x cells 0) (iW i x cells 1);rw [show k - 1 + 1 = k by omega] at hc0 hc1 heq
    have g1 : (H ++ [ap.cells 31 [.int .i64 0, .int .i64 0, .int .i64 0, .nils]])[H.length]? = some (.cells 31 [.int .i64 0, .int .i64 0, .int .i64 0, .nils]) := by simp
    have g2 : h.length <= H.length := by rw [hH]; simp
    have g3 : H.length < (H ++ [ap.cells 31 [.int .i64 0, .int .i64 0, .int .i64 0, .nils]]).length := by simp
    rw [List.foldl_cons] at hJ2;cases a1 with
    | none =>
     (repeat' (first | apply ab | refine ah U U ?_ | refine af U U ?_ | (refine Wo 8 U ?_;refine Tt U U ‹_› (Tn ?_)) | refine Wr 9 U U ?_ | (refine Wd 10 [0,0,0,4,15,0,0,0,128,511,1023,0,4095] U U (by decide +kernel) ?_;refine Uf U U U (Uf U U U (Uf U U U (Uf U U U (Uf U (aa U U U U ‹_›) U ?_)))) <;> refine Uf U U U (Uf U U U (Uf U U U (Uf U U U (Uf U (aa U U U U ‹_›) U ?_)))) <;> refine Uf U (aa U U U U ‹_›) U ?_ <;> (refine aP U ?_; refine ew (by decide +kernel) U U U U U ?_) <;> refine Uo U (aM U U U U ‹_› ⟨by assumption, U, U, Nb U⟩) ?_ <;> refine Un ?_) | refine Wr 11 U U ?_ | (refine Wo 13 U ?_;refine Tg U (bP U U U U ‹_› U U) ?_ <;> refine Tc 2 U (Tn ?_)) | refine Wr 14 U U ?_ | apply ak | apply ae));exact ⟨(some (yr i x cells), (H ++ [ap.cells 31 [.int .i64 0, .int .i64 0, .int .i64 0, .nils]]).set H.length (.cells 31 (cT (yr i x cells)))), rfl, hJ2, js2 ++ [.cells 31 (cT (yr i x cells))], by rw [hH]; simp [List.set_append]⟩
    | some e =>
     obtain ⟨o, n, c, l⟩ := e;(repeat' (first | apply ab | refine ah U U ?_ | (refine Wo 8 U ?_;refine Tt U U ‹_› (Tn ?_)) | refine Wr 9 U U ?_ | (refine Wd 10 [0,0,0,4,15,0,0,0,128,511,1023,0,4095] U U (by decide +kernel) ?_;refine Uf U U U (Uf U U U (Uf U U U (Uf U U U (Uf U (aa U U U U ‹_›) U ?_)))) <;> refine Uf U U U (Uf U U U (Uf U U U (Uf U U U (Uf U (aa U U U U ‹_›) U ?_)))) <;> refine Uf U (aa U U U U ‹_›) U ?_ <;> (refine aP U ?_; refine ew (by decide +kernel) U U U U U ?_) <;> refine Uo U (aM U U U U ‹_› ⟨by assumption, U, U, Nb U⟩) ?_ <;> refine Un ?_) | refine Wr 11 U U ?_ | (refine Wo 12 U ?_;refine Tc 1 U (Tg U (bP U U U U ‹_› U U) ?_) <;> refine Tc 2 U (Tg U (cL U U U U U ‹_› ‹_› ⟨U, U, Nb U⟩ U) ?_) <;> refine Tn ?_) | (refine Wo 13 U ?_;refine Tg U (bP U U U U ‹_› U U) ?_ <;> refine Tc 2 U (Tn ?_)) | refine Wr 14 U U ?_ | apply ak | apply ae));exact ⟨(some (cG (.mk o n c l) (yr i x cells)), (H ++ [ap.cells 31 [.int .i64 0, .int .i64 0, .int .i64 0, .nils]]).set H.length (.cells 31 (cT (cG (.mk o n c l) (yr i x cells))))), rfl, hJ2, js2 ++ [.cells 31 (cT (cG (.mk o n c l) (yr i x cells)))], by rw [hH]; simp [List.set_append]⟩
   ·intro a hJ
    obtain ⟨a1, H⟩ := a;obtain ⟨hJ2, js2, hH⟩ := hJ;have hlw : decide (((List.range cells.toNat).length : Int) < cells) = false := decide_eq_false (by simp; omega);(repeat' (first | apply ab | refine af U U ?_ | (refine Wo 8 U ?_;refine Tf U U ‹_› (Tn ?_)) | refine Wr 15 U U ?_ | apply aC));exact ⟨(a1, H), rfl, hJ2, js2, hH⟩
 ·intro a hJ
  obtain ⟨a1, H⟩ := a;obtain ⟨hJ1, js, hH⟩ := hJ;dsimp only at hJ1 hH;rw [sU] at hJ1;have hlt := lf (l := vs);rw [<- hJ1];cases a1 with
  | none =>
   (repeat' (first | apply ab | refine af U U ?_ | (refine Wo 4 U ?_;refine Tf U U ‹_› (Tn ?_)) | refine Wr 16 U U ?_ | apply am | apply aC));exact ⟨.inl rfl, rfl⟩
  | some e =>
   obtain ⟨o, n, c, l⟩ := e;(repeat' (first | apply ab | refine af U U ?_ | (refine Wo 4 U ?_;refine Tf U U ‹_› (Tn ?_)) | refine Wr 16 U U ?_ | apply am | apply aC));exact ⟨.inl rfl, rfl⟩
theorem fG {l : List Int} {i : Nat} {n : Int} (h : l[i]? = some n) : (ag l)[i]? = some [.int .i64 n] := by simp [ag, h]
theorem rN (H : aj) (id1 id2 : Nat) (l : List Int) (low : Int) (h1 : H[id1]? = some (.cells 26 [.vs 1 (ag l)])) (h2 : H[id2]? = some (.cells 3 [.int .i64 low])) (i : Nat) (n : Int) (hi : l[i]? = some n) (k lo : Nat) :
  call Tryz.prog ba (k + 2) lo (.func 82) [.int .i64 i, .hp id1 1 0, .hp id2 1 0] H = some (.bool (aW n low), H) := by
 have hrow := fG hi;have hW := d5 n low k lo H;cases hb : aW n low <;> rw [hb] at hW <;>
 ·apply ai Tryz.func82 U (Nb U) U U
  (repeat' (first | apply ab | refine Wr 0 U U ?_ | (refine Wd 1 [0,0,3,7,0,31,63] U U (by decide +kernel) ?_;refine Uf U (aA U U U ‹_› U U) U ?_ <;> refine Uf U U U (Uf U (aq U U U U U ‹_›) U ?_) <;> refine Uf U U U (Uf U (aA U U U ‹_› U U) U ?_) <;> (refine aP U ?_; first | refine fX (by decide +kernel) (aa U U U U ‹_›) U ?_ | refine d9 (by decide +kernel) (aa U U U U ‹_›) U ?_) <;> refine Uo U U (Un ?_)) | apply am));exact ⟨.inl rfl, rfl⟩
theorem rO (H : aj) (id1 id2 : Nat) (l : List Int) (low : Int) (h1 : H[id1]? = some (.cells 26 [.vs 1 (ag l)])) (h2 : H[id2]? = some (.cells 3 [.int .i64 low])) (i : Nat) (n : Int) (hi : l[i]? = some n) (k lo : Nat) :
  call Tryz.prog ba (k + 2) lo (.func 83) [.int .i64 i, .hp id1 1 0, .hp id2 1 0] H = some (.bool (aW n low), H) := by
 have hrow := fG hi;have hW := d5 n low k lo H;cases hb : aW n low <;> rw [hb] at hW <;>
 ·apply ai Tryz.func83 U (Nb U) U U
  (repeat' (first | apply ab | refine Wr 0 U U ?_ | (refine Wd 1 [0,0,3,7,0,31,63] U U (by decide +kernel) ?_;refine Uf U (aA U U U ‹_› U U) U ?_ <;> refine Uf U U U (Uf U (aq U U U U U ‹_›) U ?_) <;> refine Uf U U U (Uf U (aA U U U ‹_› U U) U ?_) <;> (refine aP U ?_; first | refine fX (by decide +kernel) (aa U U U U ‹_›) U ?_ | refine d9 (by decide +kernel) (aa U U U U ‹_›) U ?_) <;> refine Uo U U (Un ?_)) | apply am));exact ⟨.inl rfl, rfl⟩
def Io (h H : aj) (id8 : Nat) (w : Int) (vs : List bk) (body : List ay) (low : Int) (e : aF) (i : Int) (_ : Unit) : St :=
 {env := [(5, .p 5 0), (6, .v (.hp h.length 1 0)), (8, .v (.hp id8 1 0)), (10, .p 10 0), (12, .p 12 0), (13, .p 13 0), (14, .p 14 0), (31, .v .nils), (32, .v (.int .i64 0)), (33, .v (.int .i64 i))],
  loc := [(5, bY ⟨w, vs, body⟩), (10, [.int .i64 0, .int .i64 0, .int .i64 0, .int .i64 0, .nils, .int .i64 0, .int .i64 0, .int .i64 0, .nils, .int .i64 0, .int .i64 0]), (12, [.int .i64 2, .int .i64 0, .int .i64 0, .int .i64 0, .vs 4 [], .int .i64 0, .int .i64 0, .int .i64 0, .vs 4 [], .int .i64 low, .int .i64 1]), (13, cT (cE 1)), (14, cT e)], heap := H, inRound := false, lo := h.length }
def pY (n : Int) (a b : aF) (lv s : Int) : List AV := [.int .i64 n] ++ cT a ++ cT b ++ [.int .i64 lv, .int .i64 s]
def AE (l : List Int) (low : Int) (i : Nat) : Bool := aW (l.getD i 0) low
def bx (vs : List bk) (low : Int) (l : List Int) : aF := (sU (AE l low) vs 0 none).getD (cE 1)
def vN (w : Int) (vs : List bk) (low : Int) (l1 l2 : List Int) : List AV × Int :=
 if dC w vs 2 (bx vs low l1) != 0 || dC w vs 2 (bx vs low l2) != 0 then (pY 0 (.mk 0 0 0 []) (.mk 0 0 0 []) 0 0, 2)
 else (pY 2 (bx vs low l1) (bx vs low l2) low 1, 0)
theorem rP (w : Int) (vs : List bk) (body : List ay) (low : Int) (l1 l2 : List Int) (k : Nat) (hk : vs.length + 5 < k) (hv : vs.length < 1000) (hc : ∀ v, v ∈ vs -> v.cells.toNat + 5 < k /\ v.cells <= 1000)
  (hl1 : l1.length = vs.length) (hl2 : l2.length = vs.length) (hK1 : cM (bx vs low l1) + 60 <= k) (hK2 : cM (bx vs low l2) + 60 <= k) (hB1 : dP (bx vs low l1)) (hB2 : dP (bx vs low l2)) (h : aj) (lo : Nat) :
  call Tryz.prog ba (k + 1) lo (.func 40) [.agg (bY ⟨w, vs, body⟩), .int .i64 low, .vs 1 (ag l1), .vs 1 (ag l2), .nils] h = some (.tup [.agg (vN w vs low l1 l2).1, .int .i64 (vN w vs low l1 l2).2], h) := by
 have hat : ∀ (l : List Int), l.length = vs.length -> ∀ i, i < vs.length -> l[i]? = some (l.getD i 0) := fun l hl i hi => by simp [List.getD_eq_getElem?_getD, List.getElem?_eq_getElem (show i < l.length by omega)]
 let H : aj := (h ++ [ap.cells 3 [.int .i64 low]] ++ [ap.cells 26 [.vs 1 (ag l1)]]) ++ [ap.cells 26 [.vs 1 (ag l2)]]
 have e1 : ∀ js, (H ++ js)[h.length]? = some (.cells 3 [.int .i64 low]) := fun js => by simp [H, List.getElem?_append]
 have e2 : ∀ js, (H ++ js)[(h ++ [ap.cells 3 [.int .i64 low]]).length]? = some (.cells 26 [.vs 1 (ag l1)]) := fun js => by simp [H, List.getElem?_append]
 have e3 : ∀ js, (H ++ js)[(h ++ [ap.cells 3 [.int .i64 low]] ++ [ap.cells 26 [.vs 1 (ag l1)]]).length]? = some (.cells 26 [.vs 1 (ag l2)]) := fun js => by simp [H, List.getElem?_append]
 have hS1 := lJ w vs body (AE l1 low) 82 [.hp (h ++ [ap.cells 3 [.int .i64 low]]).length 1 0, .hp h.length 1 0] (k - 1) (by omega) hv (fun v hm => by have := hc v hm; omega) H h.length (fun i hi js => by
  have := rN (H ++ js) _ _ l1 low (e2 js) (e1 js) i _ (hat l1 hl1 i hi) (k - 3) H.length;rw [show k - 3 + 2 = k - 1 by omega] at this
  exact this)
 have hS2 := lJ w vs body (AE l2 low) 83 [.hp (h ++ [ap.cells 3 [.int .i64 low]] ++ [ap.cells 26 [.vs 1 (ag l1)]]).length 1 0, .hp h.length 1 0] (k - 1) (by omega) hv (fun v hm => by have := hc v hm; omega) H h.length (fun i hi js => by
  have := rO (H ++ js) _ _ l2 low (e3 js) (e1 js) i _ (hat l2 hl2 i hi) (k - 3) H.length;rw [show k - 3 + 2 = k - 1 by omega] at this
  exact this)
 have hC1 := jv w vs 2 _ (k - 1) (by omega) hB1 H h.length;have hC2 := jv w vs 2 _ (k - 1) (by omega) hB2 H h.length;rw [show k - 1 + 1 = k by omega] at hS1 hS2 hC1 hC2
 unfold vN;unfold bx at *;generalize sU (AE l1 low) vs 0 none = o1 at *;generalize sU (AE l2 low) vs 0 none = o2 at *;generalize hx1 : dC w vs 2 (o1.getD (cE 1)) = x1 at *;generalize hx2 : dC w vs 2 (o2.getD (cE 1)) = x2 at *;have hH : H = (h ++ [ap.cells 3 [.int .i64 low]] ++ [ap.cells 26 [.vs 1 (ag l1)]]) ++ [ap.cells 26 [.vs 1 (ag l2)]] := rfl;have f1 := e1 [];rw [List.append_nil] at f1;clear e1 e2 e3 hat
 clear_value H
 subst hH;cases o1 with
 | none =>
  cases o2 with
  | none =>
   have hxx : x1 = x2 := hx1.symm.trans hx2;subst hxx;clear hC2 hx2;cases hb1 : (x1 != 0) <;>
   ·apply ai Tryz.func40 U (Nb U) U U
    (repeat' (first | apply ab | refine ah U U ?_ | refine Wr 0 U U ?_ | (refine Wo 1 U ?_;refine Tg U (aA U U U ‹_› U U) ?_ <;> refine Tc 3 U (Tn ?_)) | refine Wr 2 U U ?_ | (refine Wo 3 U ?_;refine Tc 2 U (Tg U (aa U U U U ‹_›) ?_) <;> refine Tc 2 U (Tf U U U (Tc 3 U (Tn ?_)))) | refine Wr 4 U U ?_ | refine Wr 5 U U ?_ | refine Wr 6 U U ?_ | apply ae));apply aS (S := Io h (h ++ [ap.cells 3 [.int .i64 low]] ++ [ap.cells 26 [.vs 1 (ag l1)]] ++ [ap.cells 26 [.vs 1 (ag l2)]]) (h ++ [ap.cells 3 [.int .i64 low]] ++ [ap.cells 26 [.vs 1 (ag l1)]]).length w vs body low (cE 1)) (l := ([] : List Nat)) (a0 := ()) (fun _ _ _ => True) (by simp) (by simp; omega) rfl trivial
    ·intro i x rest a hi
     simp at hi
    ·intro _ _
     clear hS1;(repeat' (first | apply ab | refine ah U U ?_ | refine af U U ?_ | (refine Wo 7 U ?_;refine Tf U U U (Tn ?_)) | (refine Wo 11 U ?_;refine Tc 2 U (Tg U (aa U U U U ‹_›) ?_) <;> refine Tc 2 U (Tf U U U (Tc 3 U (Tn ?_)))) | refine Wr 12 U U ?_ | refine Wr 13 U U ?_ | (refine Wd 14 [0,0,1,5,15,31] U U (by decide +kernel) ?_;refine Uf U U U (Uf U U U (Uf U U U ?_)) <;> (refine aP U ?_; refine fy (by decide +kernel) U U ?_) <;> refine Uo U U (Uo U U (Un ?_))) | (refine Wo 15 U ?_;refine Tc 5 U (Tg U (aa U U U U ‹_›) ?_) <;> (refine aK U ?_; first | refine bi U ‹_› ?_ | refine aT U ‹_› ?_) <;> refine Tc 6 U ?_ <;> (first | refine au U ?_ | (refine aK U ?_; refine ev (aa U U U U ‹_›) ?_)) <;> (first | refine au U ?_ | (refine aK U ?_; refine aT U ‹_› ?_)) <;> refine Tc 1 U (Tn ?_)) | refine Wr 16 U U ?_ | refine Wr 17 U U ?_ | apply ak | apply am | apply aC))
     all_goals exact ⟨.inl rfl, rfl⟩
  | some b =>
   obtain ⟨o2, n2, c2, a2⟩ := b;cases hb1 : (x1 != 0) <;> cases hb2 : (x2 != 0) <;>
   ·apply ai Tryz.func40 U (Nb U) U U
    (repeat' (first | apply ab | refine ah U U ?_ | refine Wr 0 U U ?_ | (refine Wo 1 U ?_;refine Tg U (aA U U U ‹_› U U) ?_ <;> refine Tc 3 U (Tn ?_)) | refine Wr 2 U U ?_ | (refine Wo 3 U ?_;refine Tc 2 U (Tg U (aa U U U U ‹_›) ?_) <;> refine Tc 2 U (Tf U U U (Tc 3 U (Tn ?_)))) | refine Wr 4 U U ?_ | refine Wr 5 U U ?_ | refine Wr 6 U U ?_ | apply ae));apply aS (S := Io h (h ++ [ap.cells 3 [.int .i64 low]] ++ [ap.cells 26 [.vs 1 (ag l1)]] ++ [ap.cells 26 [.vs 1 (ag l2)]]) (h ++ [ap.cells 3 [.int .i64 low]] ++ [ap.cells 26 [.vs 1 (ag l1)]]).length w vs body low (cE 1)) (l := ([] : List Nat)) (a0 := ()) (fun _ _ _ => True) (by simp) (by simp; omega) rfl trivial
    ·intro i x rest a hi
     simp at hi
    ·intro _ _
     clear hS1;(repeat' (first | apply ab | refine ah U U ?_ | refine af U U ?_ | (refine Wo 7 U ?_;refine Tf U U U (Tn ?_)) | (refine Wo 11 U ?_;refine Tc 2 U (Tg U (aa U U U U ‹_›) ?_) <;> refine Tc 2 U (Tt U U U (Tc 3 U (Tn ?_)))) | refine Wr 12 U U ?_ | (refine Wd 14 [0,0,1,5,15,31] U U (by decide +kernel) ?_;refine Uf U U U (Uf U U U (Uf U U U ?_)) <;> (refine aP U ?_; refine fy (by decide +kernel) U U ?_) <;> refine Uo U U (Uo U U (Un ?_))) | (refine Wo 15 U ?_;refine Tc 5 U (Tg U (aa U U U U ‹_›) ?_) <;> (refine aK U ?_; first | refine bi U ‹_› ?_ | refine aT U ‹_› ?_) <;> refine Tc 6 U ?_ <;> (first | refine au U ?_ | (refine aK U ?_; refine ev (aa U U U U ‹_›) ?_)) <;> (first | refine au U ?_ | (refine aK U ?_; first | refine bi U ‹_› ?_ | refine aT U ‹_› ?_)) <;> refine Tc 1 U (Tn ?_)) | refine Wr 16 U U ?_ | refine Wr 17 U U ?_ | apply ak | apply am | apply aC))
     all_goals exact ⟨.inl rfl, rfl⟩
 | some a =>
  obtain ⟨o1, n1, c1, a1⟩ := a;cases o2 with
  | none =>
   cases hb1 : (x1 != 0) <;> cases hb2 : (x2 != 0) <;>
   ·apply ai Tryz.func40 U (Nb U) U U
    (repeat' (first | apply ab | refine af U U ?_ | refine Wr 0 U U ?_ | (refine Wo 1 U ?_;refine Tg U (aA U U U ‹_› U U) ?_ <;> refine Tc 3 U (Tn ?_)) | refine Wr 2 U U ?_ | (refine Wo 3 U ?_;refine Tc 2 U (Tg U (aa U U U U ‹_›) ?_) <;> refine Tc 2 U (Tt U U U (Tc 3 U (Tn ?_)))) | refine Wr 4 U U ?_ | refine Wr 6 U U ?_ | apply ak | apply ae));apply aS (S := Io h (h ++ [ap.cells 3 [.int .i64 low]] ++ [ap.cells 26 [.vs 1 (ag l1)]] ++ [ap.cells 26 [.vs 1 (ag l2)]]) (h ++ [ap.cells 3 [.int .i64 low]] ++ [ap.cells 26 [.vs 1 (ag l1)]]).length w vs body low (.mk o1 n1 c1 a1)) (l := ([] : List Nat)) (a0 := ()) (fun _ _ _ => True) (by simp) (by simp; omega) rfl trivial
    ·intro i x rest a hi
     simp at hi
    ·intro _ _
     clear hS1;(repeat' (first | apply ab | refine ah U U ?_ | refine af U U ?_ | (refine Wo 7 U ?_;refine Tf U U U (Tn ?_)) | (refine Wo 11 U ?_;refine Tc 2 U (Tg U (aa U U U U ‹_›) ?_) <;> refine Tc 2 U (Tf U U U (Tc 3 U (Tn ?_)))) | refine Wr 12 U U ?_ | refine Wr 13 U U ?_ | (refine Wd 14 [0,0,1,5,15,31] U U (by decide +kernel) ?_;refine Uf U U U (Uf U U U (Uf U U U ?_)) <;> (refine aP U ?_; refine fy (by decide +kernel) U U ?_) <;> refine Uo U U (Uo U U (Un ?_))) | (refine Wo 15 U ?_;refine Tc 5 U (Tg U (aa U U U U ‹_›) ?_) <;> (refine aK U ?_; first | refine bi U ‹_› ?_ | refine aT U ‹_› ?_) <;> refine Tc 6 U ?_ <;> (first | refine au U ?_ | (refine aK U ?_; refine ev (aa U U U U ‹_›) ?_)) <;> (first | refine au U ?_ | (refine aK U ?_; first | refine bi U ‹_› ?_ | refine aT U ‹_› ?_)) <;> refine Tc 1 U (Tn ?_)) | refine Wr 16 U U ?_ | refine Wr 17 U U ?_ | apply ak | apply am | apply aC))
     all_goals exact ⟨.inl rfl, rfl⟩
  | some b =>
   obtain ⟨o2, n2, c2, a2⟩ := b;cases hb1 : (x1 != 0) <;> cases hb2 : (x2 != 0) <;>
   ·apply ai Tryz.func40 U (Nb U) U U
    (repeat' (first | apply ab | refine af U U ?_ | refine Wr 0 U U ?_ | (refine Wo 1 U ?_;refine Tg U (aA U U U ‹_› U U) ?_ <;> refine Tc 3 U (Tn ?_)) | refine Wr 2 U U ?_ | (refine Wo 3 U ?_;refine Tc 2 U (Tg U (aa U U U U ‹_›) ?_) <;> refine Tc 2 U (Tt U U U (Tc 3 U (Tn ?_)))) | refine Wr 4 U U ?_ | refine Wr 6 U U ?_ | apply ak | apply ae));apply aS (S := Io h (h ++ [ap.cells 3 [.int .i64 low]] ++ [ap.cells 26 [.vs 1 (ag l1)]] ++ [ap.cells 26 [.vs 1 (ag l2)]]) (h ++ [ap.cells 3 [.int .i64 low]] ++ [ap.cells 26 [.vs 1 (ag l1)]]).length w vs body low (.mk o1 n1 c1 a1)) (l := ([] : List Nat)) (a0 := ()) (fun _ _ _ => True) (by simp) (by simp; omega) rfl trivial
    ·intro i x rest a hi
     simp at hi
    ·intro _ _
     clear hS1;(repeat' (first | apply ab | refine ah U U ?_ | refine af U U ?_ | (refine Wo 7 U ?_;refine Tf U U U (Tn ?_)) | (refine Wo 11 U ?_;refine Tc 2 U (Tg U (aa U U U U ‹_›) ?_) <;> refine Tc 2 U (Tt U U U (Tc 3 U (Tn ?_)))) | refine Wr 12 U U ?_ | (refine Wd 14 [0,0,1,5,15,31] U U (by decide +kernel) ?_;refine Uf U U U (Uf U U U (Uf U U U ?_)) <;> (refine aP U ?_; refine fy (by decide +kernel) U U ?_) <;> refine Uo U U (Uo U U (Un ?_))) | (refine Wo 15 U ?_;refine Tc 5 U (Tg U (aa U U U U ‹_›) ?_) <;> (refine aK U ?_; first | refine bi U ‹_› ?_ | refine aT U ‹_› ?_) <;> refine Tc 6 U ?_ <;> (first | refine au U ?_ | (refine aK U ?_; refine ev (aa U U U U ‹_›) ?_)) <;> (first | refine au U ?_ | (refine aK U ?_; first | refine bi U ‹_› ?_ | refine aT U ‹_› ?_)) <;> refine Tc 1 U (Tn ?_)) | refine Wr 16 U U ?_ | refine Wr 17 U U ?_ | apply ak | apply am | apply aC))
     all_goals exact ⟨.inl rfl, rfl⟩
def Du (m n : Int) : Bool := decide (n < 0) || decide (n > m)
variable (k : Nat) (h : aj) (lo : Nat)
theorem G1 (n : Int) : call Tryz.prog ba (k + 1) lo (.func 137) [.int .i64 n] h = some (.bool (Du 31 n), h) := by
 unfold Du;apply ai Tryz.func137 U (Nb U) U U;(repeat' (first | apply ab | refine Wr 0 U U ?_ | (refine Wo 1 U ?_;refine Tc 1 U (Ts U U (fun _ => ?_) (fun _ => ?_)) <;> refine Tc 2 U ?_ <;> (first | refine au U ?_ | (refine aK U ?_; refine aB U (fun _ => ?_) (fun _ => ?_))) <;> refine Tc 2 U (Tn ?_)) | apply am))
 ·rename_i hc
  exact ⟨.inl rfl, by rw [hc]; rfl⟩
 ·rename_i hc hd
  exact ⟨.inl rfl, by rw [hc, hd]; rfl⟩
 ·rename_i hc hd
  exact ⟨.inl rfl, by rw [hc, hd]; rfl⟩
def G2 (m : Int) : List Int -> Nat -> Int
 | [], _ => -1
 | n :: l, i => if Du m n then (i : Int) else G2 m l (i + 1)
theorem Dv (m : Int) : ∀ (l : List Int) (i : Nat), decide (G2 m l i >= 0) = l.any (Du m)
 | [], i => rfl
 | n :: l, i => by
  rw [G2, List.any_cons];cases hb : Du m n
  ·rw [if_neg (by simp), Dv m l (i + 1)]; rfl
  ·rw [if_pos rfl]; simp
theorem nJ {l : List Int} {i : Nat} (h : i < l.length) : decide ((i : Int) < ((ag l).length : Int)) = true := decide_eq_true (by rw [bw]; omega)
theorem nK {l : List Int} : decide ((l.length : Int) < ((ag l).length : Int)) = false := decide_eq_false (by rw [bw]; omega)
def ixS (h : aj) (lo : Nat) (l : List Int) (i : Int) (_ : Unit) : St :=
 {env := [(0, .v (.vs 1 (ag l))), (1, .v (.fn (.func 137) [])), (7, .v (.int .i64 (ag l).length)), (8, .v (.int .i64 i))], loc := [], heap := h, inRound := false, lo := lo }
theorem G3 (l : List Int) (hk : l.length + 1 < k) (hl : l.length < 9223372036854775808) : call Tryz.prog ba (k + 1) lo (.func 161) [.vs 1 (ag l), .fn (.func 137) []] h = some (.int .i64 (G2 31 l 0), h) := by
 apply ai Tryz.func161 U (Nb U) U U;(repeat' (first | apply ab | refine Wr 0 U U ?_ | refine Wr 1 U U ?_ | apply ae));apply aS (S := ixS h lo l) (l := l) (a0 := ()) (fun i rest _ => G2 31 rest i = G2 31 l 0) (by omega) (by omega) rfl rfl
 ·intro i n rest a hi hd hil hJ
  have hrow := fG hi;have hlt := nJ hil;have hb := G1 (k - 1) h lo n;rw [show k - 1 + 1 = k by omega] at hb
  rw [G2] at hJ;cases hc : Du 31 n
  ·rw [hc] at hb hJ
   rw [if_neg (by simp)] at hJ;(repeat' (first | apply ab | refine ah U U ?_ | refine af U U ?_ | (refine Wo 2 U ?_;refine Tt U U ‹_› (Tn ?_)) | refine Wr 3 U U ?_ | (refine Wo 4 U ?_;refine Tc 3 U (Tg U (aq U U U U U ‹_›) ?_) <;> refine Tg U U (Tf U (aa U U U U ‹_›) U ?_) <;> refine Tn ?_) | refine Wr 6 U U ?_ | apply ak | apply ae));exact ⟨(), rfl, hJ⟩
  ·rw [hc] at hb hJ
   rw [if_pos rfl] at hJ;(repeat' (first | apply ab | refine ah U U ?_ | (refine Wo 2 U ?_;refine Tt U U ‹_› (Tn ?_)) | refine Wr 3 U U ?_ | (refine Wo 4 U ?_;refine Tc 3 U (Tg U (aq U U U U U ‹_›) ?_) <;> refine Tg U U (Tt U (aa U U U U ‹_›) U ?_) <;> refine Tn ?_) | refine Wr 5 U U ?_ | apply ak | apply ae | apply am));exact ⟨.inl rfl, by rw [<- hJ]; rfl⟩
 ·intro a hJ
  have hlt := nK (l := l);(repeat' (first | apply ab | refine af U U ?_ | (refine Wo 2 U ?_;refine Tf U U ‹_› (Tn ?_)) | refine Wr 7 U U ?_ | apply am | apply aC));exact ⟨.inl rfl, by rw [<- hJ]; rfl⟩
theorem Dw (l : List Int) (hk : l.length + 2 < k) (hl : l.length < 9223372036854775808) : call Tryz.prog ba (k + 1) lo (.func 136) [.vs 1 (ag l), .fn (.func 137) []] h = some (.bool (l.any (Du 31)), h) := by
 have hI := G3 (k - 1) h lo l (by omega) hl;rw [show k - 1 + 1 = k by omega] at hI
 have hg := Dv 31 l 0;cases hc : l.any (Du 31) <;> rw [hc] at hg <;>
 ·apply ai Tryz.func136 U (Nb U) U U
  (repeat' (first | apply ab | refine Wr 0 U U ?_ | (refine Wo 1 U ?_;refine Tc 2 U (Tg U (aa U U U U ‹_›) ?_) <;> (refine aK U ?_; first | refine bi U ‹_› ?_ | refine aT U ‹_› ?_) <;> refine Tc 1 U (Tn ?_)) | apply am));exact ⟨.inl rfl, rfl⟩
def tc (vs : List bk) (l : List Int) : Bool := decide (l.length = vs.length) && !l.any (Du 31)
theorem AF (w : Int) (vs : List bk) (body : List ay) (l : List Int) (hk : l.length + 3 < k) (hl : l.length < 9223372036854775808) : call Tryz.prog ba (k + 1) lo (.func 102) [.agg (bY ⟨w, vs, body⟩), .vs 1 (ag l)] h = some (.bool (tc vs l), h) := by
 have hC := Dw (k - 1) h h.length l (by omega) hl;rw [show k - 1 + 1 = k by omega] at hC
 have he : (((ag l).length : Int) == ((ii vs).length : Int)) = decide (l.length = vs.length) := by
  rw [bw, fB]
  by_cases e : l.length = vs.length
  ·simp [e]
  ·simp [e]; omega
 unfold tc;cases h1 : decide (l.length = vs.length) <;> rw [h1] at he
 ·apply ai Tryz.func102 U (Nb U) U U
  (repeat' (first | apply ab | refine Wr 0 U U ?_ | (refine Wo 1 U ?_;refine Tc 5 U (Tf U U ‹_› (Tc 2 U (Tk U (Tc 3 U (Tn ?_)))))) | apply am));exact ⟨.inl rfl, rfl⟩
 ·cases h2 : l.any (Du 31) <;> rw [h2] at hC <;>
  ·apply ai Tryz.func102 U (Nb U) U U
   (repeat' (first | apply ab | refine Wr 0 U U ?_ | (refine Wo 1 U ?_;refine Tc 5 U (Tt U U ‹_› (Tc 2 U ?_)) <;> (refine aK U ?_; first | refine bi (aa U U U U ‹_›) U ?_ | refine aT (aa U U U U ‹_›) U ?_) <;> refine Tc 3 U (Tn ?_)) | apply am));exact ⟨.inl rfl, rfl⟩
def zC : List AV := pY 0 (.mk 0 0 0 []) (.mk 0 0 0 []) 0 0
def td (low : Int) : Bool := decide (low < 0) || decide (low > 15)
def oU (p : bp) (low : Int) (l1 l2 : List Int) : List AV × Int :=
 if s9 p != 0 then (zC, s9 p) else if td low || !tc p.vars l1 || !tc p.vars l2 then (zC, 1) else vN p.width p.vars low l1 l2
theorem rQ (p : bp) (low : Int) (l1 l2 : List Int) (k : Nat) (hk : bA p.body + p.vars.length + 100 <= k) (hb : lB p) (hk1 : l1.length + 5 < k) (hk2 : l2.length + 5 < k) (hv1 : l1.length < 9223372036854775808) (hv2 : l2.length < 9223372036854775808) (h : aj) (lo : Nat)
  (hC : s9 p = 0 -> tc p.vars l1 = true -> tc p.vars l2 = true -> call Tryz.prog ba k h.length (.func 40) [.agg (bY p), .int .i64 low, .vs 1 (ag l1), .vs 1 (ag l2), .nils] h = some (.tup [.agg (vN p.width p.vars low l1 l2).1, .int .i64 (vN p.width p.vars low l1 l2).2], h)) :
  call Tryz.prog ba (k + 1) lo (.func 62) [.agg (bY p), .int .i64 low, .vs 1 (ag l1), .vs 1 (ag l2)] h = some (.tup [.agg (oU p low l1 l2).1, .int .i64 (oU p low l1 l2).2], h) := by
 have hK := eg p (k - 1) (by omega) hb h h.length;have hM1 := AF (k - 1) h h.length p.width p.vars p.body l1 (by omega) hv1;have hM2 := AF (k - 1) h h.length p.width p.vars p.body l2 (by omega) hv2;rw [show k - 1 + 1 = k by omega] at hK hM1 hM2
 unfold oU td;generalize s9 p = c at *;obtain ⟨w, vs, body⟩ := p;dsimp only at *;generalize tc vs l1 = m1 at *;generalize tc vs l2 = m2 at *;cases hc : (c != 0)
 ·have hc0 : c = 0 := by simpa using hc
  subst hc0;cases h1 : decide (low < 0) <;> cases h2 : decide (low > 15) <;> cases m1 <;> cases m2
  case' false.false.true.true => replace hC := hC rfl rfl rfl
  case' false.false.true.true =>
   unfold vN at hC ⊢;generalize bx vs low l1 = e1 at hC ⊢;generalize bx vs low l2 = e2 at hC ⊢;obtain ⟨p1, n1, c1, a1⟩ := e1;obtain ⟨p2, n2, c2, a2⟩ := e2;generalize (dC w vs 2 (.mk p1 n1 c1 a1) != 0 || dC w vs 2 (.mk p2 n2 c2 a2) != 0) = q at hC ⊢;cases q
  all_goals
   apply ai Tryz.func62 U (Nb U) U U;(repeat' (first | apply ab | refine ah U U ?_ | refine af U U ?_ | refine Wr 0 U U ?_ | (refine Wo 1 U ?_;refine Tc 1 U (Tg U (aa U U U U ‹_›) ?_) <;> refine Tc 1 U (Tn ?_)) | (refine Wo 2 U ?_;refine Tc 1 U (Tf U U U (Tn ?_))) | (refine Wo 4 U ?_;refine Tc 1 U ?_ <;> (refine aK U ?_; first | refine bi U ‹_› ?_ | refine aT U ‹_› ?_) <;> refine Tc 2 U ?_ <;> (first | refine au U ?_ | (refine aK U ?_; first | refine bi U ‹_› ?_ | refine aT U ‹_› ?_)) <;> refine Tc 4 U ?_ <;> (first | refine au U ?_ | (refine aK U ?_; first | refine bi (aa U U U U ‹_›) U ?_ | refine aT (aa U U U U ‹_›) U ?_)) <;> refine Tc 5 U ?_ <;> (first | refine au U ?_ | (refine aK U ?_; first | refine bi (aa U U U U ‹_›) U ?_ | refine aT (aa U U U U ‹_›) U ?_)) <;> refine Tc 2 U (Tn ?_)) | refine Wr 5 U U ?_ | (refine Wo 6 U ?_;refine Tc 4 U (Tg U (aa U U U U ‹_›) ?_) <;> refine Tc 4 U (Tn ?_)) | apply ak | apply am))
   all_goals exact ⟨.inl rfl, rfl⟩
 ·apply ai Tryz.func62 U (Nb U) U U
  (repeat' (first | apply ab | refine ah U U ?_ | refine Wr 0 U U ?_ | (refine Wo 1 U ?_;refine Tc 1 U (Tg U (aa U U U U ‹_›) ?_) <;> refine Tc 1 U (Tn ?_)) | (refine Wo 2 U ?_;refine Tc 1 U (Tt U U ‹_› (Tn ?_))) | refine Wr 3 U U ?_ | apply am));exact And.intro (Or.inl rfl) rfl
theorem Fm {h : aj} {e sz : Nat} (row : List Nat) (hsz : sz ≠ 0) (rows : List (List AV)) (hr : ∀ r, r ∈ rows -> r.length = sz /\ ∀ x, x ∈ r -> bh x = true) : fk (some ⟨sz, row⟩) true h (bo h sz rows) (aQ h e rows) = some (.vs sz (rows.map (eS row)), h) := by
 unfold fk;dsimp only;rw [ed rows hr];dsimp only;cases rows with
 | nil => simp [bg, Gz, lQ, hsz]
 | cons r l => rfl
theorem BX : eS [] = id := by funext l; cases l <;> rfl
theorem Dx {h : aj} {e sz : Nat} (hsz : sz ≠ 0) (rows : List (List AV)) (hr : ∀ r, r ∈ rows -> r.length = sz /\ ∀ x, x ∈ r -> bh x = true) : fk (some ⟨sz, []⟩) true h (bo h sz rows) (aQ h e rows) = some (.vs sz rows, h) := by
 rw [Fm [] hsz rows hr, BX, List.map_id]
theorem Fo (e : aF) : (cT e).length = 4 /\ ∀ x, x ∈ cT e -> bh x = true := by
 obtain ⟨op, n, c, l⟩ := e;rw [cT];refine ⟨rfl, fun x hx => ?_⟩
 simp only [List.mem_cons, List.not_mem_nil, or_false] at hx;rcases hx with rfl | rfl | rfl | rfl <;> rfl
theorem qj : ∀ l : List aF, bc l = l.map cT
 | [] => rfl
 | e :: l => by rw [bc, qj l]; rfl
theorem jD (l : List aF) : ∀ r, r ∈ bc l -> r.length = 4 /\ ∀ x, x ∈ r -> bh x = true := by
 intro r hr;rw [qj] at hr;obtain ⟨e, _, rfl⟩ := List.mem_map.1 hr;exact Fo e
theorem jE (h : aj) (l : List aF) (e : aF) (hl : l.length < 1000000) : append ba.tab h.length (aQ h 31 (bc l)) 29 (bo h 4 (bc l)) (.vs 4 [cT e]) = some (bo h 4 (bc (l ++ [e])), aQ h 31 (bc (l ++ [e]))) := by
 have := cy (tab := ba.tab) (lo := h.length) (h := h) (t := 29) (e := 31) rfl rfl (by decide) (Nat.le_refl _) (bc l) [cT e] (fun r hr => (jD l r hr).1) (by rw [dd]; simp only [List.length_cons, List.length_nil, ca]; show (l.length + (0 + 1)) * 48 <= _; omega) (by rw [dd]; simp [ca]; omega);rw [this];simp [qj]
def ceS (h : aj) (l : List aF) (i : Int) (a : List aF) : St :=
 {env := [(3, .v (bo h 4 (bc a))), (6, .v (.vs 4 (bc l))), (7, .v (.int .i64 (bc l).length)), (8, .v (.int .i64 i))], loc := [], heap := aQ h 31 (bc a), inRound := false, lo := h.length }
theorem Dy {h : aj} {e sz : Nat} (rows : List (List AV)) (hr : ∀ r, r ∈ rows -> r.length = sz /\ ∀ x, x ∈ r -> bh x = true) : er (aQ h e rows) h.length (bo h sz rows) = some (bg sz rows) := by
 cases rows with
 | nil => rfl
 | cons r l =>
  have := ed (h := h) (e := e) (r :: l) hr;unfold ja at this;rw [if_pos rfl] at this;have h2 : frz (aQ h e (r :: l)) h.length (bo h sz (r :: l)) = er (aQ h e (r :: l)) h.length (bo h sz (r :: l)) := rfl;rw [h2] at this;cases hf : er (aQ h e (r :: l)) h.length (bo h sz (r :: l)) with
  | none => rw [hf] at this; cases this
  | some b =>
   rw [hf] at this;injection this with this;injection this with this _;rw [this]
theorem Dz {sz : Nat} (hsz : sz ≠ 0) (rows : List (List AV)) : lQ sz (bg sz rows) = .vs sz rows := by
 cases rows with
 | nil => simp [bg, lQ, hsz]
 | cons r l => rfl
theorem uy (h : aj) (op n c : Int) (l : List aF) : fk (some ⟨0, [0, 0, 0, 4]⟩) true h (.agg [.int .i64 op, .int .i64 n, .int .i64 c, bo h 4 (bc l)]) (aQ h 31 (bc l)) = some (.agg (cT (.mk op n c l)), h) := by
 have h1 := Dy (h := h) (e := 31) (bc l) (jD l);have hi : ∀ (H : aj) (z : Int), er H h.length (.int .i64 z) = some (.int .i64 z) := fun _ _ => rfl
 have h2 : frz (aQ h 31 (bc l)) h.length (.agg [.int .i64 op, .int .i64 n, .int .i64 c, bo h 4 (bc l)]) = some (.agg [.int .i64 op, .int .i64 n, .int .i64 c, bg 4 (bc l)]) := by
  simp only [frz, i9, we, hi, h1]
 unfold fk ja;simp only [if_true, h2, Gz, eS, Dz (show (4 : Nat) ≠ 0 by decide), cT]
 rfl
theorem Fp (s : ay) : (ig s).length = 5 /\ ∀ x, x ∈ ig s -> bh x = true := by
 obtain ⟨op, n, a, t, e⟩ := s;rw [ig];refine ⟨rfl, fun x hx => ?_⟩
 simp only [List.mem_cons, List.not_mem_nil, or_false] at hx;rcases hx with rfl | rfl | rfl | rfl | rfl <;> rfl
theorem vO : ∀ l : List ay, br l = l.map ig
 | [] => rfl
 | s :: l => by rw [br, vO l]; rfl
theorem rR (l : List ay) : ∀ r, r ∈ br l -> r.length = 5 /\ ∀ x, x ∈ r -> bh x = true := by
 intro r hr;rw [vO] at hr;obtain ⟨s, _, rfl⟩ := List.mem_map.1 hr;exact Fp s
theorem zD (n : Int) (a b : aF) (lv s m : Int) (k : Nat) (hk1 : cM a + 1 <= k) (hk2 : cM b + 1 <= k) (hb1 : dP a) (hb2 : dP b) (h : aj) (lo : Nat) :
  call Tryz.prog ba (k + 1) lo (.func 45) [.agg (pY n a b lv s), .int .i64 m] h = some (.bool (l7 a m && l7 b m), h) := by
 have h1 := oK (k - 1) h h.length a (by omega) hb1 m;have h2 := oK (k - 1) h h.length b (by omega) hb2 m;rw [show k - 1 + 1 = k by omega] at h1 h2
 generalize l7 a m = x at *;generalize l7 b m = y at *;obtain ⟨o1, n1, c1, l1⟩ := a;obtain ⟨o2, n2, c2, l2⟩ := b;cases x <;> cases y <;>
 ·apply ai Tryz.func45 U (Nb U) U U
  (repeat' (first | apply ab | refine Wr 0 U U ?_ | (refine Wo 1 U ?_;refine Tc 3 U ?_ <;> (refine aK U ?_; first | refine bi (aa U U U U ‹_›) U ?_ | refine aT (aa U U U U ‹_›) U ?_) <;> refine Tc 4 U ?_ <;> (first | refine au U ?_ | (refine aK U ?_; first | refine bi (aa U U U U ‹_›) U ?_ | refine aT (aa U U U U ‹_›) U ?_)) <;> refine Tc 2 U (Tn ?_)) | apply am))
  all_goals exact ⟨.inl rfl, rfl⟩
theorem DA (w : Int) (vs : List bk) (body : List ay) (a b : aF) (low : Int) (hl1 : 0 <= low) (hl2 : low <= 15) (k : Nat) (hk1 : cM a + 20 <= k) (hk2 : cM b + 20 <= k) (hb1 : dP a) (hb2 : dP b) (h : aj) (lo : Nat)
  (hS : call Tryz.prog ba k h.length (.func 43) [.agg (bY ⟨w, vs, body⟩)] h = some (.bool true, h)) :
  call Tryz.prog ba (k + 1) lo (.func 55) [.agg (bY ⟨w, vs, body⟩), .agg (pY 2 a b low 1)] h = some (.bool (ks w vs 2 a && ks w vs 2 b), h) := by
 have h1 := vo w vs 2 a (k - 1) (by omega) hb1 h h.length;have h2 := vo w vs 2 b (k - 1) (by omega) hb2 h h.length;rw [show k - 1 + 1 = k by omega] at h1 h2
 have q1 : decide (low < 0) = false := decide_eq_false (by omega);have q2 : decide (low > 15) = false := decide_eq_false (by omega);generalize ks w vs 2 a = x at *;generalize ks w vs 2 b = y at *;obtain ⟨o1, n1, c1, l1⟩ := a;obtain ⟨o2, n2, c2, l2⟩ := b;cases x <;> cases y <;>
 ·apply ai Tryz.func55 U (Nb U) U U
  (repeat' (first | apply ab | refine af U U ?_ | refine Wr 0 U U ?_ | (refine Wo 1 U ?_;refine Tc 1 U (Tt U (aa U U U U ‹_›) U ?_) <;> refine Tc 4 U (Tf U U U (Tc 4 U (Tf U U U (Tc 4 U (Tf U U ‹_› (Tc 4 U (Tf U U ‹_› (Tc 4 U (Tf U U U (Tc 4 U (Tf U U U (Tc 1 U (Tn ?_)))))))))))))) | (refine Wo 3 U ?_;refine Tc 8 U ?_ <;> (refine aK U ?_; first | refine bi (aa U U U U ‹_›) U ?_ | refine aT (aa U U U U ‹_›) U ?_) <;> refine Tc 9 U ?_ <;> (first | refine au U ?_ | (refine aK U ?_; first | refine bi (aa U U U U ‹_›) U ?_ | refine aT (aa U U U U ‹_›) U ?_)) <;> refine Tc 2 U (Tn ?_)) | apply ak | apply am))
  all_goals exact ⟨.inl rfl, rfl⟩
theorem ky (w : Int) (vs : List bk) (e : aF) (hh : cV w vs = true) : dC w vs 2 e = if ks w vs 2 e = true then 0 else 20 := by
 obtain ⟨w1, w2⟩ := gV hh;unfold dC;rw [hh, if_pos (by simp), (rz w1 w2 vs 2 e 1 400 (by omega) (by omega) (by omega) (by omega)).1, vr];unfold du;rw [show decide ((l8 e : Int) <= 400) = decide (l8 e <= 400) from by rw [decide_eq_decide]; omega, show decide (1 + (zn e : Int) <= 17) = decide (zn e <= 16) from by rw [decide_eq_decide]; omega]
theorem Fq (w : Int) (vs : List bk) (low : Int) (l1 l2 : List Int) (hh : cV w vs = true) : vN w vs low l1 l2 =
  if ks w vs 2 (bx vs low l1) && ks w vs 2 (bx vs low l2) then (pY 2 (bx vs low l1) (bx vs low l2) low 1, 0) else (zC, 2) := by
 unfold vN;rw [ky _ _ _ hh, ky _ _ _ hh];cases ks w vs 2 (bx vs low l1) <;> cases ks w vs 2 (bx vs low l2) <;> rfl
def G4 : List bk -> Nat
 | [] => 0
 | v :: l => v.cells.toNat + G4 l
def G5 (n : Nat) (o : Option aF) : Prop := ∀ e, o = some e -> cM e <= n /\ dP e
theorem xk (i w W s : Int) : cM (iW i w W s) <= 4 /\ dP (iW i w W s) := by
 unfold iW
 split
 ·exact ⟨by simp [cM, cQ, cE], by simp [dP, jg, cE]⟩
 ·exact ⟨by simp [cM, cQ], by simp [dP, jg]⟩
theorem G6 (i w W : Int) : cM (yr i w W) <= 10 /\ dP (yr i w W) := by
 obtain ⟨a1, a2⟩ := xk i w W 0;obtain ⟨b1, b2⟩ := xk i w W 1;unfold yr;refine ⟨by simp only [cM, cQ]; omega, ?_⟩
 simp only [dP, jg];exact ⟨by simp, a2, b2, trivial⟩
theorem G7 {n : Nat} {i W : Int} {acc : Option aF} {w : Nat} (h : G5 n acc) : G5 (n + 12) (EO i W acc w) := by
 intro e he;unfold EO at he;injection he with he;subst he;obtain ⟨c1, c2⟩ := G6 i w W;cases acc with
 | none => exact ⟨by show cM (yr _ _ _) <= _; omega, c2⟩
 | some a =>
  obtain ⟨a1, a2⟩ := h a rfl;refine ⟨by show cM (cG _ _) <= _; simp only [cG, cM, cQ]; omega, ?_⟩
  show dP (cG _ _);simp only [cG, dP, jg];exact ⟨by simp, a2, c2, trivial⟩
theorem AG {i W : Int} : ∀ (ws : List Nat) (n : Nat) (acc : Option aF), G5 n acc -> G5 (n + 12 * ws.length) (ws.foldl (EO i W) acc)
 | [], n, acc, h => h
 | w :: ws, n, acc, h => by
  have := AG (i := i) (W := W) ws (n + 12) _ (G7 (i := i) (W := W) (w := w) h);rw [List.foldl_cons];intro e he;obtain ⟨h1, h2⟩ := this e he;exact ⟨by rw [List.length_cons]; omega, h2⟩
theorem DB (g : Nat -> Bool) : ∀ (vs : List bk) (i n : Nat) (acc : Option aF), G5 n acc -> G5 (n + 12 * G4 vs) (sU g vs i acc)
 | [], i, n, acc, h => h
 | v :: l, i, n, acc, h => by
  rw [sU, G4];have h0 : G5 (n + 12 * v.cells.toNat) (if g i then (List.range v.cells.toNat).foldl (EO i v.cells) acc else acc) := by
   split
   ·have := AG (i := i) (W := v.cells) (List.range v.cells.toNat) n acc h
    rwa [List.length_range] at this
   ·intro e he
    obtain ⟨h1, h2⟩ := h e he;exact ⟨by omega, h2⟩
  intro e he;obtain ⟨h1, h2⟩ := DB g l (i + 1) _ _ h0 e he;exact ⟨by omega, h2⟩
theorem xm (vs : List bk) (low : Int) (l : List Int) : cM (bx vs low l) <= 12 * G4 vs + 10 /\ dP (bx vs low l) := by
 unfold bx;have := DB (AE l low) vs 0 0 none (fun e he => by cases he);cases ho : sU (AE l low) vs 0 none with
 | none => exact ⟨by simp [cM, cQ, cE], by simp [dP, jg, cE]⟩
 | some e =>
  obtain ⟨h1, h2⟩ := this e ho;exact ⟨by show cM e <= _; omega, h2⟩
theorem pP (all : List bk) : ∀ (l : List bk) (i s : Int), ey all l i s = true -> ∀ v, v ∈ l -> 1 <= v.cells /\ v.cells <= 8
 | [], _, _, _, v, hv => by cases hv
 | u :: r, i, s, h, v, hv => by
  rw [ey] at h;simp only [Bool.and_eq_true] at h;rcases List.mem_cons.mp hv with e | hv
  ·rw [e]
   have := h.1.1.2;simp only [rn, Bool.and_eq_true, Bool.not_eq_true', decide_eq_false_iff_not] at this;omega
  ·exact pP all r _ _ h.2 v hv
theorem nL {p : bp} (h : iF p = true) : ∀ v, v ∈ p.vars -> 1 <= v.cells /\ v.cells <= 8 := by
 unfold iF at h;simp only [Bool.and_eq_true] at h;have h2 := h.1.1.1;unfold iz at h2;simp only [Bool.and_eq_true] at h2;exact pP _ _ _ _ h2.2
theorem DC : ∀ (l : List bk), (∀ v, v ∈ l -> 1 <= v.cells /\ v.cells <= 8) -> G4 l <= 8 * l.length
 | [], _ => by simp [G4]
 | v :: l, h => by
  have h1 := DC l (fun u hu => h u (List.mem_cons_of_mem _ hu));have h2 := h v List.mem_cons_self;rw [G4, List.length_cons];omega
theorem xq {w : Int} {vs : List bk} {c : Int} {e : aF} (h : ks w vs c e = true) : l7 e 600 = true := by
 rw [vr] at h;simp only [Bool.and_eq_true, decide_eq_true_eq] at h;rw [wS _ _ (by omega) (by omega)];exact decide_eq_true (by omega)
def bW (vs : List bk) (v : Nat) : Nat := ((vs.take v).map (fun x => x.cells.toNat)).sum
def cz (vs : List bk) (n i : Int) : Nat := bW vs n.toNat + i.toNat % (aI vs n).toNat
theorem fc {vs : List bk} {v : Nat} (h : v < vs.length) : bW vs (v + 1) = bW vs v + (aI vs v).toNat := by
 unfold bW aI;rw [Int.toNat_natCast, List.take_add_one, List.getElem?_eq_getElem h, List.map_append, List.sum_append];simp
theorem iX {vs : List bk} {a b : Nat} (h : a <= b) : bW vs a <= bW vs b := by
 obtain ⟨d, rfl⟩ := Nat.exists_eq_add_of_le h;unfold bW;rw [List.take_add];simp
def agr (vs : List bk) (v : Nat) (s1 s2 : List Int) : Prop := ∀ j, bW vs v <= j -> j < bW vs (v + 1) -> s1.getD j 0 = s2.getD j 0
theorem lj (vs : List bk) (v : Nat) (s : List Int) : agr vs v s s := fun _ _ _ => rfl
theorem xr {vs : List bk} {v : Nat} {s t : List Int} (h : agr vs v s t) : agr vs v t s := fun j h1 h2 => (h j h1 h2).symm
theorem ga {vs : List bk} {v : Nat} {s t u : List Int} (h : agr vs v s t) (k : agr vs v t u) : agr vs v s u := fun j h1 h2 => (h j h1 h2).trans (k j h1 h2)
theorem jF (s : List Int) (k j : Nat) (x : Int) : (s.set k x).getD j 0 = if k = j /\ j < s.length then x else s.getD j 0 := by
 rw [List.getD_eq_getElem?_getD, List.getD_eq_getElem?_getD, List.getElem?_set]
 by_cases h : k = j
 ·subst h
  by_cases h' : k < s.length
  ·simp [h']
  ·simp [h']
 ·simp [h]
theorem rS {vs : List bk} {n i : Int} (h0 : 0 <= n) (h1 : n < vs.length) (hc : 1 <= aI vs n) : bW vs n.toNat <= cz vs n i /\ cz vs n i < bW vs (n.toNat + 1) := by
 have hn : ((n.toNat : Nat) : Int) = n := Int.toNat_of_nonneg h0;rw [fc (by omega), hn];have := Nat.mod_lt i.toNat (show 0 < (aI vs n).toNat by omega);unfold cz;omega
theorem lK {vs : List bk} {n i : Int} (h0 : 0 <= n) (h1 : n < vs.length) (hc : 1 <= aI vs n) {v : Nat} (hv : v ≠ n.toNat) (s : List Int) (x : Int) : agr vs v s (s.set (cz vs n i) x) := fun j j1 j2 => by
 obtain ⟨c1, c2⟩ := rS (i := i) h0 h1 hc;rw [jF, if_neg];rintro ⟨rfl, _⟩;rcases Nat.lt_or_gt_of_ne hv with h | h
 ·have := iX (vs := vs) (show v + 1 <= n.toNat by omega); omega
 ·have := iX (vs := vs) (show n.toNat + 1 <= v by omega); omega
theorem Fs {vs : List bk} {v k : Nat} {s1 s2 : List Int} (h : agr vs v s1 s2) (hl : s1.length = s2.length) (x : Int) : agr vs v (s1.set k x) (s2.set k x) := fun j j1 j2 => by
 rw [jF, jF, <- hl, h j j1 j2]
section
variable (w : Nat) (vs : List bk) (S : List (List Int))
def nM (op n c : Int) (vals : List Int) : Int :=
 if op = 0 then n else if op = 1 then (S.getD c.toNat []).getD (cz vs n (vals.getD 0 0)) 0 else if op = 12 then mB w - vals.getD 0 0
 else if op ≠ 15 then Gm op w (vals.getD 0 0) (vals.getD 1 0) else if vals.getD 0 0 ≠ 0 then vals.getD 1 0 else vals.getD 2 0
mutual
def aY : aF -> Int
 | .mk op n c es => nM w vs S op n c (cr es)
def cr : List aF -> List Int
 | [] => []
 | e :: es => aY e :: cr es
end
end
structure Hd (w : Nat) (vs : List bk) : Prop where
 w1 : 1 <= w
 w8 : w <= 8
 len : vs.length <= 18
 cells : ∀ v, v ∈ vs -> 1 <= v.cells /\ v.cells <= 8
theorem Hd.at {w : Nat} {vs : List bk} (H : Hd w vs) {n : Int} (h0 : 0 <= n) (h1 : n < vs.length) : 1 <= aI vs n /\ aI vs n <= 8 := by
 unfold aI;rw [List.getElem?_eq_getElem (by omega)];exact H.cells _ (List.getElem_mem _)
theorem Hd.first {w : Nat} {vs : List bk} (H : Hd w vs) : ∀ n, n <= vs.length -> bW vs n <= 8 * n
 | 0, _ => by simp [bW]
 | n + 1, h => by
  have := H.first n (by omega)
  rw [fc (by omega)];have := (H.at (n := (n : Int)) (by omega) (by omega)).2;omega
structure eG (w : Nat) (vs : List bk) (s : List Int) : Prop where
 len : s.length = bW vs vs.length
 word : ∀ x, x ∈ s -> 0 <= x /\ x < 2 ^ w
theorem eG.at {w : Nat} {vs : List bk} {s : List Int} (h : eG w vs s) (i : Nat) : 0 <= s.getD i 0 /\ s.getD i 0 < 2 ^ w := by
 rw [List.getD_eq_getElem?_getD];cases hi : s[i]? with
 | none =>
  have : (0 : Int) < 2 ^ w := Int.pow_pos (by omega);exact ⟨by simp, by simpa using this⟩
 | some x => exact h.word x (List.mem_of_getElem? hi)
theorem eG.cell {w : Nat} {vs : List bk} {s : List Int} (H : Hd w vs) (h : eG w vs s) {n i : Int} (h0 : 0 <= n) (h1 : n < vs.length) : cz vs n i < s.length := by
 have := (rS (i := i) h0 h1 (H.at h0 h1).1).2;have := iX (vs := vs) (show n.toNat + 1 <= vs.length by omega);rw [h.len]; omega
theorem DD {op : Int} {k : Nat} (h : (k : Int) = ua op) : (op = 0 /\ k = 0) \/ (op = 12 /\ k = 1) \/ (op = 15 /\ k = 3) \/ (op ≠ 0 /\ op ≠ 12 /\ op ≠ 15 /\ k = 2) := by
 unfold ua at h
 split at h
 ·exact .inl ⟨by assumption, by omega⟩
 ·split at h
  ·exact .inr (.inl ⟨by assumption, by omega⟩)
  ·split at h
   ·exact .inr (.inr (.inl ⟨by assumption, by omega⟩))
   ·split at h
    ·exact .inr (.inr (.inr ⟨by assumption, by assumption, by assumption, by omega⟩))
    ·omega
theorem vP {α : Type} {l : List α} (h : l.length = 1) : ∃ a, l = [a] := by
 cases l with
 | nil => simp at h
 | cons a l => cases l with
  | nil => exact ⟨a, rfl⟩
  | cons b l => simp at h
theorem G8 {α : Type} {l : List α} (h : l.length = 2) : ∃ a b, l = [a, b] := by
 cases l with
 | nil => simp at h
 | cons a l => obtain ⟨b, rfl⟩ := vP (l := l) (by simpa using h); exact ⟨a, b, rfl⟩
theorem len3 {α : Type} {l : List α} (h : l.length = 3) : ∃ a b c, l = [a, b, c] := by
 cases l with
 | nil => simp at h
 | cons a l => obtain ⟨b, c, rfl⟩ := G8 (l := l) (by simpa using h); exact ⟨a, b, c, rfl⟩
theorem jH {w : Nat} {vs : List bk} {k op n c : Int} {es : List aF} (h : kG w vs k (.mk op n c es) = true) :
  (op = 0 /\ es = [] /\ 0 <= n /\ n < 2 ^ w) \/ (op = 1 /\ 0 <= n /\ n < vs.length /\ 0 <= c /\ c < k /\ (es = [] \/ ∃ e, es = [e])) \/ (op = 12 /\ ∃ e, es = [e]) \/ (op = 15 /\ ∃ a b d, es = [a, b, d]) \/ (op ≠ 0 /\ op ≠ 1 /\ op ≠ 12 /\ op ≠ 15 /\ ∃ a b, es = [a, b]) := by
 unfold kG at h;dsimp only at h
 split at h
 ·rename_i o
  simp only [Bool.and_eq_true, decide_eq_true_eq, beq_iff_eq] at h;obtain ⟨⟨⟨⟨h1, h2⟩, h3⟩, h4⟩, h5⟩ := h;refine .inr (.inl ⟨o, h1, h2, h3, h4, ?_⟩);unfold fe at h5
  split at h5
  ·exact .inr (vP (by omega))
  ·exact .inl (List.length_eq_zero_iff.1 (by omega))
 ·rename_i o
  simp only [Bool.and_eq_true, beq_iff_eq] at h;obtain ⟨⟨h1, h2⟩, h3⟩ := h;rcases DD h2 with ⟨q, hl⟩ | ⟨q, hl⟩ | ⟨q, hl⟩ | ⟨q1, q2, q3, hl⟩
  ·rw [if_pos q] at h3
   unfold uc at h3;simp only [Bool.and_eq_true, decide_eq_true_eq] at h3;exact .inl ⟨q, List.length_eq_zero_iff.1 hl, h3.1.2, by simpa using h3.2⟩
  ·exact .inr (.inr (.inl ⟨q, vP hl⟩))
  ·exact .inr (.inr (.inr (.inl ⟨q, len3 hl⟩)))
  ·exact .inr (.inr (.inr (.inr ⟨q1, o, q2, q3, G8 hl⟩)))
mutual
theorem vQ {w : Nat} {vs : List bk} (H : Hd w vs) {k : Int} {S : List (List Int)} (hS : ∀ s, s ∈ S -> eG w vs s) : ∀ e : aF, df w vs k e = true -> 0 <= aY w vs S e /\ aY w vs S e < 2 ^ w
 | .mk op n c es, h => by
  rw [df, Bool.and_eq_true] at h;have ih := AH H hS es h.2;have hp : (0 : Int) < 2 ^ w := Int.pow_pos (by omega);have hg : ∀ i, 0 <= (cr w vs S es).getD i 0 /\ (cr w vs S es).getD i 0 < 2 ^ w := fun i => by
   rw [List.getD_eq_getElem?_getD];cases hi : (cr w vs S es)[i]? with
   | none => exact ⟨by simp, by simpa using hp⟩
   | some x => exact ih x (List.mem_of_getElem? hi)
  rw [aY];unfold nM
  split
  ·rename_i o
   rcases jH h.1 with ⟨_, _, q1, q2⟩ | ⟨q, _⟩ | ⟨q, _⟩ | ⟨q, _⟩ | ⟨q, _⟩
   ·exact ⟨q1, q2⟩
   all_goals omega
  split
  ·have : ∀ i, 0 <= (S.getD c.toNat []).getD i 0 /\ (S.getD c.toNat []).getD i 0 < 2 ^ w := fun i => by
    rw [List.getD_eq_getElem?_getD (l := S)];cases hi : S[c.toNat]? with
    | none => exact ⟨by simp, by simpa using hp⟩
    | some s => exact (hS s (List.mem_of_getElem? hi)).at i
   exact this _
  split
  ·have := hg 0
   unfold mB;omega
  split
  ·exact HP op H.w1 (hg 0).1 (hg 0).2 (hg 1).1 (hg 1).2
  split
  ·exact hg 1
  ·exact hg 2
theorem AH {w : Nat} {vs : List bk} (H : Hd w vs) {k : Int} {S : List (List Int)} (hS : ∀ s, s ∈ S -> eG w vs s) : ∀ es : List aF, db w vs k es = true -> ∀ x, x ∈ cr w vs S es -> 0 <= x /\ x < 2 ^ w
 | [], _, x, hx => by rw [cr] at hx; cases hx
 | e :: es, h, x, hx => by
  rw [db, Bool.and_eq_true] at h;rw [cr] at hx;rcases List.mem_cons.1 hx with rfl | hx
  ·exact vQ H hS e h.1
  ·exact AH H hS es h.2 x hx
end
def fiS (h : aj) (lo : Nat) (vs : List bk) (n : Nat) (i : Int) (a : Int) : St :=
 {env := [(0, .v (.vs 3 (ii vs))), (1, .v (.int .i64 n)), (5, .v (.int .i64 a)), (6, .v (.int .i64 i))], loc := [], heap := h, inRound := false, lo := lo }
theorem uz {w : Nat} {vs : List bk} (H : Hd w vs) (n : Nat) (hn : n <= vs.length) (k : Nat) (hk : 20 <= k) (h : aj) (lo : Nat) : call Tryz.prog ba (k + 1) lo (.func 99) [.vs 3 (ii vs), .int .i64 n] h = some (.int .i64 (bW vs n), h) := by
 have hlen := H.len;apply ai Tryz.func99 U (Nb U) U U;(repeat' (first | apply ab | refine Wr 0 U U ?_ | refine Wr 1 U U ?_ | refine Wr 2 U U ?_ | apply ae));apply aS (S := fiS h h.length vs n) (l := List.range n) (a0 := 0) (fun i _ a => a = (bW vs i : Int)) (by rw [List.length_range]; omega) (by rw [List.length_range]; omega) rfl (by simp [bW])
 ·intro i x rest a hi hd hil hJ
  have hlt := vu hil;rw [List.length_range] at hil;obtain ⟨v, hv⟩ : ∃ v, vs[i]? = some v := ⟨_, List.getElem?_eq_getElem (by omega)⟩;have hrow := gk hv;have hs := fc (vs := vs) (v := i) (by omega);have hc : aI vs (i : Int) = v.cells := by unfold aI; rw [Int.toNat_natCast, hv]
  have hcb := H.at (n := (i : Int)) (by omega) (by omega);have hf := H.first i (by omega)
  rw [hc] at hs hcb;obtain ⟨nm, level, cells⟩ := v;dsimp only at hs hcb;(repeat' (first | apply ab | refine ah U U ?_ | (refine Wo 3 U ?_;refine Tc 2 U (Tt U U ‹_› (Tn ?_))) | refine Wr 4 U U ?_ | (refine Wo 5 U ?_;refine Tc 3 U (Tg U (aq U U U U U ‹_›) ?_) <;> refine Tc 1 U (Tg U U (Tc 2 U (Tn ?_)))) | apply ak | apply ae));refine ⟨_, rfl, ?_⟩;dsimp only;rw [hJ, eo (by omega) (by omega), hs]; omega
 ·intro a hJ
  have hge := vv (n := n);(repeat' (first | apply ab | refine af U U ?_ | (refine Wo 3 U ?_;refine Tc 2 U (Tf U U ‹_› (Tn ?_))) | refine Wr 6 U U ?_ | apply am | apply aC));refine ⟨.inl rfl, ?_⟩;rw [hJ, List.length_range]; rfl
theorem vR {w : Nat} {vs : List bk} (H : Hd w vs) (n i : Int) (h0 : 0 <= n) (h1 : n < vs.length) (hi : 0 <= i) (k : Nat) (hk : 20 <= k) (h : aj) (lo : Nat) : call Tryz.prog ba (k + 2) lo (.func 143) [.vs 3 (ii vs), .int .i64 n, .int .i64 i] h = some (.int .i64 (cz vs n i), h) := by
 have hf := uz H n.toNat (by omega) k hk h h.length;rw [Int.toNat_of_nonneg h0] at hf;have hfb := H.first n.toNat (by omega)
 have hlen := H.len;obtain ⟨v, hv, hrow⟩ := my (vs := vs) h0 h1;have hc : aI vs n = v.cells := by unfold aI; rw [hv]
 have hcb := H.at h0 h1;have hN : (cz vs n i : Int) = bW vs n.toNat + i % v.cells := by
  unfold cz;rw [hc, Int.natCast_add, Int.natCast_emod, Int.toNat_of_nonneg hi, Int.toNat_of_nonneg (by omega)]
 rw [hc] at hcb;obtain ⟨nm, level, cells⟩ := v;dsimp only at hcb hN;have hne : cells ≠ 0 := by omega
 apply ai Tryz.func143 U (Nb U) U U;(repeat' (first | apply ab | refine Wr 0 U U ?_ | (refine Wd 1 [0,0,3,0,0,0,48,112,240,504,1023,2047] U U (by decide +kernel) ?_;refine Uf U U U (Uf U U U (Uf U (aa U U U U ‹_›) U ?_)) <;> refine Uf U U U (Uf U U U (Uf U U U (Uf U (bq U U U U U ‹_›) U ?_))) <;> refine Uf U U U (Uf U U U (Uf U (gu U U U ‹_›) U ?_)) <;> refine Uo U U (Uo U U (Un ?_))) | apply am));refine ⟨.inl rfl, Eq.trans (b := some (AV.int .i64 _, _)) rfl ?_⟩;dsimp only;have q1 := Int.emod_nonneg i hne;have q2 := Int.emod_lt_of_pos i (show 0 < cells by omega);rw [eD hi, eo (by omega) (by omega), hN]
def ej (S : List (List Int)) : List (List AV) := S.map fun s => [.vs 1 (ag s)]
theorem xt (S : List (List Int)) : (ej S).length = S.length := by simp [ej]
theorem DE {S : List (List Int)} {i : Nat} {s : List Int} (h : S[i]? = some s) : (ej S)[i]? = some [.vs 1 (ag s)] := by simp [ej, h]
theorem jI {w : Int} {vs : List bk} {c : Int} : ∀ {es : List aF} {i : Nat} {e : aF}, db w vs c es = true -> es[i]? = some e -> df w vs c e = true
 | [], i, e, _, h => by simp at h
 | a :: l, 0, e, hf, h => by
  rw [db, Bool.and_eq_true] at hf;simp at h; subst h; exact hf.1
 | a :: l, i + 1, e, hf, h => by
  rw [db, Bool.and_eq_true] at hf;simp at h; exact jI hf.2 h
theorem jJ {w : Nat} {vs : List bk} (H : Hd w vs) {S : List (List Int)} (hS : ∀ s, s ∈ S -> eG w vs s) : ∀ (k : Nat) (e : aF), cM e + 60 <= k -> dP e -> df w vs S.length e = true -> ∀ (h : aj) (lo : Nat),
  call Tryz.prog ba k lo (.func 106) [.int .i64 w, .vs 3 (ii vs), .vs 1 (ej S), .agg (cT e)] h = some (.int .i64 (aY w vs S e), h)
 | 0, e, hk, _, _, _, _ => by omega
 | k + 1, .mk op n c es, hk, hb, hf, h, lo => by
  rw [cM] at hk;rw [dP] at hb;have hf' := hf;rw [df, Bool.and_eq_true] at hf;rw [aY];have ih : ∀ (i : Nat) (e : aF), es[i]? = some e -> (bc es)[i]? = some (cT e) /\ call Tryz.prog ba k h.length (.func 106) [.int .i64 w, .vs 3 (ii vs), .vs 1 (ej S), .agg (cT e)] h = some (.int .i64 (aY w vs S e), h) := fun i e hi =>
   ⟨bQ _ _ _ hi, jJ H hS k e (by have := ie es i _ hi; omega) (bL es i _ hb.2 hi) (jI hf.2 hi) h h.length⟩
  have vB : ∀ e, e ∈ es -> 0 <= aY w vs S e /\ aY w vs S e < 2 ^ w := fun e he => by
   obtain ⟨i, hi⟩ := List.getElem?_of_mem he;exact vQ H hS e (jI hf.2 hi)
  have hw8 := H.w8;rcases jH hf.1 with ⟨o, rfl, _, _⟩ | ⟨o, n0, n1, c0, c1, hes⟩ | ⟨o, e0, rfl⟩ | ⟨o, e0, e1, e2, rfl⟩ | ⟨q0, q1, q12, q15, e0, e1, rfl⟩
  ·subst o
   apply ai Tryz.func106 U (Nb U) U U;(repeat' (first | apply ab | refine ah U U ?_ | refine Wr 0 U U ?_ | refine Wr 1 U U ?_ | (refine Wo 2 U ?_;refine Tt U U U (Tc 1 U (Tn ?_))) | refine Wr 3 U U ?_ | apply ae | apply am));exact ⟨.inl rfl, rfl⟩
  ·subst o
   obtain ⟨s, hs⟩ : ∃ s, S[c.toNat]? = some s := ⟨_, List.getElem?_eq_getElem (by omega)⟩;have hsrow : 0 <= c /\ (ej S)[c.toNat]? = some [.vs 1 (ag s)] := ⟨c0, DE hs⟩;have hsS := hS s (List.mem_of_getElem? hs);have fin : ∀ i : Int, nM w vs S 1 n c [i] = s.getD (cz vs n i) 0 /\ (ag s)[cz vs n i]? = some [.int .i64 (s.getD (cz vs n i) 0)] := fun i => by
    refine ⟨?_, ?_⟩
    ·unfold nM
     rw [if_neg (by omega), if_pos rfl, List.getD_eq_getElem?_getD (l := S), hs]; rfl
    ·have := hsS.cell H (i := i) n0 n1
     unfold ag;rw [List.getElem?_map, List.getD_eq_getElem?_getD, List.getElem?_eq_getElem this]; rfl
   rcases hes with rfl | ⟨e0, rfl⟩
   ·have hat := vR H n 0 n0 n1 (by omega) (k - 2) (by omega) h h.length
    rw [show k - 2 + 2 = k by omega] at hat
    have hlt : decide ((([] : List (List AV)).length : Int) > 0) = false := rfl;have hN : nM w vs S 1 n c [] = nM w vs S 1 n c [0] := rfl;obtain ⟨f1, f2⟩ := fin 0;rw [cr, hN, f1];apply ai Tryz.func106 U (Nb U) U U;(repeat' (first | apply ab | refine ah U U ?_ | refine af U U ?_ | refine Wr 0 U U ?_ | refine Wr 1 U U ?_ | (refine Wo 2 U ?_;refine Tf U U U (Tc 1 U (Tn ?_))) | (refine Wo 4 U ?_;refine Tt U U U (Tc 1 U (Tn ?_))) | refine Wr 5 U U ?_ | (refine Wo 6 U ?_;refine Tc 3 U (Tf U U U (Tn ?_))) | (refine Wd 8 [0,0,2,7,15,0,0,64,0,480,1023,2047,4095] U U (by decide +kernel) ?_;refine Uf U U U (Uf U U U (Uf U U U (Uf U (bq U U U U U ‹_›) U ?_))) <;> refine Uf U U U (Uf U U U (Uf U U U (Uf U U U (Uf U U U (Uf U (aa U U U U ‹_›) U ?_))))) <;> refine Uo U (aq U U U U U ‹_›) ?_ <;> refine Uo U U (Uo U U (Un ?_))) | apply ak | apply ae | apply am))
    exact ⟨.inl rfl, rfl⟩
   ·obtain ⟨hrow, hv⟩ := ih 0 e0 rfl
    have hat := vR H n (aY w vs S e0) n0 n1 (vB e0 (by simp)).1 (k - 2) (by omega) h h.length;rw [show k - 2 + 2 = k by omega] at hat
    obtain ⟨f1, f2⟩ := fin (aY w vs S e0);have hes : cr w vs S [e0] = [aY w vs S e0] := rfl;rw [hes, f1];obtain ⟨op', n', c', es'⟩ := e0;apply ai Tryz.func106 U (Nb U) U U;(repeat' (first | apply ab | refine ah U U ?_ | refine af U U ?_ | refine Wr 0 U U ?_ | refine Wr 1 U U ?_ | (refine Wo 2 U ?_;refine Tf U U U (Tc 1 U (Tn ?_))) | (refine Wo 4 U ?_;refine Tt U U U (Tc 1 U (Tn ?_))) | refine Wr 5 U U ?_ | (refine Wo 6 U ?_;refine Tc 3 U (Tt U U U (Tn ?_))) | (refine Wo 7 U ?_;refine Tc 5 U (Tg U (aq U U U U U ‹_›) ?_) <;> refine Tg U U (Tg U (aa U U U U ‹_›) ?_) <;> refine Tc 1 U (Tn ?_)) | (refine Wd 8 [0,0,2,7,15,0,0,64,0,480,1023,2047,4095] U U (by decide +kernel) ?_;refine Uf U U U (Uf U U U (Uf U U U (Uf U (bq U U U U U ‹_›) U ?_))) <;> refine Uf U U U (Uf U U U (Uf U U U (Uf U U U (Uf U U U (Uf U (aa U U U U ‹_›) U ?_))))) <;> refine Uo U (aq U U U U U ‹_›) ?_ <;> refine Uo U U (Uo U U (Un ?_))) | apply ae | apply am))
    exact ⟨.inl rfl, rfl⟩
  ·subst o
   obtain ⟨hrow, hv⟩ := ih 0 e0 rfl;have hB := vB e0 (by simp);have hn := Ff w hw8 _ hB.1 hB.2 (k - 3) (by omega) h h.length;rw [show k - 3 + 3 = k by omega] at hn
   have hes : nM w vs S 12 n c (cr w vs S [e0]) = mB w - aY w vs S e0 := rfl;rw [hes];obtain ⟨op', n', c', es'⟩ := e0;apply ai Tryz.func106 U (Nb U) U U;(repeat' (first | apply ab | refine ah U U ?_ | refine af U U ?_ | refine Wr 0 U U ?_ | refine Wr 1 U U ?_ | (refine Wo 2 U ?_;refine Tf U U U (Tc 1 U (Tn ?_))) | (refine Wo 4 U ?_;refine Tf U U U (Tc 1 U (Tn ?_))) | (refine Wo 9 U ?_;refine Tt U U U (Tc 1 U (Tn ?_))) | (refine Wo 10 U ?_;refine Tc 6 U (Tg U (aq U U U U U ‹_›) ?_) <;> refine Tg U U (Tg U (aa U U U U ‹_›) ?_) <;> refine Tg U (aa U U U U ‹_›) ?_ <;> refine Tc 1 U (Tn ?_)) | apply ae | apply am));exact ⟨.inl rfl, rfl⟩
  ·subst o
   obtain ⟨hrow0, hv0⟩ := ih 0 e0 rfl;obtain ⟨hrow1, hv1⟩ := ih 1 e1 rfl;obtain ⟨hrow2, hv2⟩ := ih 2 e2 rfl;have hes : nM w vs S 15 n c (cr w vs S [e0, e1, e2]) = if aY w vs S e0 ≠ 0 then aY w vs S e1 else aY w vs S e2 := rfl
   rw [hes];cases hc : (aY w vs S e0 != 0)
   ·rw [if_neg (by simpa using hc)]
    obtain ⟨op0, n0, c0, es0⟩ := e0;obtain ⟨op1, n1, c1, es1⟩ := e1;obtain ⟨op2, n2, c2, es2⟩ := e2;apply ai Tryz.func106 U (Nb U) U U;(repeat' (first | apply ab | refine af U U ?_ | refine Wr 0 U U ?_ | refine Wr 1 U U ?_ | (refine Wo 2 U ?_;refine Tf U U U (Tc 1 U (Tn ?_))) | (refine Wo 4 U ?_;refine Tf U U U (Tc 1 U (Tn ?_))) | (refine Wo 9 U ?_;refine Tf U U U (Tc 1 U (Tn ?_))) | (refine Wo 11 U ?_;refine Tc 5 U (Tg U (aq U U U U U ‹_›) ?_) <;> refine Tg U U (Tg U (aa U U U U ‹_›) ?_) <;> refine Tc 1 U (Tn ?_)) | (refine Wo 12 U ?_;refine Tc 5 U (Tg U (aq U U U U U ‹_›) ?_) <;> refine Tg U U (Tg U (aa U U U U ‹_›) ?_) <;> refine Tc 1 U (Tn ?_)) | (refine Wo 13 U ?_;refine Tc 2 U (Tf U U U (Tn ?_))) | (refine Wo 15 U ?_;refine Tc 1 U (Tf U U ‹_› (Tn ?_))) | (refine Wo 17 U ?_;refine Tc 5 U (Tg U (aq U U U U U ‹_›) ?_) <;> refine Tg U U (Tg U (aa U U U U ‹_›) ?_) <;> refine Tc 1 U (Tn ?_)) | apply ak | apply ae | apply am));exact ⟨.inl rfl, rfl⟩
   ·rw [if_pos (by simpa using hc)]
    obtain ⟨op0, n0, c0, es0⟩ := e0;obtain ⟨op1, n1, c1, es1⟩ := e1;obtain ⟨op2, n2, c2, es2⟩ := e2;apply ai Tryz.func106 U (Nb U) U U;(repeat' (first | apply ab | refine ah U U ?_ | refine af U U ?_ | refine Wr 0 U U ?_ | refine Wr 1 U U ?_ | (refine Wo 2 U ?_;refine Tf U U U (Tc 1 U (Tn ?_))) | (refine Wo 4 U ?_;refine Tf U U U (Tc 1 U (Tn ?_))) | (refine Wo 9 U ?_;refine Tf U U U (Tc 1 U (Tn ?_))) | (refine Wo 11 U ?_;refine Tc 5 U (Tg U (aq U U U U U ‹_›) ?_) <;> refine Tg U U (Tg U (aa U U U U ‹_›) ?_) <;> refine Tc 1 U (Tn ?_)) | (refine Wo 12 U ?_;refine Tc 5 U (Tg U (aq U U U U U ‹_›) ?_) <;> refine Tg U U (Tg U (aa U U U U ‹_›) ?_) <;> refine Tc 1 U (Tn ?_)) | (refine Wo 13 U ?_;refine Tc 2 U (Tf U U U (Tn ?_))) | (refine Wo 15 U ?_;refine Tc 1 U (Tt U U ‹_› (Tn ?_))) | refine Wr 16 U U ?_ | apply ak | apply ae | apply am));exact ⟨.inl rfl, rfl⟩
  ·obtain ⟨hrow0, hv0⟩ := ih 0 e0 rfl
   obtain ⟨hrow1, hv1⟩ := ih 1 e1 rfl;have b0 := vB e0 (by simp);have b1 := vB e1 (by simp);have hd := G0 op w H.w1 H.w8 _ _ b0.1 b0.2 b1.1 b1.2 (k - 1) (by omega) h h.length;rw [show k - 1 + 1 = k by omega] at hd
   have hes : nM w vs S op n c (cr w vs S [e0, e1]) = Gm op w (aY w vs S e0) (aY w vs S e1) := by
    unfold nM;rw [if_neg q0, if_neg q1, if_neg q12, if_pos q15]; rfl
   rw [hes];have z0 : (op == 0) = false := by simpa using q0
   have z1 : (op == 1) = false := by simpa using q1
   have z12 : (op == 12) = false := by simpa using q12
   have z15 : (op != 15) = true := by simpa using q15
   obtain ⟨op0, n0, c0, es0⟩ := e0;obtain ⟨op1, n1, c1, es1⟩ := e1;apply ai Tryz.func106 U (Nb U) U U;(repeat' (first | apply ab | refine ah U U ?_ | refine af U U ?_ | refine Wr 0 U U ?_ | refine Wr 1 U U ?_ | (refine Wo 2 U ?_;refine Tf U U ‹_› (Tc 1 U (Tn ?_))) | (refine Wo 4 U ?_;refine Tf U U ‹_› (Tc 1 U (Tn ?_))) | (refine Wo 9 U ?_;refine Tf U U ‹_› (Tc 1 U (Tn ?_))) | (refine Wo 11 U ?_;refine Tc 5 U (Tg U (aq U U U U U ‹_›) ?_) <;> refine Tg U U (Tg U (aa U U U U ‹_›) ?_) <;> refine Tc 1 U (Tn ?_)) | (refine Wo 12 U ?_;refine Tc 5 U (Tg U (aq U U U U U ‹_›) ?_) <;> refine Tg U U (Tg U (aa U U U U ‹_›) ?_) <;> refine Tc 1 U (Tn ?_)) | (refine Wo 13 U ?_;refine Tc 2 U (Tt U U ‹_› (Tn ?_))) | (refine Wo 14 U ?_;refine Tc 5 U (Tg U (aa U U U U ‹_›) ?_) <;> refine Tc 1 U (Tn ?_)) | apply ak | apply ae | apply am));exact ⟨.inl rfl, rfl⟩
def noS (h : aj) (lo : Nat) (e : aF) (i : Int) (a : Int) : St :=
 {env := [(1, .p 1 0), (3, .v (.int .i64 a)), (4, .v (.int .i64 i))], loc := [(1, cT e)], heap := h, inRound := false, lo := lo }
theorem rT : ∀ (k : Nat) (e : aF), cM e <= k -> dP e -> ∀ (h : aj) (lo : Nat), call Tryz.prog ba k lo (.func 164) [.agg (cT e)] h = some (.int .i64 (kq e), h)
 | 0, e, hk, _, _, _ => by have := fA e; omega
 | k + 1, .mk op n cp es, hk, hb, h, lo => by
  rw [cM] at hk;rw [dP] at hb;have hlen := bB es;rw [kq];apply ai Tryz.func164 U (Nb U) U U;(repeat' (first | apply ab | refine Wr 0 U U ?_ | refine Wr 1 U U ?_ | refine Wr 2 U U ?_ | apply ae));apply cg (S := noS h h.length (.mk op n cp es)) (l := es) (a0 := 1) (fun rest a => gU rest a = gU es 1) hb.1 (by omega) rfl rfl
  ·intro i e rest a hi hd hil hJ
   have hrow := bQ _ _ _ hi;have ih := rT k e (by have := bX es i _ hi; omega) (bL es i _ hb.2 hi) h h.length;have hlt := di hil;obtain ⟨op', n', cp', es'⟩ := e;(repeat' (first | apply ab | refine ah U U ?_ | (refine Wo 3 U ?_;refine Tc 4 U (Tt U U ‹_› (Tn ?_))) | refine Wr 4 U U ?_ | (refine Wo 5 U ?_;refine Tc 4 U (Tg U (aq U U U U U ‹_›) ?_) <;> refine Tg U U (Tg U (aa U U U U ‹_›) ?_) <;> refine Tc 2 U (Tn ?_)) | apply ak | apply ae));exact ⟨_, rfl, by rw [<- hJ]; rfl⟩
  ·intro a hJ
   have hlt := dj (l := es);(repeat' (first | apply ab | refine af U U ?_ | (refine Wo 3 U ?_;refine Tc 4 U (Tf U U ‹_› (Tn ?_))) | refine Wr 6 U U ?_ | apply am | apply aC));exact ⟨.inl rfl, by rw [<- hJ]; rfl⟩
abbrev vS := Int × Int × Int
def rU (x : vS) : List AV := [.int .i64 x.1, .int .i64 x.2.1, .int .i64 x.2.2]
def cN (l : List vS) : List (List AV) := l.map rU
theorem jK (l : List vS) : ∀ r, r ∈ cN l -> r.length = 3 /\ ∀ x, x ∈ r -> bh x = true := by
 intro r hr;obtain ⟨y, _, rfl⟩ := List.mem_map.1 hr;refine ⟨rfl, fun x hx => ?_⟩
 simp [rU] at hx;rcases hx with rfl | rfl | rfl <;> rfl
theorem eH (l : List vS) : (cN l).length = l.length := by simp [cN]
section
variable (w : Nat) (vs : List bk) (s : List Int)
mutual
def DF : aF -> List vS
 | .mk op n _ es => rV es ++ (if op = 1 /\ es ≠ [] then [(1, n, ((cr w vs [s] es).getD 0 0).tmod (aI vs n))] else [])
def rV : List aF -> List vS
 | [] => []
 | e :: es => DF e ++ rV es
end
mutual
theorem AI : ∀ e : aF, (DF w vs s e).length <= l8 e
 | .mk op n c es => by
  rw [DF, l8, List.length_append];have := rW es
  split <;> simp <;> omega
theorem rW : ∀ es : List aF, (rV w vs s es).length <= dn es
 | [] => by simp [rV]
 | e :: es => by
  rw [rV, dn, List.length_append];have := AI e;have := rW es;omega
end
end
theorem uA (h : aj) (a b : List vS) (hl : a.length + b.length < 1000000) : append ba.tab h.length (aQ h 224 (cN a)) 160 (bo h 3 (cN a)) (.vs 3 (cN b)) = some (bo h 3 (cN (a ++ b)), aQ h 224 (cN (a ++ b))) := by
 have := cy (tab := ba.tab) (lo := h.length) (h := h) (t := 160) (e := 224) rfl rfl (by decide) (Nat.le_refl _) (cN a) (cN b) (fun r hr => (jK a r hr).1) (by rw [eH, eH]; show (a.length + b.length) * 24 <= _; simp only [ca]; omega) (by rw [eH, eH]; simp only [ca]; omega);rw [this];simp [cN]
theorem xu {tab : wb} {lo : Nat} {h : aj} {T t sz0 by_ : Nat} {zr : List AV} {ti : TI} (ht : Go.Ev.look tab t = some ⟨.slice T, sz0, by_, zr⟩) (he : Go.Ev.look tab T = some ti) (hsz : 0 < ti.sz) (hlo : lo <= h.length) (rows : List (List AV)) (hr : ∀ r, r ∈ rows -> r.length = ti.sz) (hroom : rows.length * ti.bytes <= ca) (hroom2 : rows.length <= ca) :
  append tab lo (aQ h T rows) t (bo h ti.sz rows) .nils = some (bo h ti.sz rows, aQ h T rows) := by
 unfold append;rw [ht];dsimp only;rw [he];dsimp only;simp only [fh, lenOf];cases rows with
 | nil => simp [bo, aQ]
 | cons r l =>
  simp only [bo, aQ];have hg : (h ++ [ap.cells T (r :: l).flatten])[h.length]? = some (.cells T (r :: l).flatten) := by simp
  rw [hg];dsimp only;rw [if_pos ⟨hlo, by trivial, by trivial, by trivial, by rw [dg _ hr]; rfl, hsz, by simpa using hroom, by simpa using hroom2⟩]
  simp
theorem zE (h : aj) (a b : List vS) (hl : a.length + b.length < 1000000) : append ba.tab h.length (aQ h 224 (cN a)) 160 (bo h 3 (cN a)) (bg 3 (cN b)) = some (bo h 3 (cN (a ++ b)), aQ h 224 (cN (a ++ b))) := by
 cases b with
 | nil =>
  rw [List.append_nil];exact xu (tab := ba.tab) (lo := h.length) (h := h) (t := 160) (T := 224) rfl rfl (by decide) (Nat.le_refl _) (cN a) (fun r hr => (jK a r hr).1) (by rw [eH]; show a.length * 24 <= _; simp only [ca]; omega) (by rw [eH]; simp only [ca]; omega)
 | cons x b => exact uA h a (x :: b) hl
theorem rX : ∀ {es : List aF} {i : Nat} {e : aF}, es[i]? = some e -> l8 e <= dn es
 | [], i, e, h => by simp at h
 | a :: l, 0, e, h => by simp at h; subst h; rw [dn]; omega
 | a :: l, i + 1, e, h => by simp at h; have := rX (es := l) h; rw [dn]; omega
def evsS (h : aj) (w : Nat) (vs : List bk) (s : List Int) (e : aF) (i : Int) (a : List vS) : St :=
 {env := [(0, .v (.int .i64 w)), (1, .v (.vs 3 (ii vs))), (2, .v (.vs 1 (ag s))), (7, .p 7 0), (9, .v (bo h 3 (cN a))), (10, .v (.int .i64 i))], loc := [(7, cT e)], heap := aQ h 224 (cN a), inRound := false, lo := h.length }
theorem rY {w : Nat} {vs : List bk} (H : Hd w vs) {s : List Int} (hS : eG w vs s) : ∀ (k : Nat) (e : aF), cM e + 70 <= k -> dP e -> l8 e <= 1000 -> df w vs 1 e = true -> ∀ (h : aj) (lo : Nat),
  call Tryz.prog ba k lo (.func 165) [.int .i64 w, .vs 3 (ii vs), .vs 1 (ag s), .agg (cT e)] h = some (bg 3 (cN (DF w vs s e)), h)
 | 0, e, hk, _, _, _, _, _ => by omega
 | k + 1, .mk op n c es, hk, hb, hN, hf, h, lo => by
  rw [cM] at hk;rw [dP] at hb;rw [l8] at hN;have hf' := hf;rw [df, Bool.and_eq_true] at hf;have hlen := bB es;have hfin := ed (h := h) (e := 224) (sz := 3) (cN (DF w vs s (.mk op n c es))) (jK _);rw [DF] at hfin ⊢;have htot := rW w vs s es;apply ai Tryz.func165 U (Nb U) U U;(repeat' (first | apply ab | refine Wr 0 U U ?_ | refine Wr 1 U U ?_ | refine Wr 2 U U ?_ | apply ae));apply cg (S := evsS h w vs s (.mk op n c es)) (l := es) (a0 := []) (fun rest a => a ++ rV w vs s rest = rV w vs s es) hb.1 (by omega) rfl rfl
  ·intro i e rest a hi hd hil hJ
   have hrow := bQ _ _ _ hi;rw [rV] at hJ;have hlenJ := congrArg List.length hJ;rw [List.length_append, List.length_append] at hlenJ;have ih := rY H hS k e (by have := ie es i _ hi; omega) (bL es i _ hb.2 hi) (by have := rX hi; omega) (jI hf.2 hi) (aQ h 224 (cN a)) h.length;have hap := zE h a (DF w vs s e) (by omega);have hlt := di hil;obtain ⟨op', n', cp', es'⟩ := e;(repeat' (first | apply ab | refine ah U U ?_ | (refine Wo 3 U ?_;refine Tc 4 U (Tt U U ‹_› (Tn ?_))) | refine Wr 4 U U ?_ | (refine Wo 5 U ?_;refine Tc 7 U (Tg U (aq U U U U U ‹_›) ?_) <;> refine Tg U U (Tg U (aa U U U U ‹_›) ?_) <;> refine Tg U (aN U U U U U ‹_›) ?_ <;> refine Tc 1 U (Tn ?_)) | apply ak | apply ae));exact ⟨a ++ DF w vs s (.mk op' n' cp' es'), rfl, by rw [<- hJ]; simp⟩
  ·intro a hJ
   rw [rV, List.append_nil] at hJ;subst hJ;have hlt := dj (l := es)
   by_cases o1 : op = 1
   ·subst o1
    rcases jH hf.1 with ⟨o, _⟩ | ⟨_, n0, n1, c0, c1, hes⟩ | ⟨o, _⟩ | ⟨o, _⟩ | ⟨_, o, _⟩
    ·omega
    ·rcases hes with rfl | ⟨e0, rfl⟩
     ·rw [if_neg (by simp), List.append_nil] at hfin ⊢
      have hl0 : decide ((([] : List (List AV)).length : Int) > 0) = false := rfl;(repeat' (first | apply ab | refine af U U ?_ | (refine Wo 3 U ?_;refine Tc 4 U (Tf U U U (Tn ?_))) | (refine Wo 6 U ?_;refine Tc 2 U (Tt U U U (Tc 4 U (Tf U U U (Tc 1 U (Tn ?_)))))) | refine Wr 9 U U ?_ | apply ak | apply am | apply aC));exact ⟨.inl rfl, hfin⟩
     ·rw [if_pos (by simp)] at hfin ⊢
      obtain ⟨v, hv, hvrow⟩ := my (vs := vs) n0 n1;have hc : aI vs n = v.cells := by unfold aI; rw [hv]
      have hcb := H.at n0 n1;have hval := jJ H (S := [s]) (by simpa using hS) k e0 (by have := ie [e0] 0 _ rfl; omega) (bL [e0] 0 _ hb.2 rfl) (jI hf.2 (i := 0) rfl) (aQ h 224 (cN (rV w vs s [e0]))) h.length;have hrow := bQ [e0] 0 e0 rfl;have hval' : cr w vs [s] [e0] = [aY w vs [s] e0] := rfl;rw [hval'] at hfin ⊢;have hap := uA h (rV w vs s [e0]) [(1, n, (aY w vs [s] e0).tmod v.cells)] (by simp; omega);rw [hc] at hcb hfin ⊢;obtain ⟨nm, level, cells⟩ := v;obtain ⟨op', n', cp', es'⟩ := e0;dsimp only at hcb hap hfin;have hne : cells ≠ 0 := by omega
      (repeat' (first | apply ab | refine ah U U ?_ | refine af U U ?_ | (refine Wo 3 U ?_;refine Tc 4 U (Tf U U U (Tn ?_))) | (refine Wo 6 U ?_;refine Tc 2 U (Tt U U U (Tc 4 U (Tt U U U (Tc 1 U (Tn ?_)))))) | (refine Wo 7 U ?_;refine Tc 6 U (Tg U (aq U U U U U ‹_›) ?_) <;> refine Tg U U (Tg U (aa U U U U ‹_›) ?_) <;> refine Tc 1 U (Tn ?_)) | (refine Wd 8 [0,0,2,0,0,0,32,112,240,496,1016,2046,4094,8191,16383] U U (by decide +kernel) ?_;refine Uf U U U (Uf U U U (Uf U U U (Uf U U U (Uf U U U (Uf U U U (Uf U U U (Uf U (bq U U U U U ‹_›) U ?_))))))) <;> refine Uf U U U (Uf U U U (Uf U (gu U U U ‹_›) U ?_)) <;> refine Uf U U U (Uf U U U (Uo U (aN U U U U U ‹_›) ?_)) <;> refine Uo U U (Un ?_)) | refine Wr 9 U U ?_ | apply am | apply aC));exact ⟨.inl rfl, hfin⟩
    all_goals omega
   ·rw [if_neg (by omega), List.append_nil] at hfin ⊢
    have z1 : (op == 1) = false := by simpa using o1
    (repeat' (first | apply ab | refine af U U ?_ | (refine Wo 3 U ?_;refine Tc 4 U (Tf U U ‹_› (Tn ?_))) | (refine Wo 6 U ?_;refine Tc 2 U (Tf U U ‹_› (Tc 4 U (Tk U (Tc 1 U (Tn ?_)))))) | refine Wr 9 U U ?_ | apply ak | apply am | apply aC));exact ⟨.inl rfl, hfin⟩
structure pQ (p : bp) : Prop where
 hd : Hd p.width.toNat p.vars
 w : (p.width.toNat : Int) = p.width
 v1 : 1 <= p.vars.length
def ch (p : bp) : Nat := bW p.vars p.vars.length
theorem pQ.cells {p : bp} (H : pQ p) : 1 <= ch p /\ ch p <= 144 := by
 have h1 := H.hd.first p.vars.length (Nat.le_refl _)
 have h2 := H.hd.len;have h3 := H.v1;have h4 : bW p.vars 1 <= bW p.vars p.vars.length := iX h3;have h5 : bW p.vars 1 = _ := fc (vs := p.vars) (v := 0) (by omega);have h6 := H.hd.at (n := ((0 : Nat) : Int)) (by omega) (by omega);unfold ch;omega
theorem oV {p : bp} (H : pQ p) (k : Nat) (hk : 20 <= k) (h : aj) (lo : Nat) : call Tryz.prog ba (k + 2) lo (.func 57) [.agg (bY p)] h = some (.int .i64 (ch p), h) := by
 have hf := uz H.hd p.vars.length (Nat.le_refl _) k hk h h.length;unfold ch;obtain ⟨w, vs, body⟩ := p;dsimp only at hf;have hl : ((ii vs).length : Int) = vs.length := by rw [fB]
 rw [<- hl] at hf;apply ai Tryz.func57 U (Nb U) U U;(repeat' (first | apply ab | refine Wr 0 U U ?_ | (refine Wo 1 U ?_;refine Tc 5 U (Tg U (aa U U U U ‹_›) ?_) <;> refine Tc 1 U (Tn ?_)) | apply am));exact ⟨.inl rfl, rfl⟩
def cH (p : bp) : Nat := p.width.toNat * ch p
theorem pQ.bits {p : bp} (H : pQ p) : (cH p : Int) = p.width * ch p /\ 1 <= cH p /\ cH p <= 1152 := by
 have h1 := H.cells;have h2 := H.hd.w1;have h3 := H.hd.w8;unfold cH;refine ⟨by rw [Int.natCast_mul, H.w], Nat.mul_pos h2 h1.1, ?_⟩
 have := Nat.mul_le_mul h3 h1.2;omega
theorem AJ {p : bp} (H : pQ p) (k : Nat) (hk : 30 <= k) (h : aj) (lo : Nat) : call Tryz.prog ba (k + 1) lo (.func 13) [.agg (bY p)] h = some (.bool (decide (cH p <= 60)), h) := by
 have hc := oV H (k - 2) (by omega) h h.length;rw [show k - 2 + 2 = k by omega] at hc
 obtain ⟨hb1, hb2, hb3⟩ := H.bits;have hw : IntKind.i64.wrap (p.width * ch p) = cH p := by rw [<- hb1, eo (by omega) (by omega)]
 obtain ⟨w, vs, body⟩ := p;dsimp only at hw;cases hd : decide (cH ⟨w, vs, body⟩ <= 60)
 ·have hle : decide (IntKind.i64.wrap (w * ch ⟨w, vs, body⟩) <= 60) = false := by rw [hw]; exact decide_eq_false (by have := of_decide_eq_false hd; omega)
  apply ai Tryz.func13 U (Nb U) U U;(repeat' (first | apply ab | refine Wr 0 U U ?_ | (refine Wd 1 [0,1,0,4,15,31,63] U U (by decide +kernel) ?_;refine Uf U U U (Uf U U U (Uf U U U (Uf U (aa U U U U ‹_›) U ?_))) <;> refine Uo U U (Uu U U ‹_› (Uo U U (Un ?_)))) | apply am));exact ⟨.inl rfl, rfl⟩
 ·have hle : decide (IntKind.i64.wrap (w * ch ⟨w, vs, body⟩) <= 60) = true := by rw [hw]; exact decide_eq_true (by have := of_decide_eq_true hd; omega)
  apply ai Tryz.func13 U (Nb U) U U;(repeat' (first | apply ab | refine Wr 0 U U ?_ | (refine Wd 1 [0,1,0,4,15,31,63] U U (by decide +kernel) ?_;refine Uf U U U (Uf U U U (Uf U U U (Uf U (aa U U U U ‹_›) U ?_))) <;> refine Uo U U (Ut U U ‹_› (Uo U U (Un ?_)))) | apply am));exact ⟨.inl rfl, rfl⟩
theorem uB {p : bp} (H : pQ p) (hf : cH p <= 60) (k : Nat) (hk : 70 <= k) (h : aj) (lo : Nat) : call Tryz.prog ba (k + 1) lo (.func 14) [.agg (bY p)] h = some (.int .i64 (2 ^ cH p), h) := by
 have hc := oV H (k - 2) (by omega) h h.length;rw [show k - 2 + 2 = k by omega] at hc
 obtain ⟨hb1, hb2, hb3⟩ := H.bits;have hw : IntKind.i64.wrap (p.width * ch p) = cH p := by rw [<- hb1, eo (by omega) (by omega)]
 have hp := gv (cH p) (by omega) (k - 1) (by omega) h h.length;rw [show k - 1 + 1 = k by omega, <- hw] at hp
 obtain ⟨w, vs, body⟩ := p;dsimp only at hp;apply ai Tryz.func14 U (Nb U) U U;(repeat' (first | apply ab | refine Wr 0 U U ?_ | (refine Wd 1 [0,1,0,4,15,31,63] U U (by decide +kernel) ?_;refine Uf U U U (Uf U U U (Uf U U U (Uf U (aa U U U U ‹_›) U ?_))) <;> refine Uo U U (Uo U (aa U U U U ‹_›) ?_) <;> refine Uo U U (Un ?_)) | apply am));exact ⟨.inl rfl, rfl⟩
def lk (w : Nat) (i : Int) : Nat -> List Int
 | 0 => []
 | n + 1 => i % 2 ^ w :: lk w (i / 2 ^ w) n
theorem xw (w : Nat) : ∀ (n : Nat) (i : Int), (lk w i n).length = n
 | 0, i => rfl
 | n + 1, i => by rw [lk, List.length_cons, xw w n]
theorem DG (w : Nat) : ∀ (n : Nat) (i : Int), ∀ x, x ∈ lk w i n -> 0 <= x /\ x < 2 ^ w
 | 0, i, x, hx => by rw [lk] at hx; cases hx
 | n + 1, i, x, hx => by
  have hp : (0 : Int) < 2 ^ w := Int.pow_pos (by omega);rw [lk] at hx;rcases List.mem_cons.1 hx with rfl | hx
  ·exact ⟨Int.emod_nonneg _ (by omega), Int.emod_lt_of_pos _ hp⟩
  ·exact DG w n _ x hx
def stoS (h : aj) (p : bp) (c : Int) (a : List Int × Int) : St :=
 {env := [(1, .v (.int .i64 a.2)), (2, .p 2 0), (5, .v (bo h 1 (ag a.1))), (6, .v (.int .i64 c))], loc := [(2, bY p)], heap := aQ h 3 (ag a.1), inRound := false, lo := h.length }
theorem BY {p : bp} (H : pQ p) (i : Int) (h0 : 0 <= i) (h1 : i < 4611686018427387904) (k : Nat) (hk : 200 <= k) (h : aj) (lo : Nat) :
  call Tryz.prog ba (k + 1) lo (.func 104) [.agg (bY p), .int .i64 i] h = some (.vs 1 (ag (lk p.width.toNat i (ch p))), h) := by
 have hc := H.cells;have hw := H.hd.w8;have hpl := mA (n := p.width.toNat) (by omega);have hne := vy p.width.toNat;have hpos : (0 : Int) < 2 ^ p.width.toNat := by omega
 have hW := H.w;have hfin := ed (h := h) (e := 3) (sz := 1) (ag (lk p.width.toNat i (ch p))) (ij _);have hacc : bg 1 (ag (lk p.width.toNat i (ch p))) = .vs 1 (ag (lk p.width.toNat i (ch p))) := by
  obtain ⟨m, hm⟩ : ∃ m, ch p = m + 1 := ⟨ch p - 1, by omega⟩
  rw [hm]; rfl
 rw [hacc] at hfin;have hcl : ∀ g, call Tryz.prog ba k h.length (.func 57) [.agg (bY p)] (aQ h 3 g) = some (.int .i64 (ch p), aQ h 3 g) := fun g => by
  have := oV H (k - 2) (by omega) (aQ h 3 g) h.length;rwa [show k - 2 + 2 = k by omega] at this
 have hpw : ∀ g, call Tryz.prog ba k h.length (.func 58) [.int .i64 p.width] (aQ h 3 g) = some (.int .i64 (2 ^ p.width.toNat), aQ h 3 g) := fun g => by
  have := gv p.width.toNat (by omega) (k - 1) (by omega) (aQ h 3 g) h.length;rwa [show k - 1 + 1 = k by omega, hW] at this
 generalize hn : ch p = n at *;generalize hWn : p.width.toNat = W at *;obtain ⟨w, vs, body⟩ := p;dsimp only at hpw hcl;apply ai Tryz.func104 U (Nb U) U U;(repeat' (first | apply ab | refine Wr 0 U U ?_ | refine Wr 1 U U ?_ | refine Wr 2 U U ?_ | apply ae));apply aS (S := stoS h ⟨w, vs, body⟩) (l := List.range n) (a0 := ([], i)) (fun c rest a => a.1 ++ lk W a.2 rest.length = lk W i n /\ 0 <= a.2 /\ a.2 <= i /\ a.1.length = c /\ c + rest.length = n) (by rw [List.length_range]; omega) (by rw [List.length_range]; omega) rfl (by simp; omega)
 ·rintro c x rest ⟨l, j⟩ hi hd hil hJ
  obtain ⟨j1, j2, j3, j4, j5⟩ := hJ;dsimp only at j1 j2 j3 j4;have hlt := vu hil;rw [List.length_range] at hil;rw [List.length_cons] at j5;have hcl := hcl (ag l);have hpw1 := hpw (ag l);have hap := kw h l (j.tmod (2 ^ W)) (by omega);have hpw2 := hpw (ag (l ++ [j.tmod (2 ^ W)]));clear hpw;have q1 := Int.ediv_le_self (2 ^ W) j2;have q2 : 0 <= j / 2 ^ W := Int.ediv_nonneg j2 (by omega);(repeat' (first | apply ab | refine ah U U ?_ | (refine Wo 3 U ?_;refine Tc 2 U (Tg U (aa U U U U ‹_›) ?_) <;> refine Tt U U ‹_› (Tn ?_)) | refine Wr 4 U U ?_ | (refine Wo 5 U ?_;refine Tc 4 U (Tg U (aa U U U U ‹_›) ?_) <;> refine Tg U (gu U U U ‹_›) ?_ <;> refine Tc 1 U (Tg U (aN U U U U U ‹_›) ?_) <;> refine Tc 1 U (Tn ?_)) | (refine Wo 6 U ?_;refine Tc 3 U (Tg U (aa U U U U ‹_›) ?_) <;> refine Tg U (l9 U U U ‹_›) ?_ <;> refine Tc 1 U (Tn ?_)) | apply ak | apply ae));refine ⟨(l ++ [j.tmod (2 ^ W)], IntKind.i64.wrap (j.tdiv (2 ^ W))), rfl, ?_⟩;dsimp only;rw [jx j2, eD j2, eo (by omega) (by omega)];refine ⟨?_, q2, by omega, by simp; omega, by omega⟩
  rw [<- j1, List.length_cons, lk];simp
 ·rintro ⟨l, j⟩ hJ
  obtain ⟨j1, j2, j3, j4, j5⟩ := hJ;dsimp only at j1;rw [List.length_nil, lk, List.append_nil] at j1;subst j1;have hge := vv (n := n);have hcl := hcl (ag (lk W i n));(repeat' (first | apply ab | refine af U U ?_ | (refine Wo 3 U ?_;refine Tc 2 U (Tg U (aa U U U U ‹_›) ?_) <;> refine Tf U U ‹_› (Tn ?_)) | refine Wr 7 U U ?_ | apply am | apply aC));exact ⟨.inl rfl, hfin⟩
theorem rZ {H : aj} {lo id T : Nat} {l : List Int} (hg : H[id]? = some (.cells T (ic l))) (hlo : lo <= id) : er H lo (.sl id 1 0 l.length) = some (.vs 1 (ag l)) := by
 unfold er;dsimp only;rw [hg];dsimp only;rw [if_pos ⟨hlo, by rw [fE]; omega, jz l⟩, List.drop_zero, ik]
theorem Ft {h H : aj} {id T : Nat} {l : List Int} (hg : H[id]? = some (.cells T (ic l))) (hlo : h.length <= id) : ja true h (.sl id 1 0 l.length) H = some (.vs 1 (ag l), h) := by
 have h1 : frz H h.length (.sl id 1 0 l.length) = some (.vs 1 (ag l)) := rZ hg hlo;unfold ja;rw [if_pos rfl, h1]
theorem xx {H : aj} {lo id T sz : Nat} (rows : List (List AV)) (hr : ∀ r, r ∈ rows -> r.length = sz /\ ∀ x, x ∈ r -> bh x = true) (hg : H[id]? = some (.cells T rows.flatten)) (hlo : lo <= id) : er H lo (.sl id sz 0 rows.length) = some (.vs sz rows) := by
 have hlen : ∀ q, q ∈ rows -> q.length = sz := fun q hq => (hr q hq).1
 have hst : rows.flatten.all bh = true := by
  rw [List.all_eq_true];intro x hx;obtain ⟨q, h1, h2⟩ := List.mem_flatten.1 hx;exact (hr q h1).2 x h2
 unfold er;dsimp only;rw [hg];dsimp only;rw [if_pos ⟨hlo, by rw [dg _ hlen]; omega, hst⟩, List.drop_zero, eY _ hlen]
theorem r8 {tab : wb} {lo : Nat} {h : aj} {t e id len : Nat} {ti : TI} {sz0 by_ : Nat} {zr xs : List AV} (ht : Go.Ev.look tab t = some ⟨.slice e, sz0, by_, zr⟩) (he : Go.Ev.look tab e = some ti) (hg : h[id]? = some (.cells e xs)) (hlo : lo <= id) (hlen : len * ti.sz = xs.length) (hsz : 0 < ti.sz)
  (more : List (List AV)) (r1 : (len + more.length) * ti.bytes <= ca) (r2 : len + more.length <= ca) :
  append tab lo h t (.sl id ti.sz 0 len) (bg ti.sz more) = some (.sl id ti.sz 0 (len + more.length), h.set id (.cells e (xs ++ more.flatten))) := by
 unfold append;rw [ht];dsimp only;rw [he];dsimp only;have hrow : fh h ti.sz (bg ti.sz more) = some more.flatten := by cases more <;> simp [fh, bg]
 have hl : lenOf (bg ti.sz more) = some more.length := by cases more <;> simp [lenOf, bg]
 rw [hrow, hl];dsimp only;rw [hg];dsimp only;rw [if_pos ⟨hlo, by trivial, by trivial, by trivial, hlen, hsz, r1, r2⟩]
theorem mI {h : aj} {l : List Int} (hne : l ≠ []) : bo h 1 (ag l) = .sl h.length 1 0 l.length := by
 cases l with
 | nil => exact absurd rfl hne
 | cons a l => simp [ag, bo]
theorem mJ {h : aj} {T : Nat} {l : List Int} (hne : l ≠ []) : aQ h T (ag l) = h ++ [.cells T (ic l)] := by
 have := qi l;cases l with
 | nil => exact absurd rfl hne
 | cons a l => rw [<- this]; rfl
theorem pR (h : aj) (lo : Nat) (hlo : lo <= h.length) (l : List Int) (v : Int) (hl : l.length < 1000000) : append ba.tab lo (aQ h 3 (ag l)) 26 (bo h 1 (ag l)) (.vs 1 [[.int .i64 v]]) = some (bo h 1 (ag (l ++ [v])), aQ h 3 (ag (l ++ [v]))) := by
 have := cy (tab := ba.tab) (lo := lo) (h := h) (t := 26) (e := 3) rfl rfl (by decide) hlo (ag l) [[.int .i64 v]] (fun r hr => (ij l r hr).1) (by rw [bw]; simp only [List.length_cons, List.length_nil, ca]; show (l.length + (0 + 1)) * 8 <= _; omega) (by rw [bw]; simp [ca]; omega);rw [this];simp [ag]
def cpS (h : aj) (lo : Nat) (l : List Int) (i : Int) (a : List Int) : St :=
 {env := [(0, .v (.vs 1 (ag l))), (3, .v (bo h 1 (ag a))), (4, .v (.int .i64 i))], loc := [], heap := aQ h 3 (ag a), inRound := false, lo := lo }
theorem mK {l : List Int} {i : Nat} {n : Int} (h : l[i]? = some n) : (ag l)[i]? = some [.int .i64 n] := by simp [ag, h]
theorem xy {l : List Int} {i : Nat} (h : i < l.length) : decide ((i : Int) < ((ag l).length : Int)) = true := decide_eq_true (by rw [bw]; omega)
theorem xz {l : List Int} : decide ((l.length : Int) < ((ag l).length : Int)) = false := decide_eq_false (by rw [bw]; omega)
theorem oW (l : List Int) (hl : l.length < 100000) (k : Nat) (hk : l.length + 2 < k) (h : aj) (lo : Nat) (hlo : lo <= h.length) :
  call Tryz.prog ba (k + 1) lo (.func 139) [.vs 1 (ag l)] h = some (bo h 1 (ag l), aQ h 3 (ag l)) := by
 apply ai Tryz.func139 U (Nb U) U U;(repeat' (first | apply ab | refine Wr 0 U U ?_ | refine Wr 1 U U ?_ | refine Wr 2 U U ?_ | apply ae));apply aS (S := cpS h lo l) (l := l) (a0 := []) (fun i rest a => a ++ rest = l /\ a.length = i) (by omega) (by omega) rfl ⟨rfl, rfl⟩
 ·intro i v rest a hi hd hil hJ
  have hrow := mK hi;have hlt := xy hil;have hap := pR h lo hlo a v (by omega);(repeat' (first | apply ab | refine ah U U ?_ | (refine Wo 3 U ?_;refine Tc 3 U (Tt U U ‹_› (Tn ?_))) | refine Wr 4 U U ?_ | (refine Wo 5 U ?_;refine Tc 3 U (Tg U (aq U U U U U ‹_›) ?_) <;> refine Tg U U (Tc 1 U (Tg U (aN U U U U U ‹_›) ?_)) <;> refine Tc 1 U (Tn ?_)) | apply ak | apply ae));exact ⟨a ++ [v], rfl, by rw [<- hJ.1]; simp, by simp [hJ.2]⟩
 ·intro a hJ
  have hlt := xz (l := l);have : a = l := by simpa using hJ.1
  subst this;(repeat' (first | apply ab | refine af U U ?_ | (refine Wo 3 U ?_;refine Tc 3 U (Tf U U ‹_› (Tn ?_))) | refine Wr 6 U U ?_ | apply am | apply aC));exact ⟨.inl rfl, rfl⟩
section
variable (pt : List Int -> Int -> ay -> List Int) (og : List Int -> List aF -> Int)
mutual
theorem Fu : ∀ (s : ay) (lv : List Int) (ar n : Int), (nG pt og s lv ar n).length <= jw s
 | .mk op nn a t e, lv, ar, n => by
  rw [nG, jw]
  split
  ·have h1 := nN t lv (be ar (og lv a)) (IntKind.i64.wrap (n + 1))
   have h2 := nN e lv (be ar (og lv a)) (IntKind.i64.wrap (IntKind.i64.wrap (n + 1) + cW t 0));simp only [List.length_cons, List.length_append]; omega
  ·split
   ·have h1 := nN t (gK pt og (.mk op nn a t e) lv ar) (be ar (og (gK pt og (.mk op nn a t e) lv ar) a)) (IntKind.i64.wrap (n + 1))
    simp only [List.length_cons]; omega
   ·simp only [List.length_cons, List.length_nil]; omega
theorem nN : ∀ (l : List ay) (lv : List Int) (ar n : Int), (iV pt og l lv ar n).length <= bu l
 | [], lv, ar, n => by rw [iV, bu]; simp
 | s :: l, lv, ar, n => by
  have h1 := Fu s lv ar n;have h2 := nN l (gK pt og s lv ar) ar (jj s n);rw [iV, bu, List.length_append]; omega
end
end
end Go.Proofs.YtelobnllkhnpaaaGreat.L
namespace Go.Ev
variable {P : Program} {C : dO} {K : Callee} {f : Nat} {s : St}
theorem Fv {o : Oper} {t e sz by_ : Nat} {zr : List AV} {ti : TI} {x i : Operand} {xs : List (List AV)} {j : Int} {k : IntKind} (ho : o.op = .slice t x (some i) none none) (ht : look C.tab t = some ⟨.slice e, sz, by_, zr⟩) (he : look C.tab e = some ti)
  (hx : s.val x = some (.vs ti.sz xs)) (hi : s.val i = some (.int k j)) (hc : 0 <= j /\ j <= xs.length) : aE C K f o s = some (s.putv o.dst (.vs ti.sz (xs.drop j.toNat))) := by
 unfold aE;rw [ho];dsimp only;rw [ht, hx, hi];dsimp only;rw [he];dsimp only;rw [if_pos ⟨rfl, hc⟩]
end Go.Ev
namespace Go.Proofs.YtelobnllkhnpaaaGreat.E
def HQ (n : Nat) : Bool := [89, 128, 129, 140, 142, 163, 166, 177, 178, 105, 138, 103, 63, 65, 146, 110, 67, 19, 18, 4].contains n
noncomputable def zF (K : Nat) (v0 : List AV) (r0 : AV) (lo : Nat) (g : Fn) (vs : List AV) (h : aj) : Option (AV × aj) :=
 match g with
 | .func f => match HQ f with
  | true => none
  | false => match Nat.beq f 7 with
   | true => @ite _ (vs = v0 /\ lC Tryz.prog lo f vs h r0 h) (Classical.propDecidable _) (some (r0, h)) none
   | false => call Tryz.prog ba K lo (.func f) vs h
 | _ => none
theorem zG (K : Nat) (v0 : List AV) (r0 : AV) : gD Tryz.prog (zF K v0 r0) := by
 intro lo g vs h r h' hk;unfold zF at hk
 split at hk
 ·rename_i f
  split at hk
  ·cases hk
  ·split at hk
   ·split at hk
    ·rename_i hs
     injection hk with hk;injection hk with e1 e2;subst e1 e2;exact hs.2
    ·cases hk
   ·exact sound.all K lo (.func f) vs h r h' hk
 ·cases hk
def cutK (n : Nat) : Bool := Gk n && ![89, 128, 129, 140, 142, 163, 166, 177, 178, 138].contains n
def HR (n : Nat) : List Nat := (Go.Ev.look [(140, [9, 14]), (142, [31]), (166, [56, 65, 88]), (138, [42, 48]), (103, [11])] n).getD [] ++ fz n
def frK (f r : Nat) : List Nat := match (Nat.beq f 142 && Nat.beq r 18) || (Nat.beq f 67 && Nat.beq r 14) with
 | true => [9]
 | false => []
def nbK (f t : Nat) : List Nat := match Nat.beq f 103 && Nat.beq t 165 with
 | true => [1, 1]
 | false => nb f t
def pinK (f r : Nat) : Option (List (Nat × Nat) × List Nat) := match Nat.beq f 166 && Nat.beq r 16 with
 | true => some ([(4, 5)], [])
 | false => match Nat.beq f 138 && Nat.beq r 8 with
  | true => some ([(1, 10), (10, 12)], [10])
  | false => none
noncomputable def bn (K : Nat) (v0 : List AV) (r0 : AV) : dO := { ba with eqs := 218 :: ba.eqs, orc := zF K v0 r0, cut := cutK, fz := HR, fr := frK, nb := nbK, pin := pinK }
theorem G9 : rg Tryz.prog 218 = true := by kernel_rfl
theorem Fx (K : Nat) (v0 : List AV) (r0 : AV) : wC Tryz.prog (bn K v0 r0) = true := by
 have h : (kX Tryz.prog && Tryz.prog.follows .mixedOrders && BB.eqs.all (rg Tryz.prog)) = true := ze;show (kX Tryz.prog && Tryz.prog.follows .mixedOrders && (rg Tryz.prog 218 && BB.eqs.all (rg Tryz.prog))) = true;rw [G9, Bool.true_and];exact h
theorem Fy (K : Nat) (v0 : List AV) (r0 : AV) : l5 Tryz.prog (bn K v0 r0) := ⟨zf.tab, Fx K v0 r0, zG K v0 r0⟩
theorem dk {K f k lo : Nat} {v0 vs : List AV} {h : aj} {r0 : AV} {r : AV × aj} (ho : HQ f = false) (hi : Nat.beq f 7 = false) (hc : call Tryz.prog ba K lo (.func f) vs h = some r) (hk : 1 <= k) : call Tryz.prog (bn K v0 r0) k lo (.func f) vs h = some r := by
 obtain ⟨k, rfl⟩ : ∃ k', k = k' + 1 := ⟨k - 1, by omega⟩
 have : (bn K v0 r0).orc lo (.func f) vs h = some r := by
  show zF K v0 r0 lo (.func f) vs h = some r;unfold zF;dsimp only;rw [ho, hi];exact hc
 simp only [call, this]
theorem HS {K k lo : Nat} {v0 : List AV} {h : aj} {r0 : AV} (hc : lC Tryz.prog lo 7 v0 h r0 h) (hk : 1 <= k) : call Tryz.prog (bn K v0 r0) k lo (.func 7) v0 h = some (r0, h) := by
 obtain ⟨k, rfl⟩ : ∃ k', k = k' + 1 := ⟨k - 1, by omega⟩
 have : (bn K v0 r0).orc lo (.func 7) v0 h = some (r0, h) := by
  show zF K v0 r0 lo (.func 7) v0 h = some (r0, h);unfold zF;show @ite _ (v0 = v0 /\ lC Tryz.prog lo 7 v0 h r0 h) (Classical.propDecidable _) (some (r0, h)) none = _;rw [if_pos ⟨rfl, hc⟩]
 simp only [call, this]
end Go.Proofs.YtelobnllkhnpaaaGreat.E
namespace Go.Proofs.YtelobnllkhnpaaaGreat.L
variable {K : Nat} {v0 : List AV} {r0 : AV}
theorem r9 (h : aj) (lo : Nat) (hlo : lo <= h.length) (its : List (Int × ay)) (x : Int × ay) (hl : its.length < 100000) : append (bn K v0 r0).tab lo (aQ h 92 (its.map bF)) 89 (bo h 6 (its.map bF)) (.vs 6 [bF x]) = some (bo h 6 ((its ++ [x]).map bF), aQ h 92 ((its ++ [x]).map bF)) := by
 have := cy (tab := ba.tab) (lo := lo) (h := h) (t := 89) (e := 92) rfl rfl (by decide) hlo (its.map bF) [bF x] (fun r hr => (gX its r hr).1) (by rw [List.length_map]; simp only [List.length_cons, List.length_nil, ca]; show (its.length + (0 + 1)) * 96 <= _; omega) (by rw [List.length_map]; simp [ca]; omega);show append ba.tab lo _ _ _ _ = _;rw [this];simp
def imSK (h : aj) (lo : Nat) (l : List ay) (i : Int) (a : List (Int × ay) × Int) : St :=
 {env := [(0, .v (.vs 5 (br l))), (1, .v (.int .i64 a.2)), (5, .v (bo h 6 (a.1.map bF))), (6, .v (.int .i64 i))], loc := [], heap := aQ h 92 (a.1.map bF), inRound := false, lo := lo }
theorem mL (l : List ay) (n : Int) (hK : bA l <= K) (hl : l.length < 1000) (hb : eQ l) (k : Nat) (hk : 1010 <= k) (h : aj) (lo : Nat) (hlo : lo <= h.length) : call Tryz.prog (bn K v0 r0) (k + 1) lo (.func 89) [.vs 5 (br l), .int .i64 n] h = some (bo h 6 ((bj l n).map bF), aQ h 92 ((bj l n).map bF)) := by
 have hll := b9 l;apply ai Tryz.func89 U (Nb U) U U;(repeat' (first | apply ab | refine Wr 0 U U ?_ | refine Wr 1 U U ?_ | refine Wr 2 U U ?_ | apply ae));apply aS (S := imSK h lo l) (l := l) (a0 := ([], n)) (fun i rest a => a.1 ++ bj rest a.2 = bj l n /\ a.1.length = i) (by omega) (by omega) rfl ⟨rfl, rfl⟩
 ·intro i st rest a hi hd hil hJ
  obtain ⟨its, m⟩ := a;have hlt := f5 hil;have hrow := de _ _ _ hi;have hmem := dY l i _ hi;have hbm := dt l i _ hb hi;have hap := r9 (K := K) (v0 := v0) (r0 := r0) h lo hlo its (m, st) (by have := hJ.2; dsimp only at this; omega);obtain ⟨hJ, hJl⟩ := hJ;rw [bj] at hJ;obtain ⟨op, nn, ar, t, e⟩ := st;rw [iy] at hmem;rw [kP] at hbm;obtain ⟨⟨ha1, ha2⟩, ⟨ht1, ht2⟩, he1, he2⟩ := hbm;have hla := bB ar;rw [jj] at hJ;dsimp only at hJ hJl;have iht := dk (k := k) (v0 := v0) (r0 := r0) rfl rfl (eZ K t (by omega) ht1 ht2 (aQ h 92 ((its ++ [(m, ay.mk op nn ar t e)]).map bF)) (aQ h 92 ((its ++ [(m, ay.mk op nn ar t e)]).map bF)).length) (by omega);have ihe := dk (k := k) (v0 := v0) (r0 := r0) rfl rfl (eZ K e (by omega) he1 he2 (aQ h 92 ((its ++ [(m, ay.mk op nn ar t e)]).map bF)) (aQ h 92 ((its ++ [(m, ay.mk op nn ar t e)]).map bF)).length) (by omega);(repeat' (first | apply ab | refine ah U U ?_ | (refine Wo 3 U ?_;refine Tc 3 U (Tt U U ‹_› (Tn ?_))) | refine Wr 4 U U ?_ | (refine Wo 5 U ?_;refine Tc 4 U (Tg U (aq U U U U U ‹_›) ?_) <;> refine Tg U U (Tc 2 U (Tg U (aN U U U U U ‹_›) ?_)) <;> refine Tc 1 U (Tn ?_)) | (refine Wd 6 [0,1,0,0,12,28,60,124,255,0,0,1536,3584,7680,16124,32767,65535] U U (by decide +kernel) ?_;refine Uf U U U (Uf U U U (Uf U U U (Uf U U U (Uf U (aq U U U U U ‹_›) U ?_)))) <;> refine Uf U U U (Uf U U U (Uf U (aa U U U U ‹_›) U ?_)) <;> refine Uf U U U (Uf U U U (Uf U U U (Uf U (aq U U U U U ‹_›) U ?_))) <;> refine Uf U U U (Uf U U U (Uf U (aa U U U U ‹_›) U ?_)) <;> refine Uo U U (Uo U U (Un ?_))) | apply ak | apply ae));exact ⟨(its ++ [(m, .mk op nn ar t e)], IntKind.i64.wrap (IntKind.i64.wrap (IntKind.i64.wrap (m + 1) + cW t 0) + cW e 0)), rfl, by rw [<- hJ]; simp, by simp [hJl]⟩
 ·intro a hJ
  have hlt := f8 (l := l);obtain ⟨its, m⟩ := a;(repeat' (first | apply ab | refine af U U ?_ | (refine Wo 3 U ?_;refine Tc 3 U (Tf U U ‹_› (Tn ?_))) | refine Wr 7 U U ?_ | apply am | apply aC));have : its = bj l n := by simpa [bj] using hJ.1
  subst this;exact ⟨.inl rfl, rfl⟩
def eq (x : Int × ay) : List (Int × ay) := match x with
 | (n, .mk _ _ _ t _) => bj t (IntKind.i64.wrap (n + 1))
def fO (x : Int × ay) : List (Int × ay) := match x with
 | (n, .mk _ _ _ t e) => bj e (IntKind.i64.wrap (IntKind.i64.wrap (n + 1) + cW t 0))
def BZ (K : Nat) : ay -> Prop
 | .mk _ _ _ t e => bA t + bA e <= K /\ t.length < 1000 /\ e.length < 1000 /\ eQ t /\ eQ e
theorem uC (x : Int × ay) (hx : BZ K x.2) (k : Nat) (hk : 1020 <= k) (h : aj) (lo : Nat) (hlo : lo <= h.length) :
  call Tryz.prog (bn K v0 r0) (k + 1) lo (.func 128) [.agg (bF x)] h = some (bo h 6 ((eq x).map bF), aQ h 92 ((eq x).map bF)) := by
 obtain ⟨n, op, nn, a, t, e⟩ := x;obtain ⟨h1, h2, h3, h4, h5⟩ := hx;have hi := mL (K := K) (v0 := v0) (r0 := r0) t (IntKind.i64.wrap (n + 1)) (by omega) h2 h4 (k - 1) (by omega) h lo hlo;rw [show k - 1 + 1 = k by omega] at hi
 show _ = some (bo h 6 ((bj t (IntKind.i64.wrap (n + 1))).map bF), _);unfold eq;dsimp only;generalize bj t (IntKind.i64.wrap (n + 1)) = its at hi;apply ai Tryz.func128 U (Nb U) U U;(repeat' (first | apply ab | refine Wr 0 U U ?_ | (refine Wo 1 U ?_;refine Tc 6 U (Tg U (aa U U U U ‹_›) ?_) <;> refine Tc 1 U (Tn ?_)) | apply am));exact ⟨.inl rfl, rfl⟩
theorem uD (x : Int × ay) (hx : BZ K x.2) (k : Nat) (hk : 1020 <= k) (h : aj) (lo : Nat) (hlo : lo <= h.length) :
  call Tryz.prog (bn K v0 r0) (k + 1) lo (.func 129) [.agg (bF x)] h = some (bo h 6 ((fO x).map bF), aQ h 92 ((fO x).map bF)) := by
 obtain ⟨n, op, nn, a, t, e⟩ := x;obtain ⟨h1, h2, h3, h4, h5⟩ := hx;have hc := dk (k := k) (v0 := v0) (r0 := r0) rfl rfl (eZ K t (by omega) (by omega) h4 h h.length) (by omega);have hi := mL (K := K) (v0 := v0) (r0 := r0) e (IntKind.i64.wrap (IntKind.i64.wrap (n + 1) + cW t 0)) (by omega) h3 h5 (k - 1) (by omega) h lo hlo;rw [show k - 1 + 1 = k by omega] at hi
 show _ = some (bo h 6 ((bj e (IntKind.i64.wrap (IntKind.i64.wrap (n + 1) + cW t 0))).map bF), _);unfold fO;dsimp only;generalize bj e (IntKind.i64.wrap (IntKind.i64.wrap (n + 1) + cW t 0)) = its at hi;apply ai Tryz.func129 U (Nb U) U U;(repeat' (first | apply ab | refine Wr 0 U U ?_ | (refine Wd 1 [0,1,3,0,8,24,0,64,192,448,1016,2047,4095] U U (by decide +kernel) ?_;refine Uf U U U (Uf U U U (Uf U U U (Uf U U U (Uf U U U (Uf U U U (Uf U U U (Uf U U U (Uf U U U (Uf U (aa U U U U ‹_›) U ?_))))))))) <;> refine Uf U U U (Uo U (aa U U U U ‹_›) ?_) <;> refine Uo U U (Un ?_)) | apply am))
 exact ⟨.inl rfl, rfl⟩
end Go.Proofs.YtelobnllkhnpaaaGreat.L
namespace Go.Ev
theorem gx {C : dO} {K : Callee} {f : Nat} {s : St} {o : Oper} {t d off : Nat} {ti : TI} {x y : Operand} {v : AV} {xs ys : List AV} (ho : o.op = .store t x y) (ht : look C.tab t = some ti) (hx : s.slot x = some (.p d off)) (hy : s.val y = some v) (hc : cellsOf v = some ys) (hl : look s.loc d = some xs)
  (hs : ys.length = ti.sz /\ off + ti.sz <= xs.length) : aE C K f o s = some (({ s with loc := (d, bb xs off ys) :: s.loc } : St).putv o.dst (.tup [])) := by
 unfold aE;rw [ho];dsimp only;rw [ht, hx, hy];dsimp only [Option.bind];rw [hc];dsimp only;rw [hl];dsimp only;rw [if_pos hs]
end Go.Ev
namespace Go.Proofs.YtelobnllkhnpaaaGreat.L
variable {K : Nat} {v0 : List AV} {r0 : AV}
theorem DH (l : List Int) (n : Nat) (hv : n < l.length) (x : Int) (hl : l.length < 100000) (k : Nat) (hk : l.length + 4 < k) (h : aj) (lo : Nat) :
  call Tryz.prog ba (k + 1) lo (.func 184) [.vs 1 (ag l), .int .i64 n, .int .i64 x] h = some (.vs 1 (ag (l.set n x)), h) := by
 have hne : l ≠ [] := fun e => by subst e; simp at hv
 have hc := oW l hl (k - 1) (by omega) h h.length (Nat.le_refl _);rw [show k - 1 + 1 = k by omega, mI hne, mJ hne] at hc
 have hH : (h ++ [ap.cells 3 (ic l)])[h.length]? = some (.cells 3 (ic l)) := by simp
 have h2 : 0 + l.length * 1 = (ic l).length := by rw [fE]; omega
 have h3 : h.length <= h.length /\ (ic l).length = (ic l).length /\ ([AV.int .i64 x] : List AV).length = 1 /\ (0 + n * 1) + 1 <= (ic l).length := ⟨Nat.le_refl _, rfl, rfl, by rw [fE]; omega⟩
 have hfin := Ft (h := h) (H := (h ++ [ap.cells 3 (ic l)]).set h.length (.cells 3 (ic (l.set n x)))) (id := h.length) (T := 3) (l := l.set n x) (by simp) (Nat.le_refl _);rw [List.length_set, <- zv x hv] at hfin;have e1 : n = 0 + n * 1 := by omega
 rw [show bb (ic l) n [.int .i64 x] = bb (ic l) (0 + n * 1) [.int .i64 x] by rw [<- e1]] at hfin
 apply ai Tryz.func184 U (Nb U) U U;(repeat' (first | apply ab | refine Wr 0 U U ?_ | (refine Wo 1 U ?_;refine Tc 1 U (Tg U (aa U U U U ‹_›) ?_) <;> refine Tc 1 U (Tn ?_)) | (refine Wo 2 U ?_;refine Tc 3 U (Tg U (dJ U U U U U ‹_› ‹_› ‹_›) ?_) <;> refine Tg U (aM U U U U ‹_› ‹_›) ?_ <;> refine Tn ?_) | refine Wr 3 U U ?_ | apply am));exact ⟨.inl rfl, hfin⟩
def ff (h : aj) (lo T sz : Nat) (a : AV) (xs : List (List AV)) : Prop := (a = .nils /\ xs = []) \/ ∃ id, a = .sl id sz 0 xs.length /\ h[id]? = some (.cells T xs.flatten) /\ lo <= id /\ xs ≠ []
structure xC (T : Nat) (h h' : aj) : Prop where
 len : h.length <= h'.length
 obj : ∀ (id : Nat) (o : ap), h[id]? = some o -> (∀ xs, o ≠ .cells T xs) -> h'[id]? = some o
theorem ff.keep {T T2 lo sz : Nat} {h h' : aj} {a : AV} {xs : List (List AV)} (hk : xC T h h') (hne : T2 ≠ T) (h1 : ff h lo T2 sz a xs) : ff h' lo T2 sz a xs := by
 rcases h1 with h1 | ⟨id, h1, h2, h3, h4⟩
 ·exact .inl h1
 ·exact .inr ⟨id, h1, hk.obj id _ h2 (fun xs e => by injection e with e; exact hne e), h3, h4⟩
theorem ff.pre {T lo sz : Nat} {h d : aj} {a : AV} {xs : List (List AV)} (h1 : ff h lo T sz a xs) : ff (h ++ d) lo T sz a xs := by
 rcases h1 with h1 | ⟨id, h1, h2, h3, h4⟩
 ·exact .inl h1
 ·refine .inr ⟨id, h1, ?_, h3, h4⟩
  have hlt : id < h.length := by
   rcases Nat.lt_or_ge id h.length with h' | h'
   ·exact h'
   ·rw [List.getElem?_eq_none h'] at h2; cases h2
  rw [List.getElem?_append_left hlt]; exact h2
theorem nO {tab : wb} {lo : Nat} {h : aj} {T t sz0 by_ : Nat} {zr : List AV} {ti : TI} (ht : Go.Ev.look tab t = some ⟨.slice T, sz0, by_, zr⟩) (he : Go.Ev.look tab T = some ti) (hsz : 0 < ti.sz) (hlo : lo <= h.length) {a : AV} {xs : List (List AV)} (ho : ff h lo T ti.sz a xs)
  (ys : List (List AV)) (hr : ∀ r, r ∈ xs -> r.length = ti.sz) (hroom : (xs.length + ys.length) * ti.bytes <= ca) (hroom2 : xs.length + ys.length <= ca) :
  ∃ a' h', append tab lo h t a (bg ti.sz ys) = some (a', h') /\ ff h' lo T ti.sz a' (xs ++ ys) /\ xC T h h' := by
 unfold append;rw [ht];dsimp only;rw [he];dsimp only;have hrow : fh h ti.sz (bg ti.sz ys) = some ys.flatten := by cases ys <;> simp [fh, bg]
 have hlen : lenOf (bg ti.sz ys) = some ys.length := by cases ys <;> rfl
 rw [hrow, hlen];dsimp only;rcases ho with ⟨rfl, rfl⟩ | ⟨id, rfl, h2, h3, h4⟩
 ·dsimp only
  cases ys with
  | nil => exact ⟨.nils, h, by simp, .inl ⟨rfl, rfl⟩, Nat.le_refl _, fun id o h _ => h⟩
  | cons y ys =>
   rw [if_neg (by simp), if_pos ⟨by simpa using hroom, hsz, by simpa using hroom2⟩]
   refine ⟨_, _, rfl, .inr ⟨h.length, rfl, by simp, hlo, by simp⟩, by simp, fun id o h1 _ => ?_⟩
   have hlt : id < h.length := by
    rcases Nat.lt_or_ge id h.length with h' | h'
    ·exact h'
    ·rw [List.getElem?_eq_none h'] at h1; cases h1
   rw [List.getElem?_append_left hlt]; exact h1
 ·dsimp only
  rw [h2];dsimp only;rw [if_pos ⟨h3, rfl, rfl, rfl, by rw [dg xs hr], hsz, hroom, hroom2⟩]
  have hlt : id < h.length := by
   rcases Nat.lt_or_ge id h.length with h' | h'
   ·exact h'
   ·rw [List.getElem?_eq_none h'] at h2; cases h2
  refine ⟨_, _, rfl, .inr ⟨id, by simp, ?_, h3, by simp [h4]⟩, by simp, fun id' o h1 hn => ?_⟩
  ·rw [List.getElem?_set_self hlt, List.flatten_append]
  ·by_cases e : id = id'
   ·subst e
    rw [h2] at h1;injection h1 with h1;exact absurd h1.symm (hn _)
   ·rw [List.getElem?_set_ne e]; exact h1
abbrev Ot := Int × Int
def Ha (x : Ot) : List AV := [.int .i64 x.1, .int .i64 x.2]
def cj (l : List Ot) : List (List AV) := l.map Ha
theorem eI (l : List Ot) : (cj l).length = l.length := by simp [cj]
theorem ll (l : List Ot) : ∀ r, r ∈ cj l -> r.length = 2 /\ ∀ x, x ∈ r -> bh x = true := by
 intro r hr;obtain ⟨y, _, rfl⟩ := List.mem_map.1 hr;refine ⟨rfl, fun x hx => ?_⟩
 simp [Ha] at hx;rcases hx with rfl | rfl <;> rfl
def iC (e : Int) (st oA tA : AV) (c u wh fu : Int) (tv : AV) (ov : Bool) : List AV := [.int .i64 e, st, oA, tA, .int .i64 c, .int .i64 u, .int .i64 wh, .int .i64 fu, tv, .bool ov]
theorem DI {lo : Nat} {h : aj} (hlo : lo <= h.length) {tA : AV} {trs : List vS} (ho : ff h lo 224 3 tA (cN trs)) (more : List vS) (hl : trs.length + more.length < 1000000) :
  ∃ tA' h', append (bn K v0 r0).tab lo h 160 tA (bg 3 (cN more)) = some (tA', h') /\ ff h' lo 224 3 tA' (cN (trs ++ more)) /\ xC 224 h h' := by
 obtain ⟨a', h', q1, q2, q3⟩ := nO (tab := ba.tab) (t := 160) (T := 224) rfl rfl (by decide) hlo ho (cN more) (fun r hr => (jK _ r hr).1) (by rw [eH, eH]; show (trs.length + more.length) * 24 <= _; simp only [ca]; omega) (by rw [eH, eH]; simp only [ca]; omega);refine ⟨a', h', q1, ?_, q3⟩;have e : cN (trs ++ more) = cN trs ++ cN more := by simp [cN]
 rw [e]; exact q2
theorem jL {e c u wh fu : Int} {st oA tA tv tA' : AV} {ov : Bool} (x : vS) (k : Nat) {h h' : aj} {lo : Nat} (hz : cellsOf tA' = some [tA']) (hap : append (bn K v0 r0).tab lo h 160 tA (.vs 3 [rU x]) = some (tA', h')) :
  call Tryz.prog (bn K v0 r0) (k + 1) lo (.func 178) [.agg (iC e st oA tA c u wh fu tv ov), .int .i64 x.1, .int .i64 x.2.1, .int .i64 x.2.2] h = some (.agg (iC e st oA tA' c u wh fu tv ov), h') := by
 obtain ⟨x1, x2, x3⟩ := x;apply ai Tryz.func178 U (Nb U) U U;(repeat' (first | apply ab | refine Wr 0 U U ?_ | (refine Wo 1 U ?_;refine Tc 8 U (Tg U (aN U U U U U ‹_›) ?_) <;> refine Tc 2 U (Tg U (gx U U U U ‹_› U ⟨U, Nb U⟩) ?_) <;> refine Tn ?_) | (refine Wo 2 U ?_;refine Tc 1 U (Tg U U (Tn ?_))) | apply am));exact ⟨.inl rfl, rfl⟩
theorem nP {e c u wh fu : Int} {st oA tA tv : AV} {ov : Bool} (e' n : Int) (k : Nat) (h : aj) (lo : Nat) :
  call Tryz.prog (bn K v0 r0) (k + 1) lo (.func 163) [.agg (iC e st oA tA c u wh fu tv ov), .int .i64 e', .int .i64 n] h = some (.agg (iC e' st oA tA c u n fu .nils true), h) := by
 apply ai Tryz.func163 U (Nb U) U U;(repeat' (first | apply ab | refine Wr 0 U U ?_ | refine Wr 1 U U ?_ | refine Wr 2 U U ?_ | refine Wr 3 U U ?_ | refine Wr 4 U U ?_ | refine Wr 5 U U ?_ | apply am));exact ⟨.inl rfl, rfl⟩
theorem oX {e c u wh fu : Int} {st oA tA tv : AV} {ov b : Bool} (hb : ov = true /\ b = true \/ (ov = false /\ tv = .nils /\ b = true) \/ ov = false /\ ∃ rows : List (List AV), tv = .vs 6 rows /\ b = rows.isEmpty) (k : Nat) (h : aj) (lo : Nat) :
  call Tryz.prog ba (k + 1) lo (.func 141) [.agg (iC e st oA tA c u wh fu tv ov)] h = some (.bool b, h) := by
 rcases hb with ⟨rfl, rfl⟩ | ⟨rfl, rfl, rfl⟩ | ⟨rfl, rows, rfl, rfl⟩
 ·apply ai Tryz.func141 U (Nb U) U U
  (repeat' (first | apply ab | refine Wr 0 U U ?_ | (refine Wo 1 U ?_;refine Tc 6 U (Tk U (Tc 2 U (Tn ?_)))) | apply am));exact ⟨.inl rfl, rfl⟩
 ·apply ai Tryz.func141 U (Nb U) U U
  (repeat' (first | apply ab | refine Wr 0 U U ?_ | (refine Wo 1 U ?_;refine Tc 6 U (Tt U U U (Tc 2 U (Tn ?_)))) | apply am));exact ⟨.inl rfl, rfl⟩
 ·cases rows with
  | nil =>
   apply ai Tryz.func141 U (Nb U) U U;(repeat' (first | apply ab | refine Wr 0 U U ?_ | (refine Wo 1 U ?_;refine Tc 6 U (Tt U U U (Tc 2 U (Tn ?_)))) | apply am));exact ⟨.inl rfl, rfl⟩
  | cons r rows =>
   have hz : (((r :: rows).length : Int) == 0) = false := by rw [List.length_cons]; simp; omega
   apply ai Tryz.func141 U (Nb U) U U;(repeat' (first | apply ab | refine Wr 0 U U ?_ | (refine Wo 1 U ?_;refine Tc 6 U (Tf U U U (Tc 2 U (Tn ?_)))) | apply am));exact ⟨.inl rfl, rfl⟩
variable {K : Nat} {v0 : List AV} {r0 : AV}
def te (tv : AV) (l : List (Int × ay)) : Prop := tv = .vs 6 (l.map bF) \/ (l = [] /\ tv = .nils)
theorem te.cell {tv : AV} {l : List (Int × ay)} (h : te tv l) : cellsOf tv = some [tv] := by rcases h with rfl | ⟨_, rfl⟩ <;> rfl
theorem mN (l : List (Int × ay)) : cv 6 l.length (l.map bF).flatten = l.map bF := by
 have := eY (sz := 6) (l.map bF) (fun r hr => (gX l r hr).1);rwa [List.length_map] at this
theorem mO (l : List (Int × ay)) : ((l.map bF).flatten).all bh = true := by
 rw [List.all_eq_true];intro x hx;obtain ⟨r, hr, hx⟩ := List.mem_flatten.1 hx;exact (gX l r hr).2 x hx
theorem sb (l : List (Int × ay)) : ((l.map bF).flatten).length = l.length * 6 := by
 rw [dg (l.map bF) (fun r hr => (gX l r hr).1), List.length_map]
theorem DJ (h : aj) (lo : Nat) (hlo : lo <= h.length) (E N : List (Int × ay)) (hl : E.length + N.length < 100000) :
  ∃ r tv d, append (bn K v0 r0).tab lo (aQ h 92 (E.map bF)) 89 (bo h 6 (E.map bF)) (.vs 6 (N.map bF)) = some r /\ fm lo r = (tv, h ++ d) /\ te tv (E ++ N) := by
 have hap := cy (tab := ba.tab) (lo := lo) (h := h) (t := 89) (e := 92) rfl rfl (by decide) hlo (E.map bF) (N.map bF) (fun r hr => (gX E r hr).1) (by rw [List.length_map, List.length_map]; show (E.length + N.length) * 96 <= _; simp only [ca]; omega) (by rw [List.length_map, List.length_map]; simp only [ca]; omega);have hap : append (bn K v0 r0).tab lo (aQ h 92 (E.map bF)) 89 (bo h 6 (E.map bF)) (.vs 6 (N.map bF)) = _ := hap;rw [<- List.map_append] at hap;generalize hX : E ++ N = X at hap;cases X with
 | nil => exact ⟨_, .nils, [], hap, by simp [fm, bo, aQ], .inr ⟨rfl, rfl⟩⟩
 | cons x X =>
  refine ⟨_, .vs 6 ((x :: X).map bF), [.dead], hap, ?_, .inl rfl⟩;have e1 : bo h 6 ((x :: X).map bF) = .sl h.length 6 0 (x :: X).length := by simp [bo]
  have e2 : aQ h 92 ((x :: X).map bF) = h ++ [.cells 92 ((x :: X).map bF).flatten] := rfl;have e3 : (h ++ [ap.cells 92 ((x :: X).map bF).flatten])[h.length]? = some (.cells 92 ((x :: X).map bF).flatten) := by simp
  show fm lo (bo h 6 ((x :: X).map bF), aQ h 92 ((x :: X).map bF)) = _;rw [e1, e2];unfold fm;dsimp only;rw [e3];dsimp only;rw [if_pos ⟨hlo, by rw [sb]; omega, mO _⟩, List.drop_zero, mN]
  simp
theorem HU {w : Nat} {vs : List bk} (H : Hd w vs) (hK : 1000 <= K) (n i : Int) (h0 : 0 <= n) (h1 : n < vs.length) (hi : 0 <= i) (k : Nat) (hk : 1 <= k) (h : aj) (lo : Nat) : call Tryz.prog (bn K v0 r0) k lo (.func 143) [.vs 3 (ii vs), .int .i64 n, .int .i64 i] h = some (.int .i64 (cz vs n i), h) := by
 have := vR H n i h0 h1 hi (K - 2) (by omega) h lo;rw [show K - 2 + 2 = K by omega] at this
 exact dk rfl rfl this hk
theorem Gn (hK : 1000 <= K) (l : List Int) (n : Nat) (hv : n < l.length) (x : Int) (hl : l.length < 500) (k : Nat) (hk : 1 <= k) (h : aj) (lo : Nat) : call Tryz.prog (bn K v0 r0) k lo (.func 184) [.vs 1 (ag l), .int .i64 n, .int .i64 x] h = some (.vs 1 (ag (l.set n x)), h) := by
 have := DH l n hv x (by omega) (K - 1) (by omega) h lo;rw [show K - 1 + 1 = K by omega] at this
 exact dk rfl rfl this hk
theorem AK (hK : 1000 <= K) (b : Bool) (k : Nat) (hk : 1 <= k) (h : aj) (lo : Nat) : call Tryz.prog (bn K v0 r0) k lo (.func 168) [.bool b] h = some (.int .i64 (fe b), h) := by
 have := lE (K - 1) lo h b;rw [show K - 1 + 1 = K by omega] at this
 exact dk rfl rfl this hk
section
variable {p : bp} (H : pQ p) (hK : 1000 <= K) {op n : Int} {ar : List aF} {t el : List ay} {s : List Int} (hs : eG p.width.toNat p.vars s) (n0 : 0 <= n) (n1 : n < p.vars.length) {i x : Int} (i0 : 0 <= i)
 {e c u wh fu : Int} {oA tA tv : AV} {ov : Bool} {k : Nat} (hk : 10 <= k) {h : aj} {lo : Nat}
include H hK hs n0 n1 i0 hk
theorem xD : call Tryz.prog (bn K v0 r0) (k + 1) lo (.func 177) [.agg (bY p), .agg (iC e (.vs 1 (ag s)) oA tA c u wh fu tv ov), .agg (ig (.mk op n ar t el)), .bool false, .int .i64 i, .int .i64 x] h =
  some (.agg (iC e (.vs 1 (ag (s.set (cz p.vars n i) x))) oA tA c u wh fu tv ov), h) := by
 have ha := HU (v0 := v0) (r0 := r0) H.hd hK n i n0 n1 i0 k (by omega) h h.length;have hc := hs.cell H.hd (i := i) n0 n1;have hcb := H.cells;have hp := Gn (v0 := v0) (r0 := r0) hK s (cz p.vars n i) hc x (by have := hs.len; unfold ch at hcb; omega) k (by omega) h lo;obtain ⟨w, vs, body⟩ := p;dsimp only at ha hp;apply ai Tryz.func177 U (Nb U) U U;(repeat' (first | apply ab | refine af U U ?_ | refine Wr 0 U U ?_ | (refine Wd 1 [0,1,3,0,8,0,32,0,248,0,1023,2047,4095,8191] U U (by decide +kernel) ?_;refine Uf U U U (Uf U U U (Uf U U U (Uf U U U (Uf U U U (Uf U U U (Uf U U U (Uf U U U (Uf U (aa U U U U ‹_›) U ?_)))))))) <;> refine Uf U U U (Uo U (aa U U U U ‹_›) ?_) <;> refine Uo U U (Uo U U (Uo U U (Un ?_)))) | refine Wr 2 U U ?_ | refine Wr 4 U U ?_ | apply ak | apply am))
 exact ⟨.inl rfl, rfl⟩
theorem xE {tA' : AV} {h' : aj} (hz : cellsOf tA' = some [tA']) (hap : append (bn K v0 r0).tab lo h 160 tA (.vs 3 [rU (2, n, i.tmod (aI p.vars n))]) = some (tA', h')) :
  call Tryz.prog (bn K v0 r0) (k + 1) lo (.func 177) [.agg (bY p), .agg (iC e (.vs 1 (ag s)) oA tA c u wh fu tv ov), .agg (ig (.mk op n ar t el)), .bool true, .int .i64 i, .int .i64 x] h =
  some (.agg (iC e (.vs 1 (ag (s.set (cz p.vars n i) x))) oA tA' c u wh fu tv ov), h') := by
 have ha := HU (v0 := v0) (r0 := r0) H.hd hK n i n0 n1 i0 k (by omega) h h.length;have hc := hs.cell H.hd (i := i) n0 n1;have hcb := H.cells;have hp := Gn (v0 := v0) (r0 := r0) hK s (cz p.vars n i) hc x (by have := hs.len; unfold ch at hcb; omega) k (by omega) h lo;have hev := jL (e := e) (c := c) (u := u) (wh := wh) (fu := fu) (st := .vs 1 (ag (s.set (cz p.vars n i) x))) (oA := oA) (tv := tv) (ov := ov) (2, n, i.tmod (aI p.vars n)) (k - 1) hz hap;rw [show k - 1 + 1 = k by omega] at hev
 have hcells := H.hd.at n0 n1;obtain ⟨v, hv, hrow⟩ := my (vs := p.vars) n0 n1;have hc2 : aI p.vars n = v.cells := by unfold aI; rw [hv]
 rw [hc2] at hev hcells;obtain ⟨w, vs, body⟩ := p;obtain ⟨nm, level, cells⟩ := v;dsimp only at ha hp hrow hev hcells;have hne : cells ≠ 0 := by omega
 apply ai Tryz.func177 U (Nb U) U U;(repeat' (first | apply ab | refine ah U U ?_ | refine Wr 0 U U ?_ | (refine Wd 1 [0,1,3,0,8,0,32,0,248,0,1023,2047,4095,8191] U U (by decide +kernel) ?_;refine Uf U U U (Uf U U U (Uf U U U (Uf U U U (Uf U U U (Uf U U U (Uf U U U (Uf U U U (Uf U (aa U U U U ‹_›) U ?_)))))))) <;> refine Uf U U U (Uo U (aa U U U U ‹_›) ?_) <;> refine Uo U U (Uo U U (Uo U U (Un ?_)))) | refine Wr 2 U U ?_ | (refine Wd 3 [0,0,2,0,0,16,0,64,240,496,1008,2040,4095,8191] U U (by decide +kernel) ?_;refine Uf U U U (Uf U U U (Uf U U U (Uf U U U (Uf U U U (Uf U U U (Uf U U U (Uf U U U (Uf U (bq U U U U U ‹_›) U ?_)))))))) <;> refine Uf U U U (Uf U U U (Uf U (gu U U U ‹_›) U ?_)) <;> refine Uo U (aa U U U U ‹_›) ?_ <;> refine Uo U U (Un ?_)) | refine Wr 4 U U ?_ | apply am))
 exact ⟨.inl rfl, rfl⟩
end
theorem DK {K : Nat} {v0 : List AV} {r0 : AV} {p : bp} (H : pQ p) (hK : 1000 <= K) {m n : Int} {ar : List aF} {t el : List ay} {s : List Int} (hs : eG p.width.toNat p.vars s) {pk : List Int} {e c u wh fu : Int} {oA tA tv nx : AV} {ov : Bool} {k : Nat} (hk : 1100 <= k) {h : aj} {lo : Nat} (n0 : 0 <= n) (n1 : n < p.vars.length) (x : Int) : call Tryz.prog (bn K v0 r0) (k + 1) lo (.func 166) [.agg (bY p), .vs 1 (ag pk), .agg (iC e (.vs 1 (ag s)) oA tA c u wh fu tv ov), .agg (bF (m, .mk 0 n ar t el)), .vs 1 (ag [x]), nx] h =
  some (.agg (iC e (.vs 1 (ag (s.set (cz p.vars n 0) x))) oA tA c u wh fu tv ov), h) := by
 have hset := xD (K := K) (v0 := v0) (r0 := r0) H hK (op := 0) (ar := ar) (t := t) (el := el) hs n0 n1 (i := 0) (x := x) (by omega) (e := e) (c := c) (u := u) (wh := wh) (fu := fu) (oA := oA) (tA := tA) (tv := tv) (ov := ov) (k := k - 1) (by omega) (h := h) (lo := lo);rw [show k - 1 + 1 = k by omega] at hset
 obtain ⟨w, vs, body⟩ := p;apply ai Tryz.func166 U (Nb U) U U;(repeat' (first | apply ab | refine ah U U ?_ | refine af U U ?_ | refine Wr 0 U U ?_ | (refine Wo 1 U ?_;refine Tc 3 U (Tg U U (Tn ?_))) | refine Wr 2 U U ?_ | (refine Wo 3 U ?_;refine Tt U U U (Tc 1 U (Tn ?_))) | refine Wr 4 U U ?_ | (refine Wo 5 U ?_;refine Tc 2 U (Tf U U U (Tn ?_))) | (refine Wd 7 [0,0,0,0,8,24,0,0,0,256,768,1920,3968,8191,16383] U U (by decide +kernel) ?_;refine Uf U U U (Uf U U U (Uf U U U (Uf U U U (Uf U U U ?_)))) <;> (refine aP U ?_; refine iL (by decide +kernel) U U U U U U ?_) <;> refine Uf U U U (Uf U U U (Uf U U U (Uf U U U (Uf U U U (Uf U U U (Uf U U U (Uo U (aa U U U U ‹_›) ?_))))))) <;> refine Uo U U (Un ?_)) | apply ak | apply ae | apply am))
 exact ⟨.inl rfl, rfl⟩
theorem DL {K : Nat} {v0 : List AV} {r0 : AV} {p : bp} (H : pQ p) (hK : 1000 <= K) {m n : Int} {ar : List aF} {t el : List ay} {s : List Int} (hs : eG p.width.toNat p.vars s) {pk : List Int} {e c u wh fu : Int} {oA tA tv nx : AV} {ov : Bool} {k : Nat} (hk : 1100 <= k) {h : aj} {lo : Nat} (n0 : 0 <= n) (n1 : n < p.vars.length) {i : Int} (i0 : 0 <= i) (x : Int) {tA' : AV} {h' : aj} (hz : cellsOf tA' = some [tA']) (hap : append (bn K v0 r0).tab lo h 160 tA (.vs 3 [rU (2, n, i.tmod (aI p.vars n))]) = some (tA', h')) :
  call Tryz.prog (bn K v0 r0) (k + 1) lo (.func 166) [.agg (bY p), .vs 1 (ag pk), .agg (iC e (.vs 1 (ag s)) oA tA c u wh fu tv ov), .agg (bF (m, .mk 0 n ar t el)), .vs 1 (ag [i, x]), nx] h =
  some (.agg (iC e (.vs 1 (ag (s.set (cz p.vars n i) x))) oA tA' c u wh fu tv ov), h') := by
 have hset := xE (K := K) (v0 := v0) (r0 := r0) H hK (op := 0) (ar := ar) (t := t) (el := el) hs n0 n1 (i := i) (x := x) i0 (e := e) (c := c) (u := u) (wh := wh) (fu := fu) (oA := oA) (tA := tA) (tv := tv) (ov := ov) (k := k - 1) (by omega) (h := h) (lo := lo) hz hap;rw [show k - 1 + 1 = k by omega] at hset
 obtain ⟨w, vs, body⟩ := p;apply ai Tryz.func166 U (Nb U) U U;(repeat' (first | apply ab | refine ah U U ?_ | refine Wr 0 U U ?_ | (refine Wo 1 U ?_;refine Tc 3 U (Tg U U (Tn ?_))) | refine Wr 2 U U ?_ | (refine Wo 3 U ?_;refine Tt U U U (Tc 1 U (Tn ?_))) | refine Wr 4 U U ?_ | (refine Wo 5 U ?_;refine Tc 2 U (Tt U U U (Tn ?_))) | (refine Wo 6 U ?_;refine Tc 1 U (Tg U U (Tg U U (Tc 1 U (Tn ?_))))) | (refine Wd 7 [0,0,0,0,8,24,0,0,0,256,768,1920,3968,8191,16383] U U (by decide +kernel) ?_;refine Uf U U U (Uf U U U (Uf U U U (Uf U U U (Uf U U U ?_)))) <;> (refine aP U ?_; refine ix (by decide +kernel) U U U U U U ?_) <;> refine Uf U U U (Uf U U U (Uf U U U (Uf U U U (Uf U U U (Uf U U U (Uf U U U (Uo U (aa U U U U ‹_›) ?_))))))) <;> refine Uo U U (Un ?_)) | apply ae | apply am))
 exact ⟨.inl rfl, rfl⟩
theorem Fz {K : Nat} {v0 : List AV} {r0 : AV} {p : bp} {m n : Int} {ar : List aF} {t el : List ay} {s : List Int} {pk : List Int} {e c u wh fu : Int} {oA tA tv nx : AV} {ov : Bool} {k : Nat} (hk : 1100 <= k) {h : aj} {lo : Nat} (x : Int) {oA' : AV} {h' : aj} (hz : cellsOf oA' = some [oA']) (hap : append (bn K v0 r0).tab lo h 159 oA (.vs 2 [Ha (n, x)]) = some (oA', h')) :
  call Tryz.prog (bn K v0 r0) (k + 1) lo (.func 166) [.agg (bY p), .vs 1 (ag pk), .agg (iC e (.vs 1 (ag s)) oA tA c u wh fu tv ov), .agg (bF (m, .mk 3 n ar t el)), .vs 1 (ag [x]), nx] h =
  some (.agg (iC e (.vs 1 (ag s)) oA' tA c u wh fu tv ov), h') := by
 obtain ⟨w, vs, body⟩ := p;apply ai Tryz.func166 U (Nb U) U U;(repeat' (first | apply ab | refine ah U U ?_ | refine af U U ?_ | refine Wr 0 U U ?_ | (refine Wo 1 U ?_;refine Tc 3 U (Tg U U (Tn ?_))) | refine Wr 2 U U ?_ | (refine Wo 3 U ?_;refine Tf U U U (Tc 1 U (Tn ?_))) | (refine Wo 8 U ?_;refine Tf U U U (Tc 1 U (Tn ?_))) | (refine Wo 13 U ?_;refine Tf U U U (Tc 1 U (Tn ?_))) | (refine Wo 17 U ?_;refine Tt U U U (Tc 1 U (Tn ?_))) | (refine Wd 18 [0,1,3,0,8,0,32,96,248,504,1023,2047,4095,8191] U U (by decide +kernel) ?_;refine Uf U U U (Uf U U U (Uf U U U (Uf U U U (Uf U U U (Uf U U U (Uf U U U (Uf U U U (Uf U U U (Uf U U U (Uo U (aN U U U U U ‹_›) ?_)))))))))) <;> refine Uo U U (Uo U U (Uo U (gx U U U U ‹_› U ⟨U, Nb U⟩) ?_)) <;> refine Un ?_) | (refine Wo 33 U ?_;refine Tc 1 U (Tg U U (Tn ?_))) | apply ae | apply am))
 exact ⟨.inl rfl, rfl⟩
theorem DM {K : Nat} {v0 : List AV} {r0 : AV} {p : bp} {m n : Int} {ar : List aF} {t el : List ay} {s : List Int} {pk : List Int} {e c u wh fu : Int} {oA tA tv nx : AV} {ov : Bool} {k : Nat} (hk : 1100 <= k) {h : aj} {lo : Nat} (x : Int) : call Tryz.prog (bn K v0 r0) (k + 1) lo (.func 166) [.agg (bY p), .vs 1 (ag pk), .agg (iC e (.vs 1 (ag s)) oA tA c u wh fu tv ov), .agg (bF (m, .mk 5 n ar t el)), .vs 1 (ag [x]), nx] h =
  some (.agg (if x = 0 then iC 1 (.vs 1 (ag s)) oA tA c u m fu .nils true else iC e (.vs 1 (ag s)) oA tA c u wh fu tv ov), h) := by
 have hst := nP (K := K) (v0 := v0) (r0 := r0) (e := e) (c := c) (u := u) (wh := wh) (fu := fu) (st := .vs 1 (ag s)) (oA := oA) (tA := tA) (tv := tv) (ov := ov) 1 m (k - 1) h lo;rw [show k - 1 + 1 = k by omega] at hst
 obtain ⟨w, vs, body⟩ := p;cases hx : (x == 0)
 ·rw [if_neg (by simpa using hx)]
  apply ai Tryz.func166 U (Nb U) U U;(repeat' (first | apply ab | refine ah U U ?_ | refine af U U ?_ | refine Wr 0 U U ?_ | (refine Wo 1 U ?_;refine Tc 3 U (Tg U U (Tn ?_))) | refine Wr 2 U U ?_ | (refine Wo 3 U ?_;refine Tf U U U (Tc 1 U (Tn ?_))) | (refine Wo 8 U ?_;refine Tf U U U (Tc 1 U (Tn ?_))) | (refine Wo 13 U ?_;refine Tf U U U (Tc 1 U (Tn ?_))) | (refine Wo 17 U ?_;refine Tf U U U (Tc 1 U (Tn ?_))) | (refine Wo 19 U ?_;refine Tf U U U (Tc 1 U (Tn ?_))) | (refine Wo 27 U ?_;refine Tt U U U (Tc 1 U (Tn ?_))) | (refine Wo 28 U ?_;refine Tc 1 U (Tg U U (Tg U U (Tf U U ‹_› (Tn ?_))))) | (refine Wo 33 U ?_;refine Tc 1 U (Tg U U (Tn ?_))) | apply ak | apply ae | apply am));exact ⟨.inl rfl, rfl⟩
 ·rw [if_pos (by simpa using hx)]
  apply ai Tryz.func166 U (Nb U) U U;(repeat' (first | apply ab | refine ah U U ?_ | refine af U U ?_ | refine Wr 0 U U ?_ | (refine Wo 1 U ?_;refine Tc 3 U (Tg U U (Tn ?_))) | refine Wr 2 U U ?_ | (refine Wo 3 U ?_;refine Tf U U U (Tc 1 U (Tn ?_))) | (refine Wo 8 U ?_;refine Tf U U U (Tc 1 U (Tn ?_))) | (refine Wo 13 U ?_;refine Tf U U U (Tc 1 U (Tn ?_))) | (refine Wo 17 U ?_;refine Tf U U U (Tc 1 U (Tn ?_))) | (refine Wo 19 U ?_;refine Tf U U U (Tc 1 U (Tn ?_))) | (refine Wo 27 U ?_;refine Tt U U U (Tc 1 U (Tn ?_))) | (refine Wo 28 U ?_;refine Tc 1 U (Tg U U (Tg U U (Tt U U ‹_› (Tn ?_))))) | (refine Wo 29 U ?_;refine Tc 3 U (Tg U (aa U U U U ‹_›) ?_) <;> refine Tg U U (Tn ?_)) | apply ae | apply am));exact ⟨.inl rfl, rfl⟩
theorem DN {K : Nat} {v0 : List AV} {r0 : AV} {p : bp} {m n : Int} {ar : List aF} {t el : List ay} {s : List Int} {pk : List Int} {e c u wh fu : Int} {oA tA tv nx : AV} {ov : Bool} {k : Nat} (hk : 1100 <= k) {h : aj} {lo : Nat} (x : Int) : call Tryz.prog (bn K v0 r0) (k + 1) lo (.func 166) [.agg (bY p), .vs 1 (ag pk), .agg (iC e (.vs 1 (ag s)) oA tA c u wh fu tv ov), .agg (bF (m, .mk 6 n ar t el)), .vs 1 (ag [x]), nx] h =
  some (.agg (if x = 0 then iC 2 (.vs 1 (ag s)) oA tA c u m fu .nils true else iC e (.vs 1 (ag s)) oA tA c u wh fu tv ov), h) := by
 have hst := nP (K := K) (v0 := v0) (r0 := r0) (e := e) (c := c) (u := u) (wh := wh) (fu := fu) (st := .vs 1 (ag s)) (oA := oA) (tA := tA) (tv := tv) (ov := ov) 2 m (k - 1) h lo;rw [show k - 1 + 1 = k by omega] at hst
 obtain ⟨w, vs, body⟩ := p;cases hx : (x == 0)
 ·rw [if_neg (by simpa using hx)]
  apply ai Tryz.func166 U (Nb U) U U;(repeat' (first | apply ab | refine ah U U ?_ | refine af U U ?_ | refine Wr 0 U U ?_ | (refine Wo 1 U ?_;refine Tc 3 U (Tg U U (Tn ?_))) | refine Wr 2 U U ?_ | (refine Wo 3 U ?_;refine Tf U U U (Tc 1 U (Tn ?_))) | (refine Wo 8 U ?_;refine Tf U U U (Tc 1 U (Tn ?_))) | (refine Wo 13 U ?_;refine Tf U U U (Tc 1 U (Tn ?_))) | (refine Wo 17 U ?_;refine Tf U U U (Tc 1 U (Tn ?_))) | (refine Wo 19 U ?_;refine Tf U U U (Tc 1 U (Tn ?_))) | (refine Wo 27 U ?_;refine Tf U U U (Tc 1 U (Tn ?_))) | (refine Wo 30 U ?_;refine Tt U U U (Tc 1 U (Tn ?_))) | (refine Wo 31 U ?_;refine Tc 1 U (Tg U U (Tg U U (Tf U U ‹_› (Tn ?_))))) | (refine Wo 33 U ?_;refine Tc 1 U (Tg U U (Tn ?_))) | apply ak | apply ae | apply am));exact ⟨.inl rfl, rfl⟩
 ·rw [if_pos (by simpa using hx)]
  apply ai Tryz.func166 U (Nb U) U U;(repeat' (first | apply ab | refine ah U U ?_ | refine af U U ?_ | refine Wr 0 U U ?_ | (refine Wo 1 U ?_;refine Tc 3 U (Tg U U (Tn ?_))) | refine Wr 2 U U ?_ | (refine Wo 3 U ?_;refine Tf U U U (Tc 1 U (Tn ?_))) | (refine Wo 8 U ?_;refine Tf U U U (Tc 1 U (Tn ?_))) | (refine Wo 13 U ?_;refine Tf U U U (Tc 1 U (Tn ?_))) | (refine Wo 17 U ?_;refine Tf U U U (Tc 1 U (Tn ?_))) | (refine Wo 19 U ?_;refine Tf U U U (Tc 1 U (Tn ?_))) | (refine Wo 27 U ?_;refine Tf U U U (Tc 1 U (Tn ?_))) | (refine Wo 30 U ?_;refine Tt U U U (Tc 1 U (Tn ?_))) | (refine Wo 31 U ?_;refine Tc 1 U (Tg U U (Tg U U (Tt U U ‹_› (Tn ?_))))) | (refine Wo 32 U ?_;refine Tc 3 U (Tg U (aa U U U U ‹_›) ?_) <;> refine Tg U U (Tn ?_)) | apply ae | apply am));exact ⟨.inl rfl, rfl⟩
theorem zH {K : Nat} {v0 : List AV} {r0 : AV} {p : bp} {m n : Int} {ar : List aF} {t el : List ay} {s : List Int} {pk : List Int} {e c u wh fu : Int} {oA tA tv nx : AV} {ov : Bool} {k : Nat} (hk : 1100 <= k) {h : aj} {lo : Nat} {uN : Nat} (hu : pk.length <= uN) (va : AV) : call Tryz.prog (bn K v0 r0) (k + 1) lo (.func 166) [.agg (bY p), .vs 1 (ag pk), .agg (iC e (.vs 1 (ag s)) oA tA c uN wh fu tv ov), .agg (bF (m, .mk 4 n ar t el)), va, nx] h =
  some (.agg (iC 4 (.vs 1 (ag s)) oA tA c uN m fu .nils true), h) := by
 have hst := nP (K := K) (v0 := v0) (r0 := r0) (e := e) (c := c) (u := uN) (wh := wh) (fu := fu) (st := .vs 1 (ag s)) (oA := oA) (tA := tA) (tv := tv) (ov := ov) 4 m (k - 1) h lo;rw [show k - 1 + 1 = k by omega] at hst
 have hge : decide ((uN : Int) >= ((ag pk).length : Int)) = true := decide_eq_true (by rw [bw]; omega);obtain ⟨w, vs, body⟩ := p;apply ai Tryz.func166 U (Nb U) U U;(repeat' (first | apply ab | refine ah U U ?_ | refine af U U ?_ | refine Wr 0 U U ?_ | (refine Wo 1 U ?_;refine Tc 3 U (Tg U U (Tn ?_))) | refine Wr 2 U U ?_ | (refine Wo 3 U ?_;refine Tf U U U (Tc 1 U (Tn ?_))) | (refine Wo 8 U ?_;refine Tf U U U (Tc 1 U (Tn ?_))) | (refine Wo 13 U ?_;refine Tf U U U (Tc 1 U (Tn ?_))) | (refine Wo 17 U ?_;refine Tf U U U (Tc 1 U (Tn ?_))) | (refine Wo 19 U ?_;refine Tt U U U (Tc 1 U (Tn ?_))) | (refine Wo 20 U ?_;refine Tc 5 U (Tt U U ‹_› (Tn ?_))) | (refine Wo 21 U ?_;refine Tc 3 U (Tg U (aa U U U U ‹_›) ?_) <;> refine Tg U U (Tn ?_)) | apply ae | apply am));exact ⟨.inl rfl, rfl⟩
theorem B0 {K : Nat} {v0 : List AV} {r0 : AV} {p : bp} (H : pQ p) (hK : 1000 <= K) {m n : Int} {ar : List aF} {t el : List ay} {s : List Int} (hs : eG p.width.toNat p.vars s) {pk : List Int} {e c u wh fu : Int} {oA tA tv nx : AV} {ov : Bool} {k : Nat} (hk : 1100 <= k) {h : aj} {lo : Nat} (n0 : 0 <= n) (n1 : n < p.vars.length) {uN : Nat} (hu : uN < pk.length) (hu2 : uN < 1000) : call Tryz.prog (bn K v0 r0) (k + 1) lo (.func 166) [.agg (bY p), .vs 1 (ag pk), .agg (iC e (.vs 1 (ag s)) oA tA c uN wh fu tv ov), .agg (bF (m, .mk 4 n ar t el)), .nils, nx] h =
  some (.agg (iC e (.vs 1 (ag (s.set (cz p.vars n 0) (pk.getD uN 0)))) oA tA c (IntKind.i64.wrap (uN + 1)) wh fu tv ov), h) := by
 have hset := xD (K := K) (v0 := v0) (r0 := r0) H hK (op := 4) (ar := ar) (t := t) (el := el) hs n0 n1 (i := 0) (x := pk.getD uN 0) (by omega) (e := e) (c := c) (u := IntKind.i64.wrap (uN + 1)) (wh := wh) (fu := fu) (oA := oA) (tA := tA) (tv := tv) (ov := ov) (k := k - 1) (by omega) (h := h) (lo := lo);rw [show k - 1 + 1 = k by omega] at hset
 have hge : decide ((uN : Int) >= ((ag pk).length : Int)) = false := decide_eq_false (by rw [bw]; omega);have e1 : IntKind.i64.wrap (IntKind.i64.wrap ((uN : Int) + 1) - 1) = uN := by rw [eo (n := (uN : Int) + 1) (by omega) (by omega), eo (by omega) (by omega)]; omega
 have hrow : 0 <= IntKind.i64.wrap (IntKind.i64.wrap ((uN : Int) + 1) - 1) /\ (ag pk)[(IntKind.i64.wrap (IntKind.i64.wrap ((uN : Int) + 1) - 1)).toNat]? = some [.int .i64 (pk.getD uN 0)] := by
  rw [e1];refine ⟨by omega, ?_⟩
  unfold ag;rw [Int.toNat_natCast, List.getElem?_map, List.getD_eq_getElem?_getD, List.getElem?_eq_getElem hu]; rfl
 obtain ⟨w, vs, body⟩ := p;apply ai Tryz.func166 U (Nb U) U U;(repeat' (first | apply ab | refine ah U U ?_ | refine af U U ?_ | refine Wr 0 U U ?_ | (refine Wo 1 U ?_;refine Tc 3 U (Tg U U (Tn ?_))) | refine Wr 2 U U ?_ | (refine Wo 3 U ?_;refine Tf U U U (Tc 1 U (Tn ?_))) | (refine Wo 8 U ?_;refine Tf U U U (Tc 1 U (Tn ?_))) | (refine Wo 13 U ?_;refine Tf U U U (Tc 1 U (Tn ?_))) | (refine Wo 17 U ?_;refine Tf U U U (Tc 1 U (Tn ?_))) | (refine Wo 19 U ?_;refine Tt U U U (Tc 1 U (Tn ?_))) | (refine Wo 20 U ?_;refine Tc 5 U (Tf U U ‹_› (Tn ?_))) | refine Wr 22 U U ?_ | (refine Wo 23 U ?_;refine Tc 2 U (Tf U U U (Tn ?_))) | (refine Wo 25 U ?_;refine Tc 6 U (Tg U U (Tn ?_))) | (refine Wd 26 [0,0,0,0,8,24,0,0,0,256,768,1792,3968,8064,16383,32767] U U (by decide +kernel) ?_;refine Uf U U U (Uf U U U (Uf U U U (Uf U U U (Uf U U U ?_)))) <;> (refine aP U ?_; refine iL (by decide +kernel) U U U U U U ?_) <;> refine Uf U U U (Uf U U U (Uf U U U (Uf U U U (Uf U U U (Uf U U U (Uf U (bq U U U U U ‹_›) U ?_)))))) <;> refine Uf U U U (Uo U (aa U U U U ‹_›) ?_) <;> refine Uo U U (Un ?_)) | apply ak | apply ae | apply am))
 exact ⟨.inl rfl, rfl⟩
theorem B1 {K : Nat} {v0 : List AV} {r0 : AV} {p : bp} (H : pQ p) (hK : 1000 <= K) {m n : Int} {ar : List aF} {t el : List ay} {s : List Int} (hs : eG p.width.toNat p.vars s) {pk : List Int} {e c u wh fu : Int} {oA tA tv nx : AV} {ov : Bool} {k : Nat} (hk : 1100 <= k) {h : aj} {lo : Nat} (n0 : 0 <= n) (n1 : n < p.vars.length) {uN : Nat} (hu : uN < pk.length) (hu2 : uN < 1000) {i : Int} (i0 : 0 <= i) {tA' : AV} {h' : aj} (hz : cellsOf tA' = some [tA']) (hap : append (bn K v0 r0).tab lo h 160 tA (.vs 3 [rU (2, n, i.tmod (aI p.vars n))]) = some (tA', h')) :
  call Tryz.prog (bn K v0 r0) (k + 1) lo (.func 166) [.agg (bY p), .vs 1 (ag pk), .agg (iC e (.vs 1 (ag s)) oA tA c uN wh fu tv ov), .agg (bF (m, .mk 4 n ar t el)), .vs 1 (ag [i]), nx] h =
  some (.agg (iC e (.vs 1 (ag (s.set (cz p.vars n i) (pk.getD uN 0)))) oA tA' c (IntKind.i64.wrap (uN + 1)) wh fu tv ov), h') := by
 have hset := xE (K := K) (v0 := v0) (r0 := r0) H hK (op := 4) (ar := ar) (t := t) (el := el) hs n0 n1 (i := i) (x := pk.getD uN 0) i0 (e := e) (c := c) (u := IntKind.i64.wrap (uN + 1)) (wh := wh) (fu := fu) (oA := oA) (tA := tA) (tv := tv) (ov := ov) (k := k - 1) (by omega) (h := h) (lo := lo) hz hap;rw [show k - 1 + 1 = k by omega] at hset
 have hge : decide ((uN : Int) >= ((ag pk).length : Int)) = false := decide_eq_false (by rw [bw]; omega);have e1 : IntKind.i64.wrap (IntKind.i64.wrap ((uN : Int) + 1) - 1) = uN := by rw [eo (n := (uN : Int) + 1) (by omega) (by omega), eo (by omega) (by omega)]; omega
 have hrow : 0 <= IntKind.i64.wrap (IntKind.i64.wrap ((uN : Int) + 1) - 1) /\ (ag pk)[(IntKind.i64.wrap (IntKind.i64.wrap ((uN : Int) + 1) - 1)).toNat]? = some [.int .i64 (pk.getD uN 0)] := by
  rw [e1];refine ⟨by omega, ?_⟩
  unfold ag;rw [Int.toNat_natCast, List.getElem?_map, List.getD_eq_getElem?_getD, List.getElem?_eq_getElem hu]; rfl
 obtain ⟨w, vs, body⟩ := p;apply ai Tryz.func166 U (Nb U) U U;(repeat' (first | apply ab | refine ah U U ?_ | refine af U U ?_ | refine Wr 0 U U ?_ | (refine Wo 1 U ?_;refine Tc 3 U (Tg U U (Tn ?_))) | refine Wr 2 U U ?_ | (refine Wo 3 U ?_;refine Tf U U U (Tc 1 U (Tn ?_))) | (refine Wo 8 U ?_;refine Tf U U U (Tc 1 U (Tn ?_))) | (refine Wo 13 U ?_;refine Tf U U U (Tc 1 U (Tn ?_))) | (refine Wo 17 U ?_;refine Tf U U U (Tc 1 U (Tn ?_))) | (refine Wo 19 U ?_;refine Tt U U U (Tc 1 U (Tn ?_))) | (refine Wo 20 U ?_;refine Tc 5 U (Tf U U ‹_› (Tn ?_))) | refine Wr 22 U U ?_ | (refine Wo 23 U ?_;refine Tc 2 U (Tt U U U (Tn ?_))) | (refine Wo 24 U ?_;refine Tc 1 U (Tg U U (Tg U U (Tc 1 U (Tn ?_))))) | (refine Wo 25 U ?_;refine Tc 6 U (Tg U U (Tn ?_))) | (refine Wd 26 [0,0,0,0,8,24,0,0,0,256,768,1792,3968,8064,16383,32767] U U (by decide +kernel) ?_;refine Uf U U U (Uf U U U (Uf U U U (Uf U U U (Uf U U U ?_)))) <;> (refine aP U ?_; refine ix (by decide +kernel) U U U U U U ?_) <;> refine Uf U U U (Uf U U U (Uf U U U (Uf U U U (Uf U U U (Uf U U U (Uf U (bq U U U U U ‹_›) U ?_)))))) <;> refine Uf U U U (Uo U (aa U U U U ‹_›) ?_) <;> refine Uo U U (Un ?_)) | apply ak | apply ae | apply am))
 exact ⟨.inl rfl, rfl⟩
theorem vT {K : Nat} {v0 : List AV} {r0 : AV} {lo : Nat} {h : aj} (hlo : lo <= h.length) (E N : List (Int × ay)) (hl : E.length + N.length < 100000) :
  ∃ r tv d, append (bn K v0 r0).tab lo (aQ h 92 (E.map bF)) 89 (bo h 6 (E.map bF)) (.vs 6 (N.map bF)) = some r /\ fm lo r = (tv, h ++ d) /\ te tv (E ++ N) /\ cellsOf tv = some [tv] := by
 obtain ⟨r, tv, d, h1, h2, h3⟩ := DJ (K := K) (v0 := v0) (r0 := r0) h lo hlo E N hl;exact ⟨r, tv, d, h1, h2, h3, h3.cell⟩
theorem FA {K : Nat} {v0 : List AV} {r0 : AV} {p : bp} {m n : Int} {ar : List aF} {t el : List ay} {s : List Int} {pk : List Int} {e c u wh fu : Int} {oA tA tv : AV} {ov : Bool} {k : Nat} (hk : 1100 <= k) {h : aj} {lo : Nat} (hK : 1000 <= K) {x : Int} (hx0 : x = 0)
  (hx : BZ K (.mk 1 n ar t el)) (rest : List (Int × ay)) (hl : (fO (m, .mk 1 n ar t el)).length + rest.length < 100000)
  {tA' : AV} {h1 : aj} (hlo : lo <= h1.length) (hz : cellsOf tA' = some [tA']) (hap : append (bn K v0 r0).tab lo h 160 tA (.vs 3 [rU (0, m, 0)]) = some (tA', h1)) :
  ∃ tv' d, call Tryz.prog (bn K v0 r0) (k + 1) lo (.func 166) [.agg (bY p), .vs 1 (ag pk), .agg (iC e (.vs 1 (ag s)) oA tA c u wh fu tv ov), .agg (bF (m, .mk 1 n ar t el)), .vs 1 (ag [x]), .vs 6 (rest.map bF)] h =
   some (.agg (iC e (.vs 1 (ag s)) oA tA' c u wh fu tv' ov), h1 ++ d) /\ te tv' (fO (m, .mk 1 n ar t el) ++ rest) := by
 subst hx0;obtain ⟨r, tv', d, q1, q2, q3, hz2⟩ := vT (K := K) (v0 := v0) (r0 := r0) (lo := lo) (h := h1) hlo (fO (m, .mk 1 n ar t el)) rest hl;refine ⟨tv', d, ?_, q3⟩;have hev := jL (K := K) (v0 := v0) (r0 := r0) (e := e) (c := c) (u := u) (wh := wh) (fu := fu) (st := .vs 1 (ag s)) (oA := oA) (tv := tv) (ov := ov) (0, m, 0) (k - 1) hz hap;have hel := uD (K := K) (v0 := v0) (r0 := r0) (m, .mk 1 n ar t el) hx (k - 1) (by omega) h1 lo hlo;have ho := AK (K := K) (v0 := v0) (r0 := r0) hK false k (by omega) h h.length;rw [show k - 1 + 1 = k by omega] at hev hel
 clear hap q3;generalize fO (m, .mk 1 n ar t el) = E at *;obtain ⟨w, vs, body⟩ := p;apply ai Tryz.func166 U (Nb U) U U;(repeat' (first | apply ab | refine ah U U ?_ | refine af U U ?_ | refine Wr 0 U U ?_ | (refine Wo 1 U ?_;refine Tc 3 U (Tg U U (Tn ?_))) | refine Wr 2 U U ?_ | (refine Wo 3 U ?_;refine Tf U U U (Tc 1 U (Tn ?_))) | (refine Wo 8 U ?_;refine Tt U U U (Tc 1 U (Tn ?_))) | (refine Wd 9 [0,0,2,0,8,24,56,120,255,511] U U (by decide +kernel) ?_;refine Uf U U U (Uf U U U (Uf U U U (Uf U U U (Uf U U U (Uf U U U ?_))))) <;> (refine aP U ?_; refine iL (by decide +kernel) U U U U U U ?_) <;> refine Uf U (aa U U U U ‹_›) U ?_ <;> refine Uo U (aa U U U U ‹_›) ?_ <;> refine Uo U U (Un ?_)) | (refine Wo 10 U ?_;refine Tc 1 U (Tg U (aa U U U U ‹_›) ?_) <;> refine Tc 1 U (Tg U (dN U U U U U ‹_› U ‹_›) ?_) <;> refine Tc 1 U (Tg U (gx U U U U ‹_› U ⟨U, Nb U⟩) ?_) <;> refine Tn ?_) | (refine Wo 11 U ?_;refine Tc 1 U (Tg U U (Tg U U (Tf U U U (Tn ?_))))) | (refine Wo 33 U ?_;refine Tc 1 U (Tg U U (Tn ?_))) | apply ak | apply ae | apply am));exact ⟨.inl rfl, rfl⟩
theorem FB {K : Nat} {v0 : List AV} {r0 : AV} {p : bp} {m n : Int} {ar : List aF} {t el : List ay} {s : List Int} {pk : List Int} {e c u wh fu : Int} {oA tA tv : AV} {ov : Bool} {k : Nat} (hk : 1100 <= k) {h : aj} {lo : Nat} (hK : 1000 <= K) {x : Int} (hx0 : x ≠ 0)
  (hx : BZ K (.mk 1 n ar t el)) (rest : List (Int × ay)) (hl : (fO (m, .mk 1 n ar t el)).length + rest.length < 100000) (hl2 : (eq (m, .mk 1 n ar t el)).length + rest.length < 100000)
  {tA' : AV} {h1 : aj} (hlo : lo <= h1.length) (hz : cellsOf tA' = some [tA']) (hap : append (bn K v0 r0).tab lo h 160 tA (.vs 3 [rU (0, m, 1)]) = some (tA', h1)) :
  ∃ tv' d, call Tryz.prog (bn K v0 r0) (k + 1) lo (.func 166) [.agg (bY p), .vs 1 (ag pk), .agg (iC e (.vs 1 (ag s)) oA tA c u wh fu tv ov), .agg (bF (m, .mk 1 n ar t el)), .vs 1 (ag [x]), .vs 6 (rest.map bF)] h =
   some (.agg (iC e (.vs 1 (ag s)) oA tA' c u wh fu tv' ov), h1 ++ d) /\ te tv' (eq (m, .mk 1 n ar t el) ++ rest) := by
 obtain ⟨r, tv1, d1, q1, q2, q3, hz1⟩ := vT (K := K) (v0 := v0) (r0 := r0) (lo := lo) (h := h1) hlo (fO (m, .mk 1 n ar t el)) rest hl;obtain ⟨r2, tv2, d2, p1, p2, p3, hz2⟩ := vT (K := K) (v0 := v0) (r0 := r0) (lo := lo) (h := h1 ++ d1) (by rw [List.length_append]; omega) (eq (m, .mk 1 n ar t el)) rest hl2;refine ⟨tv2, d1 ++ d2, ?_, p3⟩;rw [<- List.append_assoc];have hev := jL (K := K) (v0 := v0) (r0 := r0) (e := e) (c := c) (u := u) (wh := wh) (fu := fu) (st := .vs 1 (ag s)) (oA := oA) (tv := tv) (ov := ov) (0, m, 1) (k - 1) hz hap;have hel := uD (K := K) (v0 := v0) (r0 := r0) (m, .mk 1 n ar t el) hx (k - 1) (by omega) h1 lo hlo;have hth := uC (K := K) (v0 := v0) (r0 := r0) (m, .mk 1 n ar t el) hx (k - 1) (by omega) (h1 ++ d1) lo (by rw [List.length_append]; omega);have ho := AK (K := K) (v0 := v0) (r0 := r0) hK true k (by omega) h h.length;rw [show k - 1 + 1 = k by omega] at hev hel hth
 have hne : (x != 0) = true := by simpa using hx0
 clear hap q3 p3;generalize fO (m, .mk 1 n ar t el) = E at *;generalize eq (m, .mk 1 n ar t el) = T at *;obtain ⟨w, vs, body⟩ := p;apply ai Tryz.func166 U (Nb U) U U;(repeat' (first | apply ab | refine ah U U ?_ | refine af U U ?_ | refine Wr 0 U U ?_ | (refine Wo 1 U ?_;refine Tc 3 U (Tg U U (Tn ?_))) | refine Wr 2 U U ?_ | (refine Wo 3 U ?_;refine Tf U U U (Tc 1 U (Tn ?_))) | (refine Wo 8 U ?_;refine Tt U U U (Tc 1 U (Tn ?_))) | (refine Wd 9 [0,0,2,0,8,24,56,120,255,511] U U (by decide +kernel) ?_;refine Uf U U U (Uf U U U (Uf U U U (Uf U U U (Uf U U U (Uf U U U ?_))))) <;> (refine aP U ?_; refine ix (by decide +kernel) U U U U U ‹_› ?_) <;> refine Uf U (aa U U U U ‹_›) U ?_ <;> refine Uo U (aa U U U U ‹_›) ?_ <;> refine Uo U U (Un ?_)) | (refine Wo 10 U ?_;refine Tc 1 U (Tg U (aa U U U U ‹_›) ?_) <;> refine Tc 1 U (Tg U (dN U U U U U ‹_› U ‹_›) ?_) <;> refine Tc 1 U (Tg U (gx U U U U ‹_› U ⟨U, Nb U⟩) ?_) <;> refine Tn ?_) | (refine Wo 11 U ?_;refine Tc 1 U (Tg U U (Tg U U (Tt U U ‹_› (Tn ?_))))) | (refine Wo 12 U ?_;refine Tc 1 U (Tg U (aa U U U U ‹_›) ?_) <;> refine Tc 1 U (Tg U (dN U U U U U ‹_› U ‹_›) ?_) <;> refine Tc 1 U (Tg U (gx U U U U ‹_› U ⟨U, Nb U⟩) ?_) <;> refine Tn ?_) | (refine Wo 33 U ?_;refine Tc 1 U (Tg U U (Tn ?_))) | apply ae | apply am));exact ⟨.inl rfl, rfl⟩
theorem FC {K : Nat} {v0 : List AV} {r0 : AV} {p : bp} {m n : Int} {ar : List aF} {t el : List ay} {s : List Int} {pk : List Int} {e c u wh fu : Int} {oA tA tv nx : AV} {ov : Bool} {k : Nat} (hk : 1100 <= k) {h : aj} {lo : Nat} (hK : 1000 <= K) {x : Int} (hx0 : x = 0)
  {tA' : AV} {h1 : aj} (hz : cellsOf tA' = some [tA']) (hap : append (bn K v0 r0).tab lo h 160 tA (.vs 3 [rU (0, m, 0)]) = some (tA', h1)) :
  call Tryz.prog (bn K v0 r0) (k + 1) lo (.func 166) [.agg (bY p), .vs 1 (ag pk), .agg (iC e (.vs 1 (ag s)) oA tA c u wh fu tv ov), .agg (bF (m, .mk 2 n ar t el)), .vs 1 (ag [x]), nx] h =
   some (.agg (iC e (.vs 1 (ag s)) oA tA' c u wh fu tv ov), h1) := by
 subst hx0;have hev := jL (K := K) (v0 := v0) (r0 := r0) (e := e) (c := c) (u := u) (wh := wh) (fu := fu) (st := .vs 1 (ag s)) (oA := oA) (tv := tv) (ov := ov) (0, m, 0) (k - 1) hz hap;have ho := AK (K := K) (v0 := v0) (r0 := r0) hK false k (by omega) h h.length;rw [show k - 1 + 1 = k by omega] at hev
 obtain ⟨w, vs, body⟩ := p;apply ai Tryz.func166 U (Nb U) U U;(repeat' (first | apply ab | refine ah U U ?_ | refine af U U ?_ | refine Wr 0 U U ?_ | (refine Wo 1 U ?_;refine Tc 3 U (Tg U U (Tn ?_))) | refine Wr 2 U U ?_ | (refine Wo 3 U ?_;refine Tf U U U (Tc 1 U (Tn ?_))) | (refine Wo 8 U ?_;refine Tf U U U (Tc 1 U (Tn ?_))) | (refine Wo 13 U ?_;refine Tt U U U (Tc 1 U (Tn ?_))) | (refine Wd 14 [0,0,2,0,8,24,56,120,255,511] U U (by decide +kernel) ?_;refine Uf U U U (Uf U U U (Uf U U U (Uf U U U (Uf U U U (Uf U U U ?_))))) <;> (refine aP U ?_; refine iL (by decide +kernel) U U U U U U ?_) <;> refine Uf U (aa U U U U ‹_›) U ?_ <;> refine Uo U (aa U U U U ‹_›) ?_ <;> refine Uo U U (Un ?_)) | (refine Wo 15 U ?_;refine Tc 1 U (Tg U U (Tg U U (Tf U U U (Tn ?_))))) | (refine Wo 33 U ?_;refine Tc 1 U (Tg U U (Tn ?_))) | apply ak | apply ae | apply am));exact ⟨.inl rfl, rfl⟩
theorem FD {K : Nat} {v0 : List AV} {r0 : AV} (h : aj) (lo : Nat) (hlo : lo <= h.length) (its : List (Int × ay)) (x : Int × ay) (hl : its.length < 100000) : append (bn K v0 r0).tab lo (aQ h 92 (its.map bF)) 89 (bo h 6 (its.map bF)) (.vs 6 [bF x]) = some (bo h 6 ((its ++ [x]).map bF), aQ h 92 ((its ++ [x]).map bF)) :=
 r9 h lo hlo its x hl
theorem FE {K : Nat} {v0 : List AV} {r0 : AV} {p : bp} {m n : Int} {ar : List aF} {t el : List ay} {s : List Int} {pk : List Int} {e c u wh fu : Int} {oA tA tv : AV} {ov : Bool} {k : Nat} (hk : 1100 <= k) {h : aj} {lo : Nat} (hK : 1000 <= K) {x : Int} (hx0 : x ≠ 0)
  (hx : BZ K (.mk 2 n ar t el)) (rest : List (Int × ay)) (hl : (eq (m, .mk 2 n ar t el)).length + rest.length + 1 < 100000)
  {tA' : AV} {h1 : aj} (hlo : lo <= h1.length) (hz : cellsOf tA' = some [tA']) (hap : append (bn K v0 r0).tab lo h 160 tA (.vs 3 [rU (0, m, 1)]) = some (tA', h1)) :
  ∃ tv' d, call Tryz.prog (bn K v0 r0) (k + 1) lo (.func 166) [.agg (bY p), .vs 1 (ag pk), .agg (iC e (.vs 1 (ag s)) oA tA c u wh fu tv ov), .agg (bF (m, .mk 2 n ar t el)), .vs 1 (ag [x]), .vs 6 (rest.map bF)] h =
   some (.agg (iC e (.vs 1 (ag s)) oA tA' c u wh fu tv' ov), h1 ++ d) /\ te tv' (eq (m, .mk 2 n ar t el) ++ [(m, .mk 2 n ar t el)] ++ rest) := by
 have hap2 := FD (K := K) (v0 := v0) (r0 := r0) h1 lo hlo (eq (m, .mk 2 n ar t el)) (m, .mk 2 n ar t el) (by omega);obtain ⟨r2, tv2, d2, p1, p2, p3, hz2⟩ := vT (K := K) (v0 := v0) (r0 := r0) (lo := lo) (h := h1) hlo (eq (m, .mk 2 n ar t el) ++ [(m, .mk 2 n ar t el)]) rest (by rw [List.length_append]; simp; omega);refine ⟨tv2, d2, ?_, p3⟩;have hev := jL (K := K) (v0 := v0) (r0 := r0) (e := e) (c := c) (u := u) (wh := wh) (fu := fu) (st := .vs 1 (ag s)) (oA := oA) (tv := tv) (ov := ov) (0, m, 1) (k - 1) hz hap;have hth := uC (K := K) (v0 := v0) (r0 := r0) (m, .mk 2 n ar t el) hx (k - 1) (by omega) h1 h1.length (Nat.le_refl _);have ho := AK (K := K) (v0 := v0) (r0 := r0) hK true k (by omega) h h.length;rw [show k - 1 + 1 = k by omega] at hev hth
 have hne : (x != 0) = true := by simpa using hx0
 clear hap p3;generalize eq (m, .mk 2 n ar t el) = T at *;obtain ⟨w, vs, body⟩ := p;cases T with
 | nil =>
  apply ai Tryz.func166 U (Nb U) U U;(repeat' (first | apply ab | refine ah U U ?_ | refine af U U ?_ | refine Wr 0 U U ?_ | (refine Wo 1 U ?_;refine Tc 3 U (Tg U U (Tn ?_))) | refine Wr 2 U U ?_ | (refine Wo 3 U ?_;refine Tf U U U (Tc 1 U (Tn ?_))) | (refine Wo 8 U ?_;refine Tf U U U (Tc 1 U (Tn ?_))) | (refine Wo 13 U ?_;refine Tt U U U (Tc 1 U (Tn ?_))) | (refine Wd 14 [0,0,2,0,8,24,56,120,255,511] U U (by decide +kernel) ?_;refine Uf U U U (Uf U U U (Uf U U U (Uf U U U (Uf U U U (Uf U U U ?_))))) <;> (refine aP U ?_; refine ix (by decide +kernel) U U U U U ‹_› ?_) <;> refine Uf U (aa U U U U ‹_›) U ?_ <;> refine Uo U (aa U U U U ‹_›) ?_ <;> refine Uo U U (Un ?_)) | (refine Wo 15 U ?_;refine Tc 1 U (Tg U U (Tg U U (Tt U U ‹_› (Tn ?_))))) | (refine oH (id := 16) (bs := [0, 1, 0, 4, 15, 31, 63, 127, 255]) U U (by decide +kernel) U U (by decide +kernel) ?_ <;> refine Uf U U U (Uf U (aa U U U U ‹_›) U ?_) <;> refine Uf U U U (Uf U U U (Uo U (aN U U U U U ‹_›) ?_)) <;> refine Uo U U (Uo U (dN U U U U U ‹_› U ‹_›) ?_) <;> refine Uo U U (Uo U (gx U U U U ‹_› U ⟨U, Nb U⟩) ?_) <;> refine Un ?_) | (refine Wo 33 U ?_;refine Tc 1 U (Tg U U (Tn ?_))) | apply ae | apply am));exact ⟨.inl rfl, rfl⟩
 | cons t0 T =>
  apply ai Tryz.func166 U (Nb U) U U;(repeat' (first | apply ab | refine ah U U ?_ | refine af U U ?_ | refine Wr 0 U U ?_ | (refine Wo 1 U ?_;refine Tc 3 U (Tg U U (Tn ?_))) | refine Wr 2 U U ?_ | (refine Wo 3 U ?_;refine Tf U U U (Tc 1 U (Tn ?_))) | (refine Wo 8 U ?_;refine Tf U U U (Tc 1 U (Tn ?_))) | (refine Wo 13 U ?_;refine Tt U U U (Tc 1 U (Tn ?_))) | (refine Wd 14 [0,0,2,0,8,24,56,120,255,511] U U (by decide +kernel) ?_;refine Uf U U U (Uf U U U (Uf U U U (Uf U U U (Uf U U U (Uf U U U ?_))))) <;> (refine aP U ?_; refine ix (by decide +kernel) U U U U U ‹_› ?_) <;> refine Uf U (aa U U U U ‹_›) U ?_ <;> refine Uo U (aa U U U U ‹_›) ?_ <;> refine Uo U U (Un ?_)) | (refine Wo 15 U ?_;refine Tc 1 U (Tg U U (Tg U U (Tt U U ‹_› (Tn ?_))))) | (refine oH (id := 16) (bs := [0, 1, 0, 4, 15, 31, 63, 127, 255]) U U (by decide +kernel) U U (by decide +kernel) ?_ <;> refine Uf U U U ?_ <;> (refine aP U ?_; refine ew (by decide +kernel) U (aa U U U U ‹_›) U U U ?_) <;> refine Uf U U U (Uf U U U (Uo U (aN U U U U U ‹_›) ?_)) <;> refine Uo U U (Uo U (dN U U U U U ‹_› U ‹_›) ?_) <;> refine Uo U U (Uo U (gx U U U U ‹_› U ⟨U, Nb U⟩) ?_) <;> refine Un ?_) | (refine Wo 33 U ?_;refine Tc 1 U (Tg U U (Tn ?_))) | apply ae | apply am));exact ⟨.inl rfl, rfl⟩
structure Mc where
 e : Int
 st : List Int
 outs : List Ot
 u : Nat
 fuel : Nat
 todo : List (Int × ay)
 over : Bool
def kz (vs : List bk) (pk : List Int) (m : Mc) (x : Int × ay) (V : List Int) : Mc :=
 match x.2 with
 | .mk op nn a _ _ =>
  if op = 0 then { m with st := m.st.set (cz vs nn (if 1 < a.length then V.getD 0 0 else 0)) (V.getD (a.length - 1) 0) }
  else if op = 1 then { m with todo := (if V.getD 0 0 ≠ 0 then eq x else fO x) ++ m.todo }
  else if op = 2 then (if V.getD 0 0 ≠ 0 then { m with todo := eq x ++ [x] ++ m.todo } else m)
  else if op = 3 then { m with outs := m.outs ++ [(nn, V.getD 0 0)] }
  else if op = 4 then (if pk.length <= m.u then { m with e := 4, todo := [], over := true } else { m with u := m.u + 1, st := m.st.set (cz vs nn (if 0 < a.length then V.getD 0 0 else 0)) (pk.getD m.u 0) })
  else if V.getD 0 0 = 0 then { m with e := (if op = 5 then 1 else 2), todo := [], over := true } else m
def eJ (w : Nat) (vs : List bk) (pk : List Int) (m : Mc) : Mc :=
 match m.todo with
 | [] => m
 | x :: rest => if m.fuel = 0 then { m with e := 3, todo := [], over := true } else kz vs pk { m with fuel := m.fuel - 1, todo := rest } x (match x.2 with | .mk _ _ a _ _ => a.map (aY w vs [m.st]))
def B2 (h : aj) (lo B : Nat) (m : Mc) (a : List AV) : Prop :=
 ∃ oA tA c wh tv trs, a = iC m.e (.vs 1 (ag m.st)) oA tA c m.u wh m.fuel tv m.over /\ ff h lo 218 2 oA (cj m.outs) /\ ff h lo 224 3 tA (cN trs) /\ (m.over = false -> te tv m.todo) /\ trs.length <= B
theorem DO {w : Int} {vs : List bk} {op n : Int} {a : List aF} {t e : List ay} (h : dT w vs (.mk op n a t e) = true) :
  (op = 0 /\ 0 <= n /\ n < vs.length /\ ((∃ x, a = [x]) \/ ∃ x y, a = [x, y])) \/ (op = 1 /\ ∃ x, a = [x]) \/ (op = 2 /\ (∃ x, a = [x]) /\ e = []) \/ (op = 3 /\ ∃ x, a = [x]) \/ (op = 4 /\ 0 <= n /\ n < vs.length /\ (a = [] \/ ∃ x, a = [x])) \/ ((op = 5 \/ op = 6) /\ ∃ x, a = [x]) := by
 rw [dT] at h;simp only [Bool.and_eq_true] at h;obtain ⟨⟨⟨hh, _⟩, _⟩, _⟩ := h;unfold iP at hh;dsimp only at hh
 split at hh
 ·rename_i o
  simp only [Bool.and_eq_true] at hh;have hv := hh.2;unfold cw at hv;simp only [Bool.and_eq_true, decide_eq_true_eq, beq_iff_eq] at hv;obtain ⟨⟨q1, q2⟩, q3⟩ := hv;refine .inl ⟨o, q1, q2, ?_⟩;unfold fe at q3
  split at q3
  ·exact .inr (G8 (by rw [eo (by omega) (by omega)] at q3; omega))
  ·exact .inl (vP (by rw [eo (by omega) (by omega)] at q3; omega))
 split at hh
 ·rename_i o
  simp only [Bool.and_eq_true, beq_iff_eq] at hh;exact .inr (.inl ⟨o, vP (by omega)⟩)
 split at hh
 ·rename_i o
  simp only [Bool.and_eq_true, beq_iff_eq] at hh;exact .inr (.inr (.inl ⟨o, vP (by omega), List.length_eq_zero_iff.1 (by omega)⟩))
 split at hh
 ·rename_i o
  simp only [Bool.and_eq_true, beq_iff_eq] at hh;exact .inr (.inr (.inr (.inl ⟨o, vP (by omega)⟩)))
 split at hh
 ·rename_i o
  simp only [Bool.and_eq_true] at hh;have hv := hh.2;unfold cw at hv;simp only [Bool.and_eq_true, decide_eq_true_eq, beq_iff_eq] at hv;obtain ⟨⟨q1, q2⟩, q3⟩ := hv;refine .inr (.inr (.inr (.inr (.inl ⟨o, q1, q2, ?_⟩))));unfold fe at q3
  split at q3
  ·exact .inr (vP (by rw [eo (by omega) (by omega)] at q3; omega))
  ·exact .inl (List.length_eq_zero_iff.1 (by rw [eo (by omega) (by omega)] at q3; omega))
 split at hh
 ·rename_i o
  simp only [Bool.and_eq_true, beq_iff_eq] at hh;exact .inr (.inr (.inr (.inr (.inr ⟨o, vP (by omega)⟩))))
 ·cases hh
def me (p : bp) (K : Nat) (x : Int × ay) : Prop := dT p.width p.vars x.2 = true /\ kP x.2 /\ jw x.2 <= 600 /\ iy x.2 + 200 <= K
theorem iY {p : bp} {K : Nat} : ∀ (l : List ay) (n : Int), ce p.width p.vars l = true -> eQ l -> bu l <= 600 -> bA l + 200 <= K -> ∀ x, x ∈ bj l n -> me p K x
 | [], n, _, _, _, _, x, hx => by rw [bj] at hx; cases hx
 | s :: l, n, h1, h2, h3, h4, x, hx => by
  rw [ce, Bool.and_eq_true] at h1;rw [eQ] at h2;rw [bu] at h3;rw [bA] at h4;rw [bj] at hx;rcases List.mem_cons.1 hx with rfl | hx
  ·exact ⟨h1.1, h2.1, by show jw s <= 600; omega, by show iy s + 200 <= K; omega⟩
  ·exact iY l _ h1.2 h2.2 (by omega) (by omega) x hx
theorem me.sub {p : bp} {K : Nat} {x : Int × ay} (h : me p K x) : (∀ y, y ∈ eq x -> me p K y) /\ (∀ y, y ∈ fO x -> me p K y) /\ (eq x).length <= 600 /\ (fO x).length <= 600 /\ BZ K x.2 := by
 obtain ⟨n, op, nn, a, t, e⟩ := x;obtain ⟨h1, h2, h3, h4⟩ := h;dsimp only at h1 h2 h3 h4;rw [dT] at h1;simp only [Bool.and_eq_true] at h1;obtain ⟨⟨⟨_, ht⟩, he⟩, _⟩ := h1;rw [kP] at h2;obtain ⟨_, ⟨ht1, ht2⟩, he1, he2⟩ := h2;rw [jw] at h3;rw [iy] at h4;have l1 := iB t;have l2 := iB e;refine ⟨iY t _ ht ht2 (by omega) (by omega), iY e _ he he2 (by omega) (by omega), ?_, ?_, ?_⟩
 ·unfold eq; rw [f9]; omega
 ·unfold fO; rw [f9]; omega
 ·exact ⟨by omega, by omega, by omega, ht2, he2⟩
theorem ff.cell {h : aj} {lo T sz : Nat} {a : AV} {xs : List (List AV)} (o : ff h lo T sz a xs) : cellsOf a = some [a] := by
 rcases o with ⟨rfl, _⟩ | ⟨id, rfl, _⟩ <;> rfl
theorem oY {p : bp} (H : pQ p) {op n : Int} {a : List aF} {t e : List ay} (h : dT p.width p.vars (.mk op n a t e) = true) : ∀ x, x ∈ a -> df p.width.toNat p.vars 1 x = true := fun x hx => by
 rw [dT] at h;simp only [Bool.and_eq_true] at h;have := List.all_eq_true.1 h.2 x hx;unfold ks at this;simp only [Bool.and_eq_true] at this;rw [H.w]; exact this.2
theorem FF {K : Nat} {v0 : List AV} {r0 : AV} {p : bp} (H : pQ p) (hK : 1000 <= K) {pk : List Int} (m : Mc) (x : Int × ay) (hx : me p K x) (hst : eG p.width.toNat p.vars m.st) (hov : m.over = false) (hu : m.u < 900) (hto : m.todo.length <= 60000) (hou : m.outs.length <= 900)
  {k : Nat} (hk : 1100 <= k) {h : aj} {lo B : Nat} (hlo : lo <= h.length) {oA tA : AV} {c wh : Int} {trs : List vS} (ho : ff h lo 218 2 oA (cj m.outs)) (ht : ff h lo 224 3 tA (cN trs)) (hB : trs.length <= B) (hB2 : B <= 900000)
  (V : List Int) (hV : V = (match x.2 with | .mk _ _ a _ _ => a.map (aY p.width.toNat p.vars [m.st]))) :
  ∃ a' h', call Tryz.prog (bn K v0 r0) (k + 1) lo (.func 166) [.agg (bY p), .vs 1 (ag pk), .agg (iC m.e (.vs 1 (ag m.st)) oA tA c m.u wh m.fuel (.vs 6 (m.todo.map bF)) false), .agg (bF x), bg 1 (ag V), .vs 6 (m.todo.map bF)] h =
   some (.agg a', h') /\ B2 h' lo (B + 1) (kz p.vars pk m x V) a' /\ lo <= h'.length := by
 obtain ⟨hsub1, hsub2, hl1, hl2, hsm⟩ := hx.sub;obtain ⟨n, op, nn, a, t, el⟩ := x;have hrow := hx.1;dsimp only at hrow hV hsm;have hform := oY H hrow;have hval : ∀ e, e ∈ a -> 0 <= aY p.width.toNat p.vars [m.st] e := fun e he => (vQ H.hd (k := 1) (S := [m.st]) (by simpa using hst) e (hform e he)).1
 have told : ∀ e3 : vS, ∃ tA' h1, append (bn K v0 r0).tab lo h 160 tA (.vs 3 [rU e3]) = some (tA', h1) /\ ff h1 lo 224 3 tA' (cN (trs ++ [e3])) /\ ff h1 lo 218 2 oA (cj m.outs) /\ lo <= h1.length /\ cellsOf tA' = some [tA'] := fun e3 => by
  obtain ⟨tA', h1, q1, q2, q3⟩ := DI (K := K) (v0 := v0) (r0 := r0) hlo ht [e3] (by simp; omega);exact ⟨tA', h1, q1, q2, ho.keep q3 (by decide), Nat.le_trans hlo q3.len, q2.cell⟩
 have tvS : te (.vs 6 (m.todo.map bF)) m.todo := .inl rfl;have len1e : ∀ e3 : vS, (trs ++ [e3]).length <= B + 1 := fun e3 => by simp; omega
 rcases DO hrow with ⟨rfl, n0, n1, ha⟩ | ⟨rfl, e0, rfl⟩ | ⟨rfl, ⟨e0, rfl⟩, _⟩ | ⟨rfl, e0, rfl⟩ | ⟨rfl, n0, n1, ha⟩ | ⟨hop, e0, rfl⟩
 ·rcases ha with ⟨e0, rfl⟩ | ⟨e0, e1, rfl⟩
  ·subst hV
   exact ⟨_, _, DK (K := K) (v0 := v0) (r0 := r0) H hK hst hk n0 n1 _, ⟨oA, tA, c, wh, _, trs, by rw [<- hov]; rfl, ho, ht, fun _ => tvS, by omega⟩, hlo⟩
  ·subst hV
   obtain ⟨tA', h1, q1, q2, q3, q4, q5⟩ := told (2, nn, (aY p.width.toNat p.vars [m.st] e0).tmod (aI p.vars nn));exact ⟨_, _, DL (K := K) (v0 := v0) (r0 := r0) H hK hst hk n0 n1 (hval e0 (by simp)) _ q5 q1, ⟨oA, tA', c, wh, _, _, by rw [<- hov]; rfl, q3, q2, fun _ => tvS, len1e _⟩, q4⟩
 ·subst hV
  by_cases hz : aY p.width.toNat p.vars [m.st] e0 = 0
  ·obtain ⟨tA', h1, q1, q2, q3, q4, q5⟩ := told (0, n, 0)
   obtain ⟨tv', d, w1, w2⟩ := FA (K := K) (v0 := v0) (r0 := r0) (p := p) (m := n) (n := nn) (ar := [e0]) (t := t) (el := el) (s := m.st) (pk := pk) (e := m.e) (c := c) (u := m.u) (wh := wh) (fu := m.fuel) (oA := oA) (tA := tA) (tv := .vs 6 (m.todo.map bF)) (ov := false) hk hK hz hsm m.todo (by omega) q4 q5 q1;have e1 : kz p.vars pk m (n, .mk 1 nn [e0] t el) ([e0].map (aY p.width.toNat p.vars [m.st])) = { m with todo := fO (n, .mk 1 nn [e0] t el) ++ m.todo } := by
    show { m with todo := (if aY p.width.toNat p.vars [m.st] e0 ≠ 0 then eq (n, .mk 1 nn [e0] t el) else fO (n, .mk 1 nn [e0] t el)) ++ m.todo } = _;rw [if_neg (by simpa using hz)]
   rw [e1];exact ⟨_, _, w1, ⟨oA, tA', c, wh, tv', _, by rw [<- hov], q3.pre, q2.pre, fun _ => w2, len1e _⟩, by rw [List.length_append]; omega⟩
  ·obtain ⟨tA', h1, q1, q2, q3, q4, q5⟩ := told (0, n, 1)
   obtain ⟨tv', d, w1, w2⟩ := FB (K := K) (v0 := v0) (r0 := r0) (p := p) (m := n) (n := nn) (ar := [e0]) (t := t) (el := el) (s := m.st) (pk := pk) (e := m.e) (c := c) (u := m.u) (wh := wh) (fu := m.fuel) (oA := oA) (tA := tA) (tv := .vs 6 (m.todo.map bF)) (ov := false) hk hK hz hsm m.todo (by omega) (by omega) q4 q5 q1;have e1 : kz p.vars pk m (n, .mk 1 nn [e0] t el) ([e0].map (aY p.width.toNat p.vars [m.st])) = { m with todo := eq (n, .mk 1 nn [e0] t el) ++ m.todo } := by
    show { m with todo := (if aY p.width.toNat p.vars [m.st] e0 ≠ 0 then eq (n, .mk 1 nn [e0] t el) else fO (n, .mk 1 nn [e0] t el)) ++ m.todo } = _;rw [if_pos hz]
   rw [e1];exact ⟨_, _, w1, ⟨oA, tA', c, wh, tv', _, by rw [<- hov], q3.pre, q2.pre, fun _ => w2, len1e _⟩, by rw [List.length_append]; omega⟩
 ·subst hV
  by_cases hz : aY p.width.toNat p.vars [m.st] e0 = 0
  ·obtain ⟨tA', h1, q1, q2, q3, q4, q5⟩ := told (0, n, 0)
   have w1 := FC (K := K) (v0 := v0) (r0 := r0) (p := p) (m := n) (n := nn) (ar := [e0]) (t := t) (el := el) (s := m.st) (pk := pk) (e := m.e) (c := c) (u := m.u) (wh := wh) (fu := m.fuel) (oA := oA) (tA := tA) (tv := .vs 6 (m.todo.map bF)) (nx := .vs 6 (m.todo.map bF)) (ov := false) hk hK hz q5 q1;have e1 : kz p.vars pk m (n, .mk 2 nn [e0] t el) ([e0].map (aY p.width.toNat p.vars [m.st])) = m := by
    show (if aY p.width.toNat p.vars [m.st] e0 ≠ 0 then _ else m) = _;rw [if_neg (by simpa using hz)]
   rw [e1];exact ⟨_, _, w1, ⟨oA, tA', c, wh, _, _, by rw [hov], q3, q2, fun _ => tvS, len1e _⟩, q4⟩
  ·obtain ⟨tA', h1, q1, q2, q3, q4, q5⟩ := told (0, n, 1)
   obtain ⟨tv', d, w1, w2⟩ := FE (K := K) (v0 := v0) (r0 := r0) (p := p) (m := n) (n := nn) (ar := [e0]) (t := t) (el := el) (s := m.st) (pk := pk) (e := m.e) (c := c) (u := m.u) (wh := wh) (fu := m.fuel) (oA := oA) (tA := tA) (tv := .vs 6 (m.todo.map bF)) (ov := false) hk hK hz hsm m.todo (by omega) q4 q5 q1;have e1 : kz p.vars pk m (n, .mk 2 nn [e0] t el) ([e0].map (aY p.width.toNat p.vars [m.st])) = { m with todo := eq (n, .mk 2 nn [e0] t el) ++ [(n, .mk 2 nn [e0] t el)] ++ m.todo } := by
    show (if aY p.width.toNat p.vars [m.st] e0 ≠ 0 then _ else m) = _;rw [if_pos hz]
   rw [e1];exact ⟨_, _, w1, ⟨oA, tA', c, wh, tv', _, by rw [<- hov], q3.pre, q2.pre, fun _ => w2, len1e _⟩, by rw [List.length_append]; omega⟩
 ·subst hV
  obtain ⟨oA', h1, q1, q2, q3⟩ := nO (tab := ba.tab) (t := 159) (T := 218) rfl rfl (by decide) hlo ho (cj [(nn, aY p.width.toNat p.vars [m.st] e0)]) (fun r hr => (ll _ r hr).1) (by rw [eI, eI]; show (m.outs.length + 1) * 16 <= _; simp only [ca]; omega) (by rw [eI, eI]; simp only [ca, List.length_cons, List.length_nil]; omega);have e2 : cj m.outs ++ cj [(nn, aY p.width.toNat p.vars [m.st] e0)] = cj (m.outs ++ [(nn, aY p.width.toNat p.vars [m.st] e0)]) := by simp [cj]
  rw [e2] at q2;exact ⟨_, _, Fz (K := K) (v0 := v0) (r0 := r0) hk _ q2.cell q1, ⟨oA', tA, c, wh, _, trs, by rw [<- hov]; rfl, q2, ht.keep q3 (by decide), fun _ => tvS, by omega⟩, Nat.le_trans hlo q3.len⟩
 ·by_cases hpk : pk.length <= m.u
  ·have e1 : kz p.vars pk m (n, .mk 4 nn a t el) V = { m with e := 4, todo := [], over := true } := by
    show (if pk.length <= m.u then _ else _) = _;rw [if_pos hpk]
   rw [e1];exact ⟨_, _, zH (K := K) (v0 := v0) (r0 := r0) (u := 0) hk hpk _, ⟨oA, tA, c, n, _, trs, rfl, ho, ht, fun e => (by cases e), by omega⟩, hlo⟩
  ·have e1 : kz p.vars pk m (n, .mk 4 nn a t el) V = { m with u := m.u + 1, st := m.st.set (cz p.vars nn (if 0 < a.length then V.getD 0 0 else 0)) (pk.getD m.u 0) } := by
    show (if pk.length <= m.u then _ else _) = _;rw [if_neg hpk]
   rw [e1];have hw : IntKind.i64.wrap ((m.u : Int) + 1) = ((m.u + 1 : Nat) : Int) := by rw [eo (by omega) (by omega)]; omega
   rcases ha with rfl | ⟨e0, rfl⟩
   ·subst hV
    have w1 := B0 (K := K) (v0 := v0) (r0 := r0) (u := 0) (p := p) (m := n) (n := nn) (ar := []) (t := t) (el := el) (s := m.st) (pk := pk) (e := m.e) (c := c) (wh := wh) (fu := m.fuel) (oA := oA) (tA := tA) (tv := .vs 6 (m.todo.map bF)) (nx := .vs 6 (m.todo.map bF)) (ov := false) (h := h) (lo := lo) H hK hst hk n0 n1 (uN := m.u) (by omega) (by omega);rw [hw] at w1;exact ⟨_, _, w1, ⟨oA, tA, c, wh, _, trs, by rw [<- hov]; rfl, ho, ht, fun _ => tvS, by omega⟩, hlo⟩
   ·subst hV
    obtain ⟨tA', h1, q1, q2, q3, q4, q5⟩ := told (2, nn, (aY p.width.toNat p.vars [m.st] e0).tmod (aI p.vars nn));have w1 := B1 (K := K) (v0 := v0) (r0 := r0) (u := 0) (p := p) (m := n) (n := nn) (ar := [e0]) (t := t) (el := el) (s := m.st) (pk := pk) (e := m.e) (c := c) (wh := wh) (fu := m.fuel) (oA := oA) (tA := tA) (tv := .vs 6 (m.todo.map bF)) (nx := .vs 6 (m.todo.map bF)) (ov := false) (h := h) (lo := lo) H hK hst hk n0 n1 (uN := m.u) (by omega) (by omega) (hval e0 (by simp)) q5 q1;rw [hw] at w1;exact ⟨_, _, w1, ⟨oA, tA', c, wh, _, _, by rw [<- hov]; rfl, q3, q2, fun _ => tvS, len1e _⟩, q4⟩
 ·subst hV
  rcases hop with rfl | rfl
  ·have w1 := DM (K := K) (v0 := v0) (r0 := r0) (p := p) (m := n) (n := nn) (ar := [e0]) (t := t) (el := el) (s := m.st) (pk := pk) (e := m.e) (c := c) (u := m.u) (wh := wh) (fu := m.fuel) (oA := oA) (tA := tA) (tv := .vs 6 (m.todo.map bF)) (nx := .vs 6 (m.todo.map bF)) (ov := false) (h := h) (lo := lo) hk (aY p.width.toNat p.vars [m.st] e0)
   refine ⟨_, _, w1, ?_, hlo⟩
   by_cases hz : aY p.width.toNat p.vars [m.st] e0 = 0
   ·have e1 : kz p.vars pk m (n, .mk 5 nn [e0] t el) ([e0].map (aY p.width.toNat p.vars [m.st])) = { m with e := 1, todo := [], over := true } := by
     show (if aY p.width.toNat p.vars [m.st] e0 = 0 then _ else m) = _;rw [if_pos hz]; rfl
    rw [e1, if_pos hz];exact ⟨oA, tA, c, n, _, trs, rfl, ho, ht, fun e => (by cases e), by omega⟩
   ·have e1 : kz p.vars pk m (n, .mk 5 nn [e0] t el) ([e0].map (aY p.width.toNat p.vars [m.st])) = m := by
     show (if aY p.width.toNat p.vars [m.st] e0 = 0 then _ else m) = _;rw [if_neg hz]
    rw [e1, if_neg hz];exact ⟨oA, tA, c, wh, _, trs, by rw [hov], ho, ht, fun _ => tvS, by omega⟩
  ·have w1 := DN (K := K) (v0 := v0) (r0 := r0) (p := p) (m := n) (n := nn) (ar := [e0]) (t := t) (el := el) (s := m.st) (pk := pk) (e := m.e) (c := c) (u := m.u) (wh := wh) (fu := m.fuel) (oA := oA) (tA := tA) (tv := .vs 6 (m.todo.map bF)) (nx := .vs 6 (m.todo.map bF)) (ov := false) (h := h) (lo := lo) hk (aY p.width.toNat p.vars [m.st] e0)
   refine ⟨_, _, w1, ?_, hlo⟩
   by_cases hz : aY p.width.toNat p.vars [m.st] e0 = 0
   ·have e1 : kz p.vars pk m (n, .mk 6 nn [e0] t el) ([e0].map (aY p.width.toNat p.vars [m.st])) = { m with e := 2, todo := [], over := true } := by
     show (if aY p.width.toNat p.vars [m.st] e0 = 0 then _ else m) = _;rw [if_pos hz]; rfl
    rw [e1, if_pos hz];exact ⟨oA, tA, c, n, _, trs, rfl, ho, ht, fun e => (by cases e), by omega⟩
   ·have e1 : kz p.vars pk m (n, .mk 6 nn [e0] t el) ([e0].map (aY p.width.toNat p.vars [m.st])) = m := by
     show (if aY p.width.toNat p.vars [m.st] e0 = 0 then _ else m) = _;rw [if_neg hz]
    rw [e1, if_neg hz];exact ⟨oA, tA, c, wh, _, trs, by rw [hov], ho, ht, fun _ => tvS, by omega⟩
end Go.Proofs.YtelobnllkhnpaaaGreat.L
