/- je as relations, and noninterference: what the types that move say about two runs; plain. -/
import Derived.Test.YtelobnllkhnpaaaGreatK7
set_option linter.unusedVariables false
set_option linter.unusedSimpArgs false
set_option maxHeartbeats 40000000
set_option maxRecDepth 1000000
open Go Go.Proofs Go.Ev Go.Proofs.YtelobnllkhnpaaaGreat.E
namespace Go.Proofs.YtelobnllkhnpaaaGreat.L
abbrev il := List Int × List Ot
inductive Loop (c : il -> Prop) (R : il -> il -> Prop) : il -> il -> Prop
 | done {s : il} (h : ¬ c s) : Loop c R s s
 | more {s m s' : il} (h : c s) (h1 : R s m) (h2 : Loop c R m s') : Loop c R s s'
section
variable (val : List Int -> aF -> Int)
def sW (s : List Int) (a : List aF) : Int := (a.map (val s)).getD 0 0
def D7 (s : List Int) (a : List aF) : Int := if 1 < a.length then sW val s a else 0
def FU (s : List Int) (a : List aF) : Int := (a.map (val s)).getD (a.length - 1) 0
def H0 (s : List Int) (a : List aF) : Int := if 0 < a.length then sW val s a else 0
variable (vs : List bk)
mutual
def D8 : ay -> il -> il -> Prop
 | .mk op n a t e, s, s' =>
  if op = 0 then s' = (s.1.set (cz vs n (D7 val s.1 a)) (FU val s.1 a), s.2)
  else if op = 1 then (if sW val s.1 a ≠ 0 then iZ t s s' else iZ e s s')
  else if op = 2 then Loop (fun x => sW val x.1 a ≠ 0) (fun x y => iZ t x y) s s'
  else if op = 3 then s' = (s.1, s.2 ++ [(n, sW val s.1 a)])
  else if op = 4 then ∃ x, s' = (s.1.set (cz vs n (H0 val s.1 a)) x, s.2)
  else s' = s
def iZ : List ay -> il -> il -> Prop
 | [], s, s' => s' = s
 | x :: l, s, s' => ∃ m, D8 x s m /\ iZ l m s'
end
variable {val vs}
theorem n7 : ∀ {a b : List ay} {s s' : il}, iZ val vs (a ++ b) s s' -> ∃ m, iZ val vs a s m /\ iZ val vs b m s'
 | [], b, s, s', h => ⟨s, by rw [iZ], h⟩
 | x :: a, b, s, s', h => by
  rw [List.cons_append, iZ] at h;obtain ⟨m, h1, h2⟩ := h;obtain ⟨m2, h3, h4⟩ := n7 h2;exact ⟨m2, by rw [iZ]; exact ⟨m, h1, h3⟩, h4⟩
end
theorem kA : ∀ (l : List ay) (n : Int), (bj l n).map (·.2) = l
 | [], n => rfl
 | s :: l, n => by rw [bj, List.map_cons, kA l]
def gy (w : Nat) (vs : List bk) (s : List Int) (e : aF) : Int := aY w vs [s] e
def HF (m : Mc) : il := (m.st, m.outs)
theorem FV {w : Nat} {vs : List bk} {pk : List Int} {m : Mc} (hov : m.over = false) (he : m.e = 0) (hne : m.todo ≠ []) :
  ((eJ w vs pk m).over = true /\ (eJ w vs pk m).e ≠ 0) \/ ((eJ w vs pk m).over = false /\ (eJ w vs pk m).e = 0 /\ ∀ s', iZ (gy w vs) vs ((eJ w vs pk m).todo.map (·.2)) (HF (eJ w vs pk m)) s' -> iZ (gy w vs) vs (m.todo.map (·.2)) (HF m) s') := by
 obtain ⟨e, st, outs, u, fuel, todo, over⟩ := m;dsimp only at hov he hne;subst hov he;cases todo with
 | nil => exact absurd rfl hne
 | cons x rest =>
  unfold eJ;dsimp only
  split
  ·exact .inl ⟨by trivial, by simp⟩
  obtain ⟨n, op, nn, a, t, el⟩ := x;have hth : (eq (n, .mk op nn a t el)).map (·.2) = t := kA _ _;have hel : (fO (n, .mk op nn a t el)).map (·.2) = el := kA _ _;have hcons : ∀ (s' : il), iZ (gy w vs) vs (((n, .mk op nn a t el) :: rest).map (·.2)) (st, outs) s' = ∃ m, D8 (gy w vs) vs (.mk op nn a t el) (st, outs) m /\ iZ (gy w vs) vs (rest.map (·.2)) m s' := fun s' => by
   rw [List.map_cons, iZ]
  unfold kz HF;dsimp only;simp only [hcons];simp only [D8]
  by_cases o0 : op = 0
  ·simp only [if_pos o0]
   exact .inr ⟨by trivial, by trivial, fun s' h => ⟨_, rfl, h⟩⟩
  simp only [if_neg o0]
  by_cases o1 : op = 1
  ·simp only [if_pos o1]
   refine .inr ⟨by trivial, by trivial, fun s' h => ?_⟩
   rw [List.map_append] at h
   by_cases hz : sW (gy w vs) st a ≠ 0
   ·rw [if_pos (show (a.map (aY w vs [st])).getD 0 0 ≠ 0 from hz), hth] at h
    simp only [if_pos hz];exact n7 h
   ·rw [if_neg (show ¬ (a.map (aY w vs [st])).getD 0 0 ≠ 0 from hz), hel] at h
    simp only [if_neg hz];exact n7 h
  simp only [if_neg o1]
  by_cases o2 : op = 2
  ·simp only [if_pos o2]
   by_cases hz : sW (gy w vs) st a ≠ 0
   ·rw [if_pos (show (a.map (aY w vs [st])).getD 0 0 ≠ 0 from hz)]
    refine .inr ⟨by trivial, by trivial, fun s' h => ?_⟩
    dsimp only at h;rw [List.map_append, List.map_append, hth] at h;obtain ⟨m2, h1, h2⟩ := n7 h;obtain ⟨m1, h3, h4⟩ := n7 h1;rw [List.map_cons, List.map_nil, iZ] at h4;obtain ⟨m3, h5, h6⟩ := h4;rw [iZ] at h6;subst h6;rw [D8, if_neg o0, if_neg o1, if_pos o2] at h5;exact ⟨m2, .more hz h3 h5, h2⟩
   ·rw [if_neg (show ¬ (a.map (aY w vs [st])).getD 0 0 ≠ 0 from hz)]
    exact .inr ⟨by trivial, by trivial, fun s' h => ⟨_, .done hz, h⟩⟩
  simp only [if_neg o2]
  by_cases o3 : op = 3
  ·simp only [if_pos o3]
   exact .inr ⟨by trivial, by trivial, fun s' h => ⟨_, rfl, h⟩⟩
  simp only [if_neg o3]
  by_cases o4 : op = 4
  ·simp only [if_pos o4]
   split
   ·exact .inl ⟨by trivial, by simp⟩
   ·exact .inr ⟨by trivial, by trivial, fun s' h => ⟨_, ⟨_, rfl⟩, h⟩⟩
  simp only [if_neg o4]
  split
  ·refine .inl ⟨rfl, ?_⟩
   dsimp only
   split <;> omega
  ·exact .inr ⟨by trivial, by trivial, fun s' h => ⟨_, rfl, h⟩⟩
theorem D9 {w : Nat} {vs : List bk} {pk : List Int} {m m' : Mc} (h : mf w vs pk m m') (hov : m.over = false) (he : m.e = 0) :
  (m'.over = true /\ m'.e ≠ 0) \/ (m'.over = false /\ m'.e = 0 /\ ∀ s', iZ (gy w vs) vs (m'.todo.map (·.2)) (HF m') s' -> iZ (gy w vs) vs (m.todo.map (·.2)) (HF m) s') := by
 induction h with
 | refl => exact .inr ⟨hov, he, fun s' h => h⟩
 | step h hn ih =>
  rcases ih with ⟨h1, _⟩ | ⟨h1, h2, h3⟩
  ·exact absurd (.inl h1) hn
  ·rcases FV (w := w) (vs := vs) (pk := pk) h1 h2 (fun h => hn (.inr h)) with ⟨g1, g2⟩ | ⟨g1, g2, g3⟩
   ·exact .inl ⟨g1, g2⟩
   ·exact .inr ⟨g1, g2, fun s' h => h3 s' (g3 s' h)⟩
theorem AO {p : bp} {pk s : List Int} {fuel : Nat} {m : Mc} (h : mf p.width.toNat p.vars pk (xF p fuel s) m) (hE : pa m) (he : m.e = 0) : iZ (gy p.width.toNat p.vars) p.vars p.body (s, []) (m.st, m.outs) := by
 rcases D9 h rfl rfl with ⟨_, h2⟩ | ⟨h1, _, h3⟩
 ·exact absurd he h2
 ·rcases hE with hE | hE
  ·rw [hE] at h1; cases h1
  ·have := h3 (HF m) (by rw [hE, List.map_nil, iZ])
   rw [show (xF p fuel s).todo.map (·.2) = p.body from kA _ _] at this
   exact this
mutual
def Hg (tg : Int -> Prop) : ay -> Prop
 | .mk op n _ t e => ((op = 0 \/ op = 4) -> tg n) /\ Hh tg t /\ Hh tg e
def Hh (tg : Int -> Prop) : List ay -> Prop
 | [] => True
 | s :: l => Hg tg s /\ Hh tg l
end
section
variable {val : List Int -> aF -> Int} {vs : List bk}
theorem Loop.keeps {c : il -> Prop} {R : il -> il -> Prop} {P : il -> Prop} (hR : ∀ s s', R s s' -> P s -> P s') {s s' : il} (h : Loop c R s s') : P s -> P s' := by
 induction h with
 | done h => exact id
 | more h h1 h2 ih => exact fun hp => ih (hR _ _ h1 hp)
mutual
theorem Ea {tg : Int -> Prop} {I : List Int -> Prop} (hI : ∀ s n i x, tg n -> I s -> I (s.set (cz vs n i) x)) : ∀ (s : ay) {x x' : il}, Hg tg s -> D8 val vs s x x' -> I x.1 -> I x'.1
 | .mk op n a t e, x, x', ht, h, hx => by
  rw [Hg] at ht;rw [D8] at h
  by_cases o0 : op = 0
  ·rw [if_pos o0] at h
   subst h;exact hI _ _ _ _ (ht.1 (.inl o0)) hx
  rw [if_neg o0] at h
  by_cases o1 : op = 1
  ·rw [if_pos o1] at h
   split at h
   ·exact jS hI t ht.2.1 h hx
   ·exact jS hI e ht.2.2 h hx
  rw [if_neg o1] at h
  by_cases o2 : op = 2
  ·rw [if_pos o2] at h
   exact Loop.keeps (P := fun y => I y.1) (fun y y' hy h => jS hI t ht.2.1 hy h) h hx
  rw [if_neg o2] at h
  by_cases o3 : op = 3
  ·rw [if_pos o3] at h
   subst h;exact hx
  rw [if_neg o3] at h
  by_cases o4 : op = 4
  ·rw [if_pos o4] at h
   obtain ⟨y, rfl⟩ := h;exact hI _ _ _ _ (ht.1 (.inr o4)) hx
  rw [if_neg o4] at h;subst h;exact hx
theorem jS {tg : Int -> Prop} {I : List Int -> Prop} (hI : ∀ s n i x, tg n -> I s -> I (s.set (cz vs n i) x)) : ∀ (l : List ay) {x x' : il}, Hh tg l -> iZ val vs l x x' -> I x.1 -> I x'.1
 | [], x, x', ht, h, hx => by rw [iZ] at h; subst h; exact hx
 | s :: l, x, x', ht, h, hx => by
  rw [iZ] at h;obtain ⟨m, h1, h2⟩ := h;exact jS hI l ht.2 h2 (Ea hI s ht.1 h1 hx)
end
end
theorem qn {lv : List Int} (hb : bf lv) : ∀ (es : List aF) {a : Int}, cb a -> eK a (bz lv a es)
 | [], a, ha => by rw [bz]; exact eL ha
 | e :: es, a, ha => by
  rw [bz];have hB := bC ha (fa hb e);exact a8 ha hB (cn hb es hB) (iD ha (fa hb e)) (qn hb es hB)
theorem xT {lv : List Int} (hb : bf lv) : ∀ (es : List aF) {a : Int} {e : aF}, cb a -> e ∈ es -> eK (gB lv e) (bz lv a es)
 | [], a, e, ha, h => by cases h
 | x :: es, a, e, ha, h => by
  rw [bz];have hB := bC ha (fa hb x);rcases List.mem_cons.1 h with rfl | h
  ·exact a8 (fa hb e) hB (cn hb es hB) (fd ha (fa hb e)) (qn hb es hB)
  ·exact xT hb es hB h
structure NI (val : List Int -> aF -> Int) (w : Int) (vs : List bk) (low : Int) (see : Int -> Bool) (tg : Int -> Prop) (I1 I2 : List Int -> Prop) : Prop where
 hlow : cb low
 l16 : ∀ x, cb x -> ¬ eK (be x 16) low
 len : vs.length <= 18
 cells : ∀ n : Int, 0 <= n -> n < vs.length -> 1 <= aI vs n
 see : ∀ n, cb n -> see n = true -> eK n low
 val : ∀ (lv : List Int) (e : aF), ks w vs 1 e = true -> lv.length = vs.length -> bf lv -> eK (gB lv e) low -> ∀ s1 s2 : List Int, (∀ v, v < vs.length -> eK (lv.getD v 0) low -> agr vs v s1 s2) -> val s1 e = val s2 e
 I1 : ∀ s n i x, tg n -> I1 s -> I1 (s.set (cz vs n i) x)
 I2 : ∀ s n i x, tg n -> I2 s -> I2 (s.set (cz vs n i) x)
section
variable {val : List Int -> aF -> Int} {w : Int} {vs : List bk} {low : Int} {see : Int -> Bool} {tg : Int -> Prop} {I1 I2 : List Int -> Prop}
def Cl (val : List Int -> aF -> Int) (low : Int) (I1 I2 : List Int -> Prop) : Pl -> Prop
 | (_, .mk op nn a _ _, lv, ar) => op = 3 -> cb nn /\ eK ar nn /\ (eK (bz lv 0 a) nn \/ (eK nn low -> ∀ s1 s2, I1 s1 -> I2 s2 -> sW val s1 a = sW val s2 a))
def fR (see : Int -> Bool) (l : List Ot) : List Ot := l.filter fun o => see o.1
theorem pf {see : Int -> Bool} (l : List Ot) (n x : Int) : fR see (l ++ [(n, x)]) = if see n = true then fR see l ++ [(n, x)] else fR see l := by
 unfold fR;rw [List.filter_append]
 by_cases h : see n = true
 ·rw [if_pos h, List.filter_cons, if_pos h]; rfl
 ·rw [if_neg h, List.filter_cons, if_neg h]; simp
structure yt (vs : List bk) (low : Int) (see : Int -> Bool) (lv : List Int) (s1 s2 : il) : Prop where
 len : s1.1.length = s2.1.length
 agr : ∀ v, v < vs.length -> eK (lv.getD v 0) low -> agr vs v s1.1 s2.1
 seen : fR see s1.2 = fR see s2.2
theorem yt.up {lv lv' : List Int} (hlow : cb low) (h1 : bf lv) (h2 : bf lv') (hle : pZ lv lv') {s1 s2 : il} (h : yt vs low see lv s1 s2) : yt vs low see lv' s1 s2 :=
 ⟨h.len, fun v hv hl => h.agr v hv (a8 (aJ h1 v) (aJ h2 v) hlow (hle.2 v) hl), h.seen⟩
theorem jT {x y : List Int} (hx : bf x) (hy : bf y) (hl : x.length = y.length) : pZ x (bK x y) := by
 refine ⟨(jC hl).symm, fun i => ?_⟩
 unfold bK;rw [List.getD_eq_getElem?_getD, List.getD_eq_getElem?_getD, List.getElem?_zipWith]
 by_cases hi : i < x.length
 ·rw [List.getElem?_eq_getElem hi, List.getElem?_eq_getElem (by omega)]
  exact iD (hx _ (List.getElem_mem hi)) (hy _ (List.getElem_mem _))
 ·rw [List.getElem?_eq_none (by omega)]
  exact eL cm
theorem xU {x y : List Int} : bK x y = bK y x := by
 unfold bK;rw [List.zipWith_comm];congr 1;funext a b;exact jA b a
theorem lM {x y : List Int} (hx : bf x) (hy : bf y) (hl : x.length = y.length) : pZ y (bK x y) := by
 rw [xU]; exact jT hy hx hl.symm
structure WhL (vs : List bk) (t : List ay) (a : List aF) (ar : Int) (lv L : List Int) : Prop where
 len : L.length = vs.length
 B : bf L
 ge : pZ lv L
 fix : bK L (fb (cX vs) dG t L (be ar (dG L a))) = L
 lt : (fb (cX vs) dG t L (be ar (dG L a))).length = vs.length
 tB : bf (fb (cX vs) dG t L (be ar (dG L a)))
 sub : pZ (fb (cX vs) dG t L (be ar (dG L a))) L
theorem Eb (h18 : vs.length <= 18) {t : List ay} (hv : xi vs.length t) {ar : Int} (ha : cb ar) (a : List aF) {lv : List Int} (hl : lv.length = vs.length) (hB : bf lv) :
  WhL vs t a ar lv (iG (fun x => bK x (fb (cX vs) dG t x (be ar (dG x a)))) 600 lv) := by
 have hMv := dQ vs vs.length;have hround := fun (x : List Int) (hx : x.length = vs.length /\ bf x) => nF hMv hv ha a hx.1 hx.2
 have hq : ∀ x : List Int, x.length = vs.length /\ bf x -> (bK x (fb (cX vs) dG t x (be ar (dG x a)))).length = vs.length /\ bf (bK x (fb (cX vs) dG t x (be ar (dG x a)))) := fun x hx => ⟨(hround x hx).1, (hround x hx).2.1⟩
 have h1 := lH (Q := fun x => (x.length = vs.length /\ bf x) /\ pZ lv x) (f := fun x => bK x (fb (cX vs) dG t x (be ar (dG x a)))) (fun x hx => by
  obtain ⟨t1, t2⟩ := cK hMv t x (be ar (dG x a)) hx.1.1 hx.1.2 (bC ha (cn hx.1.2 a cm)) hv;exact ⟨hq x hx.1, Cc hB hx.1.2 (hq x hx.1).2 hx.2 (jT hx.1.2 t2 (by rw [t1]; exact hx.1.1))⟩) 600 lv ⟨⟨hl, hB⟩, xP hB⟩
 have h2 := AN (f := fun x => bK x (fb (cX vs) dG t x (be ar (dG x a)))) hq (fun x hx => (hround x hx).2.2) 600 lv ⟨hl, hB⟩ (by have := rH hB; omega);generalize iG (fun x => bK x (fb (cX vs) dG t x (be ar (dG x a)))) 600 lv = L at *;obtain ⟨⟨g1, g2⟩, g3⟩ := h1;obtain ⟨t1, t2⟩ := cK hMv t L (be ar (dG L a)) g1 g2 (bC ha (cn g2 a cm)) hv;refine ⟨g1, g2, g3, h2, t1, t2, ?_⟩;have := lM g2 t2 (by rw [g1, t1]);rw [h2] at this;exact this
structure Cf (vs : List bk) (low : Int) (see : Int -> Bool) (lv' lv : List Int) (s s' : il) : Prop where
 len : s'.1.length = s.1.length
 agr : ∀ v, v < vs.length -> eK (lv'.getD v 0) low -> eK (lv.getD v 0) low /\ agr vs v s.1 s'.1
 seen : fR see s'.2 = fR see s.2
theorem Cf.set {low : Int} {see : Int -> Bool} (hc : ∀ n : Int, 0 <= n -> n < vs.length -> 1 <= aI vs n) {lv : List Int} (hl : lv.length = vs.length) {n i x : Int} (h0 : 0 <= n) (h1 : n < vs.length) {l : Int} (hn : ¬ eK l low) (s : il) :
  Cf vs low see (lv.set n.toNat l) lv s (s.1.set (cz vs n i) x, s.2) := by
 refine ⟨by simp, fun v hv hlo => ?_, rfl⟩
 rw [sj] at hlo
 split at hlo
 ·exact absurd hlo hn
 ·rename_i hne
  refine ⟨hlo, lK h0 h1 (hc n h0 h1) (fun e => hne ⟨e.symm, by omega⟩) _ _⟩
theorem ln {low a b : Int} (hlow : cb low) (ha : cb a) (hb : cb b) (h : ¬ eK a low) : ¬ eK (be a b) low := fun h2 => h (a8 ha (bC ha hb) hlow (iD ha hb) h2)
theorem AP {low : Int} {see : Int -> Bool} {L : List Int} {c : il -> Prop} {R : il -> il -> Prop} (hR : ∀ s s', R s s' -> Cf vs low see L L s s') {s s' : il} (h : Loop c R s s') : Cf vs low see L L s s' := by
 induction h with
 | done h => exact ⟨rfl, fun v _ hl => ⟨hl, lj _ _ _⟩, rfl⟩
 | more h h1 h2 ih =>
  have := hR _ _ h1;exact ⟨ih.len.trans this.len, fun v hv hl => ⟨hl, ga (this.agr v hv hl).2 (ih.agr v hv hl).2⟩, ih.seen.trans this.seen⟩
theorem Gr {pt : List Int -> Int -> ay -> List Int} {og : List Int -> List aF -> Int} {op nn : Int} {a : List aF} {t e : List ay} {lv : List Int} {ar n : Int} (o : op = 1) : nG pt og (.mk op nn a t e) lv ar n = (n, .mk op nn a t e, lv, ar) :: (iV pt og t lv (be ar (og lv a)) (IntKind.i64.wrap (n + 1)) ++ iV pt og e lv (be ar (og lv a)) (IntKind.i64.wrap (IntKind.i64.wrap (n + 1) + cW t 0))) := by
 rw [nG, if_pos o]
theorem Gs {pt : List Int -> Int -> ay -> List Int} {og : List Int -> List aF -> Int} {op nn : Int} {a : List aF} {t e : List ay} {lv : List Int} {ar : Int} (o : op = 2) : gK pt og (.mk op nn a t e) lv ar = iG (fun x => bK x (fb pt og t x (be ar (og x a)))) 600 lv := by
 rw [gK, if_neg (by omega), if_pos o]
theorem Gt {pt : List Int -> Int -> ay -> List Int} {og : List Int -> List aF -> Int} {op nn : Int} {a : List aF} {t e : List ay} {lv : List Int} {ar n : Int} (o : op = 2) : nG pt og (.mk op nn a t e) lv ar n = (n, .mk op nn a t e, gK pt og (.mk op nn a t e) lv ar, ar) :: iV pt og t (gK pt og (.mk op nn a t e) lv ar) (be ar (og (gK pt og (.mk op nn a t e) lv ar) a)) (IntKind.i64.wrap (n + 1)) := by
 rw [nG, if_neg (by omega), if_pos o]
mutual
theorem cf1 (N : NI val w vs low see tg I1 I2) : ∀ (s : ay) {lv : List Int} {ar : Int} (n : Int) {x x' : il}, mc vs.length s -> lv.length = vs.length -> bf lv -> cb ar -> ¬ eK ar low -> (∀ p, p ∈ nG (cX vs) dG s lv ar n -> Cl val low I1 I2 p) -> D8 val vs s x x' -> Cf vs low see (gK (cX vs) dG s lv ar) lv x x'
 | .mk op nn a t e, lv, ar, n, x, x', hv, hl, hB, har, hh, hok, h => by
  rw [mc] at hv;have hMv := dQ vs vs.length;have hfB : ∀ {y : List Int}, bf y -> cb (bz y 0 a) := fun hy => cn hy a cm
  rw [D8] at h
  by_cases o0 : op = 0
  ·rw [if_pos o0] at h
   subst h;rw [gK, if_neg (by omega), if_neg (by omega)];unfold cX;dsimp only;rw [if_pos (.inl o0)];have hvn := hv.2.1 (.inl o0);refine Cf.set N.cells hl hvn.1 hvn.2 (ln N.hlow (eh hB har op a) (gl hB vs nn) ?_) x;unfold gw;rw [if_neg (by omega)];exact ln N.hlow har (hfB hB) hh
  rw [if_neg o0] at h
  by_cases o1 : op = 1
  ·rw [if_pos o1] at h
   rw [gK, if_pos o1];rw [Gr o1] at hok;have hgB : cb (be ar (dG lv a)) := bC har (hfB hB);have hg : ¬ eK (be ar (dG lv a)) low := ln N.hlow har (hfB hB) hh;obtain ⟨t1, t2⟩ := cK hMv t lv (be ar (dG lv a)) hl hB hgB hv.2.2.2.1;obtain ⟨e1, e2⟩ := cK hMv e lv (be ar (dG lv a)) hl hB hgB hv.2.2.2.2;have jB := kx t2 e2
   split at h
   ·have := Hi N t _ hv.2.2.2.1 hl hB hgB hg (fun p hp => hok p (List.mem_cons_of_mem _ (List.mem_append_left _ hp))) h
    exact ⟨this.len, fun v hv hlo => this.agr v hv (a8 (aJ t2 v) (aJ jB v) N.hlow ((jT t2 e2 (by rw [t1, e1])).2 v) hlo), this.seen⟩
   ·have := Hi N e _ hv.2.2.2.2 hl hB hgB hg (fun p hp => hok p (List.mem_cons_of_mem _ (List.mem_append_right _ hp))) h
    exact ⟨this.len, fun v hv hlo => this.agr v hv (a8 (aJ e2 v) (aJ jB v) N.hlow ((lM t2 e2 (by rw [t1, e1])).2 v) hlo), this.seen⟩
  rw [if_neg o1] at h
  by_cases o2 : op = 2
  ·rw [if_pos o2] at h
   rw [Gt o2] at hok;have W := Eb N.len hv.2.2.2.1 har a hl hB;rw [<- Gs (pt := cX vs) (og := dG) (op := op) (nn := nn) (e := e) o2] at W;generalize gK (cX vs) dG (.mk op nn a t e) lv ar = L at *;have hgB : cb (be ar (dG L a)) := bC har (hfB W.B);have hg : ¬ eK (be ar (dG L a)) low := ln N.hlow har (hfB W.B) hh;have hc := AP (vs := vs) (low := low) (see := see) (L := L) (fun y y' hy => by
    have := Hi N t _ hv.2.2.2.1 W.len W.B hgB hg (fun p hp => hok p (List.mem_cons_of_mem _ hp)) hy;exact ⟨this.len, fun v hv hlo => this.agr v hv (a8 (aJ W.tB v) (aJ W.B v) N.hlow (W.sub.2 v) hlo), this.seen⟩) h
   exact ⟨hc.len, fun v hv hlo => ⟨a8 (aJ hB v) (aJ W.B v) N.hlow (W.ge.2 v) hlo, (hc.agr v hv hlo).2⟩, hc.seen⟩
  rw [if_neg o2] at h;rw [gK, if_neg o1, if_neg o2];rw [nG, if_neg o1, if_neg o2] at hok;unfold cX;dsimp only
  by_cases o3 : op = 3
  ·rw [if_pos o3] at h
   subst h;rw [if_neg (by omega)];obtain ⟨q1, q2, _⟩ := hok _ (List.mem_cons_self ..) o3;refine ⟨rfl, fun v _ hlo => ⟨hlo, lj _ _ _⟩, ?_⟩
   dsimp only;rw [pf, if_neg];exact fun hs => hh (a8 har q1 N.hlow q2 (N.see nn q1 hs))
  rw [if_neg o3] at h
  by_cases o4 : op = 4
  ·rw [if_pos o4] at h
   obtain ⟨y, rfl⟩ := h;rw [if_pos (.inr o4)];have hvn := hv.2.1 (.inr o4);refine Cf.set N.cells hl hvn.1 hvn.2 (ln N.hlow (eh hB har op a) (gl hB vs nn) ?_) x;unfold gw;rw [if_pos o4];exact ln N.hlow (bC har (hfB hB)) mb (ln N.hlow har (hfB hB) hh)
  rw [if_neg o4] at h;subst h;rw [if_neg (by omega)];exact ⟨rfl, fun v _ hlo => ⟨hlo, lj _ _ _⟩, rfl⟩
theorem Hi (N : NI val w vs low see tg I1 I2) : ∀ (l : List ay) {lv : List Int} {ar : Int} (n : Int) {x x' : il}, xi vs.length l -> lv.length = vs.length -> bf lv -> cb ar -> ¬ eK ar low -> (∀ p, p ∈ iV (cX vs) dG l lv ar n -> Cl val low I1 I2 p) -> iZ val vs l x x' -> Cf vs low see (fb (cX vs) dG l lv ar) lv x x'
 | [], lv, ar, n, x, x', hv, hl, hB, har, hh, hok, h => by
  rw [iZ] at h;subst h;rw [fb];exact ⟨rfl, fun v _ hlo => ⟨hlo, lj _ _ _⟩, rfl⟩
 | s :: l, lv, ar, n, x, x', hv, hl, hB, har, hh, hok, h => by
  rw [iZ] at h;obtain ⟨m, h1, h2⟩ := h;rw [iV] at hok;rw [fb];obtain ⟨q1, q2⟩ := fF (dQ vs vs.length) s lv ar hl hB har hv.1;have a1 := cf1 N s n hv.1 hl hB har hh (fun p hp => hok p (List.mem_append_left _ hp)) h1;have a2 := Hi N l _ hv.2 q1 q2 har hh (fun p hp => hok p (List.mem_append_right _ hp)) h2;refine ⟨a2.len.trans a1.len, fun v hv hlo => ?_, a2.seen.trans a1.seen⟩
  obtain ⟨g1, g2⟩ := a2.agr v hv hlo;obtain ⟨g3, g4⟩ := a1.agr v hv g1;exact ⟨g3, ga g4 g2⟩
end
theorem NI.vals (N : NI val w vs low see tg I1 I2) {lv : List Int} (hl : lv.length = vs.length) (hB : bf lv) {a : List aF} (ha : ∀ e, e ∈ a -> ks w vs 1 e = true) (hlo : eK (bz lv 0 a) low) {s1 s2 : il} (h : yt vs low see lv s1 s2) : a.map (val s1.1) = a.map (val s2.1) := by
 refine List.map_congr_left fun e he => N.val lv e (ha e he) hl hB (a8 (fa hB e) (cn hB a cm) N.hlow (xT hB a cm he) hlo) _ _ h.agr
theorem yt.chain {lv lv' : List Int} {x1 x2 y1 y2 : il} (h : yt vs low see lv x1 x2) (h1 : Cf vs low see lv' lv x1 y1) (h2 : Cf vs low see lv' lv x2 y2) : yt vs low see lv' y1 y2 :=
 ⟨by rw [h1.len, h2.len]; exact h.len, fun v hv hlo => by
  obtain ⟨g1, g2⟩ := h1.agr v hv hlo;exact ga (xr g2) (ga (h.agr v hv g1) (h2.agr v hv hlo).2), by rw [h1.seen, h2.seen]; exact h.seen⟩
theorem FW {c1 : il -> Prop} {R : il -> il -> Prop} {L : List Int} {P1 P2 : il -> Prop} (hc : ∀ x1 x2, yt vs low see L x1 x2 -> (c1 x1 ↔ c1 x2)) (hR : ∀ x1 x2 y1 y2, R x1 y1 -> R x2 y2 -> P1 x1 -> P2 x2 -> yt vs low see L x1 x2 -> yt vs low see L y1 y2 /\ P1 y1 /\ P2 y2)
  {x1 y1 : il} (h1 : Loop c1 R x1 y1) : ∀ {x2 y2 : il}, Loop c1 R x2 y2 -> P1 x1 -> P2 x2 -> yt vs low see L x1 x2 -> yt vs low see L y1 y2 := by
 induction h1 with
 | done h =>
  intro x2 y2 h2 p1 p2 hq;cases h2 with
  | done _ => exact hq
  | more g _ _ => exact absurd ((hc _ _ hq).2 g) h
 | more h g1 g2 ih =>
  intro x2 y2 h2 p1 p2 hq;cases h2 with
  | done g => exact absurd ((hc _ _ hq).1 h) g
  | more _ k1 k2 =>
   obtain ⟨r1, r2, r3⟩ := hR _ _ _ _ g1 k1 p1 p2 hq;exact ih k2 r2 r3 r1
mutual
theorem ni1 (N : NI val w vs low see tg I1 I2) : ∀ (s : ay) {lv : List Int} {ar : Int} (n : Int) {x1 y1 x2 y2 : il}, dT w vs s = true -> mc vs.length s -> Hg tg s -> lv.length = vs.length -> bf lv -> cb ar -> (∀ p, p ∈ nG (cX vs) dG s lv ar n -> Cl val low I1 I2 p) -> D8 val vs s x1 y1 -> D8 val vs s x2 y2 -> I1 x1.1 -> I2 x2.1 -> yt vs low see lv x1 x2 -> yt vs low see (gK (cX vs) dG s lv ar) y1 y2
 | .mk op nn a t e, lv, ar, n, x1, y1, x2, y2, hr, hv, htg, hl, hB, har, hok, h1, h2, i1, i2, hq => by
  have hr' := hr;have hv' := hv;have hok' := hok;have h1' := h1;have h2' := h2;rw [dT] at hr;simp only [Bool.and_eq_true] at hr;obtain ⟨⟨⟨_, hrt⟩, hre⟩, hra⟩ := hr;have hE : ∀ e, e ∈ a -> ks w vs 1 e = true := fun e he => List.all_eq_true.1 hra e he
  rw [mc] at hv;rw [Hg] at htg;have hMv := dQ vs vs.length;have hfB : ∀ {y : List Int}, bf y -> cb (bz y 0 a) := fun hy => cn hy a cm
  rw [D8] at h1 h2
  by_cases o0 : op = 0
  ·rw [if_pos o0] at h1 h2
   subst h1 h2;rw [gK, if_neg (by omega), if_neg (by omega)];unfold cX;dsimp only;rw [if_pos (.inl o0)];have hvn := hv.2.1 (.inl o0);have hc := N.cells nn hvn.1 hvn.2;refine ⟨by simpa using hq.len, fun v hv hlo => ?_, hq.seen⟩
   dsimp only;rw [sj] at hlo
   split at hlo
   ·rename_i hvv
    have hfr := a8 (eh hB har op a) (bC (eh hB har op a) (gl hB vs nn)) N.hlow (iD (eh hB har op a) (gl hB vs nn)) hlo;have hkp := a8 (gl hB vs nn) (bC (eh hB har op a) (gl hB vs nn)) N.hlow (fd (eh hB har op a) (gl hB vs nn)) hlo;unfold gw at hfr;rw [if_neg (by omega)] at hfr;have hvals := N.vals hl hB hE (a8 (hfB hB) (bC har (hfB hB)) N.hlow (fd har (hfB hB)) hfr) hq;have hx : FU val x1.1 a = FU val x2.1 a := by unfold FU; rw [hvals]
    have hi : D7 val x1.1 a = D7 val x2.1 a := by unfold D7 sW; rw [hvals]
    rw [hx, hi];obtain ⟨rfl, _⟩ := hvv;unfold pO at hkp
    by_cases hcl : aI vs nn > 1
    ·rw [if_pos hcl] at hkp
     exact Fs (hq.agr _ hv hkp) hq.len _
    ·have hc1 : (aI vs nn).toNat = 1 := by omega
     have hn : ((nn.toNat : Nat) : Int) = nn := Int.toNat_of_nonneg hvn.1;intro j j1 j2;rw [fc hv, hn, hc1] at j2;have hj : cz vs nn (D7 val x2.1 a) = j := by unfold cz; rw [hc1, Nat.mod_one]; omega
     rw [jF, jF, hq.len]
     by_cases hlen : j < x2.1.length
     ·rw [if_pos ⟨hj, hlen⟩, if_pos ⟨hj, hlen⟩]
     ·rw [if_neg (fun h => hlen h.2), if_neg (fun h => hlen h.2), List.getD_eq_getElem?_getD, List.getD_eq_getElem?_getD, List.getElem?_eq_none (by have := hq.len; omega), List.getElem?_eq_none (by omega)]
   ·rename_i hne
    have hne' : v ≠ nn.toNat := fun e => hne ⟨e.symm, by omega⟩
    exact ga (xr (lK hvn.1 hvn.2 hc hne' _ _)) (ga (hq.agr v hv hlo) (lK hvn.1 hvn.2 hc hne' _ _))
  rw [if_neg o0] at h1 h2
  by_cases o1 : op = 1
  ·rw [if_pos o1] at h1 h2
   rw [Gr o1] at hok;have hgB : cb (be ar (dG lv a)) := bC har (hfB hB)
   by_cases hg : eK (be ar (dG lv a)) low
   ·rw [gK, if_pos o1]
    obtain ⟨t1, t2⟩ := cK hMv t lv (be ar (dG lv a)) hl hB hgB hv.2.2.2.1;obtain ⟨e1, e2⟩ := cK hMv e lv (be ar (dG lv a)) hl hB hgB hv.2.2.2.2;have jB := kx t2 e2;have hvals := N.vals hl hB hE (a8 (hfB hB) (bC har (hfB hB)) N.hlow (fd har (hfB hB)) hg) hq;have hd : sW val x1.1 a = sW val x2.1 a := by unfold sW; rw [hvals]
    rw [hd] at h1
    by_cases hz : sW val x2.1 a ≠ 0
    ·rw [if_pos hz] at h1 h2
     exact (H5 N t _ hrt hv.2.2.2.1 htg.2.1 hl hB hgB (fun p hp => hok p (List.mem_cons_of_mem _ (List.mem_append_left _ hp))) h1 h2 i1 i2 hq).up N.hlow t2 jB (jT t2 e2 (by rw [t1, e1]))
    ·rw [if_neg hz] at h1 h2
     exact (H5 N e _ hre hv.2.2.2.2 htg.2.2 hl hB hgB (fun p hp => hok p (List.mem_cons_of_mem _ (List.mem_append_right _ hp))) h1 h2 i1 i2 hq).up N.hlow e2 jB (lM t2 e2 (by rw [t1, e1]))
   ·have key : ∀ {x y : il}, (if sW val x.1 a ≠ 0 then iZ val vs t x y else iZ val vs e x y) -> Cf vs low see (gK (cX vs) dG (.mk op nn a t e) lv ar) lv x y := fun {x y} h => by
     rw [gK, if_pos o1];obtain ⟨t1, t2⟩ := cK hMv t lv (be ar (dG lv a)) hl hB hgB hv.2.2.2.1;obtain ⟨e1, e2⟩ := cK hMv e lv (be ar (dG lv a)) hl hB hgB hv.2.2.2.2;have jB := kx t2 e2
     split at h
     ·have := Hi N t _ hv.2.2.2.1 hl hB hgB hg (fun p hp => hok p (List.mem_cons_of_mem _ (List.mem_append_left _ hp))) h
      exact ⟨this.len, fun v hv hlo => this.agr v hv (a8 (aJ t2 v) (aJ jB v) N.hlow ((jT t2 e2 (by rw [t1, e1])).2 v) hlo), this.seen⟩
     ·have := Hi N e _ hv.2.2.2.2 hl hB hgB hg (fun p hp => hok p (List.mem_cons_of_mem _ (List.mem_append_right _ hp))) h
      exact ⟨this.len, fun v hv hlo => this.agr v hv (a8 (aJ e2 v) (aJ jB v) N.hlow ((lM t2 e2 (by rw [t1, e1])).2 v) hlo), this.seen⟩
    exact hq.chain (key h1) (key h2)
  rw [if_neg o1] at h1 h2
  by_cases o2 : op = 2
  ·rw [if_pos o2] at h1 h2
   rw [Gt o2] at hok;have W := Eb N.len hv.2.2.2.1 har a hl hB;rw [<- Gs (pt := cX vs) (og := dG) (op := op) (nn := nn) (e := e) o2] at W;generalize gK (cX vs) dG (.mk op nn a t e) lv ar = L at *;have hgB : cb (be ar (dG L a)) := bC har (hfB W.B)
   by_cases hg : eK (be ar (dG L a)) low
   ·refine FW (P1 := fun x => I1 x.1) (P2 := fun x => I2 x.1) (fun z1 z2 hz => ?_) (fun z1 z2 u1 u2 g1 g2 p1 p2 hz => ⟨?_, ?_, ?_⟩) h1 h2 i1 i2 (hq.up N.hlow hB W.B W.ge)
    ·have hvals := N.vals W.len W.B hE (a8 (hfB W.B) (bC har (hfB W.B)) N.hlow (fd har (hfB W.B)) hg) hz
     have hd : sW val z1.1 a = sW val z2.1 a := by unfold sW; rw [hvals]
     rw [hd]
    ·exact (H5 N t _ hrt hv.2.2.2.1 htg.2.1 W.len W.B hgB (fun p hp => hok p (List.mem_cons_of_mem _ hp)) g1 g2 p1 p2 hz).up N.hlow W.tB W.B W.sub
    ·exact jS N.I1 t htg.2.1 g1 p1
    ·exact jS N.I2 t htg.2.1 g2 p2
   ·have key : ∀ {x y : il}, Loop (fun x => sW val x.1 a ≠ 0) (fun x y => iZ val vs t x y) x y -> Cf vs low see L lv x y := fun {x y} h => by
     have hc := AP (vs := vs) (low := low) (see := see) (L := L) (fun y y' hy => by
      have := Hi N t _ hv.2.2.2.1 W.len W.B hgB hg (fun p hp => hok p (List.mem_cons_of_mem _ hp)) hy;exact ⟨this.len, fun v hv hlo => this.agr v hv (a8 (aJ W.tB v) (aJ W.B v) N.hlow (W.sub.2 v) hlo), this.seen⟩) h
     exact ⟨hc.len, fun v hv hlo => ⟨a8 (aJ hB v) (aJ W.B v) N.hlow (W.ge.2 v) hlo, (hc.agr v hv hlo).2⟩, hc.seen⟩
    exact hq.chain (key h1) (key h2)
  rw [if_neg o2] at h1 h2;rw [gK, if_neg o1, if_neg o2];rw [nG, if_neg o1, if_neg o2] at hok;unfold cX;dsimp only
  by_cases o3 : op = 3
  ·rw [if_pos o3] at h1 h2
   subst h1 h2;rw [if_neg (by omega)];obtain ⟨q1, q2, q3⟩ := hok _ (List.mem_cons_self ..) o3;refine ⟨hq.len, hq.agr, ?_⟩;dsimp only;rw [pf, pf, hq.seen]
   by_cases hs : see nn = true
   ·have hn := N.see nn q1 hs
    have hd : sW val x1.1 a = sW val x2.1 a := by
     rcases q3 with q3 | q3
     ·have hvals := N.vals hl hB hE (a8 (hfB hB) q1 N.hlow q3 hn) hq
      unfold sW; rw [hvals]
     ·exact q3 hn _ _ i1 i2
    rw [if_pos hs, if_pos hs, hd]
   ·rw [if_neg hs, if_neg hs]
  rw [if_neg o3] at h1 h2
  by_cases o4 : op = 4
  ·rw [if_pos o4] at h1 h2
   obtain ⟨z1, rfl⟩ := h1;obtain ⟨z2, rfl⟩ := h2;rw [if_pos (.inr o4)];have hvn := hv.2.1 (.inr o4);have hn : ¬ eK (be (gw lv ar op a) (pO vs lv nn)) low := ln N.hlow (eh hB har op a) (gl hB vs nn) (by
    unfold gw;rw [if_pos o4];exact N.l16 _ (bC har (hfB hB)))
   exact hq.chain (Cf.set N.cells hl hvn.1 hvn.2 hn x1) (Cf.set N.cells hl hvn.1 hvn.2 hn x2)
  rw [if_neg o4] at h1 h2;subst h1 h2;rw [if_neg (by omega)];exact hq
theorem H5 (N : NI val w vs low see tg I1 I2) : ∀ (l : List ay) {lv : List Int} {ar : Int} (n : Int) {x1 y1 x2 y2 : il}, ce w vs l = true -> xi vs.length l -> Hh tg l -> lv.length = vs.length -> bf lv -> cb ar -> (∀ p, p ∈ iV (cX vs) dG l lv ar n -> Cl val low I1 I2 p) -> iZ val vs l x1 y1 -> iZ val vs l x2 y2 -> I1 x1.1 -> I2 x2.1 -> yt vs low see lv x1 x2 -> yt vs low see (fb (cX vs) dG l lv ar) y1 y2
 | [], lv, ar, n, x1, y1, x2, y2, hr, hv, htg, hl, hB, har, hok, h1, h2, i1, i2, hq => by
  rw [iZ] at h1 h2;subst h1 h2;rw [fb];exact hq
 | s :: l, lv, ar, n, x1, y1, x2, y2, hr, hv, htg, hl, hB, har, hok, h1, h2, i1, i2, hq => by
  rw [iZ] at h1 h2;obtain ⟨m1, h1, g1⟩ := h1;obtain ⟨m2, h2, g2⟩ := h2;rw [ce, Bool.and_eq_true] at hr;rw [iV] at hok;rw [fb];obtain ⟨q1, q2⟩ := fF (dQ vs vs.length) s lv ar hl hB har hv.1;have a1 := ni1 N s n hr.1 hv.1 htg.1 hl hB har (fun p hp => hok p (List.mem_append_left _ hp)) h1 h2 i1 i2 hq;exact H5 N l _ hr.2 hv.2 htg.2 q1 q2 har (fun p hp => hok p (List.mem_append_right _ hp)) g1 g2 (Ea N.I1 s htg.1 h1 i1) (Ea N.I2 s htg.1 h2 i2) a1
end
end
def jk (l : List Int) (n : Int) : Bool := l.any (fun x => x == n)
theorem qo {l : List Int} {n : Int} : jk l n = true ↔ n ∈ l := by
 unfold jk;rw [List.any_eq_true];constructor
 ·rintro ⟨x, hx, h⟩
  have : x = n := by simpa using h
  exact this ▸ hx
 ·intro h; exact ⟨n, h, by simp⟩
def Hj (n : Int) : List Int -> Nat -> Int
 | [], _ => -1
 | x :: l, i => if (n == x) = true then (i : Int) else Hj n l (i + 1)
theorem Ec (n : Int) : ∀ (l : List Int) (i : Nat), decide (Hj n l i >= 0) = jk l n
 | [], i => rfl
 | x :: l, i => by
  have hst : jk (x :: l) n = (x == n || jk l n) := rfl;have hc : (x == n) = (n == x) := by rw [Bool.eq_iff_iff]; simp; exact eq_comm
  rw [Hj, hst, hc];cases hb : (n == x)
  ·rw [if_neg (by simp), Ec n l (i + 1)]; rfl
  ·rw [if_pos rfl]; simp
def ixIS (h : aj) (lo : Nat) (l : List Int) (n : Int) (i : Int) (_ : Unit) : St :=
 {env := [(0, .v (.vs 1 (ag l))), (1, .v (.int .i64 n)), (7, .v (.int .i64 (ag l).length)), (8, .v (.int .i64 i))], loc := [], heap := h, inRound := false, lo := lo }
theorem zX (l : List Int) (n : Int) (k : Nat) (hk : l.length < k) (hl : l.length < 9223372036854775808) (h : aj) (lo : Nat) : call Tryz.prog ba (k + 1) lo (.func 78) [.vs 1 (ag l), .int .i64 n] h = some (.int .i64 (Hj n l 0), h) := by
 apply ai Tryz.func78 U (Nb U) U U;(repeat' (first | apply ab | refine Wr 0 U U ?_ | refine Wr 1 U U ?_ | apply ae));apply aS (S := ixIS h h.length l n) (l := l) (a0 := ()) (fun i rest _ => Hj n rest i = Hj n l 0) (by omega) (by omega) rfl rfl
 ·intro i x rest a hi hd hil hJ
  have hrow := fG hi;have hlt := nJ hil;rw [Hj] at hJ;cases hc : (n == x)
  ·rw [hc, if_neg (by simp)] at hJ
   (repeat' (first | apply ab | refine ah U U ?_ | refine af U U ?_ | (refine Wo 2 U ?_;refine Tt U U ‹_› (Tn ?_)) | refine Wr 3 U U ?_ | (refine Wo 4 U ?_;refine Tc 3 U (Tg U (aq U U U U U ‹_›) ?_) <;> refine Tg U U (Tf U U ‹_› (Tn ?_))) | refine Wr 6 U U ?_ | apply ak | apply ae));exact ⟨(), rfl, hJ⟩
  ·rw [hc, if_pos rfl] at hJ
   (repeat' (first | apply ab | refine ah U U ?_ | (refine Wo 2 U ?_;refine Tt U U ‹_› (Tn ?_)) | refine Wr 3 U U ?_ | (refine Wo 4 U ?_;refine Tc 3 U (Tg U (aq U U U U U ‹_›) ?_) <;> refine Tg U U (Tt U U ‹_› (Tn ?_))) | refine Wr 5 U U ?_ | apply ak | apply ae | apply am));exact ⟨.inl rfl, by rw [<- hJ]; rfl⟩
 ·intro a hJ
  have hlt := nK (l := l);(repeat' (first | apply ab | refine af U U ?_ | (refine Wo 2 U ?_;refine Tf U U ‹_› (Tn ?_)) | refine Wr 7 U U ?_ | apply am | apply aC));exact ⟨.inl rfl, by rw [<- hJ]; rfl⟩
theorem Cm (l : List Int) (n : Int) (k : Nat) (hk : l.length + 1 < k) (hl : l.length < 9223372036854775808) (h : aj) (lo : Nat) : call Tryz.prog ba (k + 1) lo (.func 34) [.vs 1 (ag l), .int .i64 n] h = some (.bool (jk l n), h) := by
 have hI := zX l n (k - 1) (by omega) hl h h.length;rw [show k - 1 + 1 = k by omega] at hI
 have hg := Ec n l 0;cases hc : jk l n <;> rw [hc] at hg <;>
 ·apply ai Tryz.func34 U (Nb U) U U
  (repeat' (first | apply ab | refine Wr 0 U U ?_ | (refine Wo 1 U ?_;refine Tc 2 U (Tg U (aa U U U U ‹_›) ?_) <;> (refine aK U ?_; first | refine bi U ‹_› ?_ | refine aT U ‹_› ?_) <;> refine Tc 1 U (Tn ?_)) | apply am));exact ⟨.inl rfl, rfl⟩
mutual
def yu (v : Int) : aF -> Bool
 | .mk op n _ es => (op == 1 && n == v) || kB v es
def kB (v : Int) : List aF -> Bool
 | [] => false
 | e :: es => yu v e || kB v es
end
def rdS (h : aj) (lo : Nat) (e : aF) (v : Int) (i : Int) (_ : Unit) : St :=
 {env := [(1, .v (.int .i64 v)), (2, .p 2 0), (5, .v (.int .i64 i))], loc := [(2, cT e)], heap := h, inRound := false, lo := lo }
theorem sC (v : Int) : ∀ (k : Nat) (e : aF), cM e <= k -> dP e -> ∀ (h : aj) (lo : Nat), call Tryz.prog ba k lo (.func 97) [.agg (cT e), .int .i64 v] h = some (.bool (yu v e), h)
 | 0, e, hk, _, _, _ => by have := fA e; omega
 | k + 1, .mk op n cp es, hk, hb, h, lo => by
  rw [cM] at hk;rw [dP] at hb;have hlen := bB es;rw [yu];cases hop : (op == 1) with
  | true =>
   cases hnv : (n == v) with
   | true =>
    apply ai Tryz.func97 U (Nb U) U U;(repeat' (first | apply ab | refine ah U U ?_ | refine Wr 0 U U ?_ | (refine Wo 1 U ?_;refine Tc 2 U (Tt U U ‹_› (Tc 4 U (Tt U U ‹_› (Tc 1 U (Tn ?_)))))) | refine Wr 2 U U ?_ | apply am));exact ⟨.inl rfl, rfl⟩
   | false =>
    apply ai Tryz.func97 U (Nb U) U U;(repeat' (first | apply ab | refine af U U ?_ | refine Wr 0 U U ?_ | (refine Wo 1 U ?_;refine Tc 2 U (Tt U U ‹_› (Tc 4 U (Tf U U ‹_› (Tc 1 U (Tn ?_)))))) | refine Wr 3 U U ?_ | apply ak | apply ae));apply cg (S := rdS h h.length (.mk op n cp es) v) (l := es) (a0 := ()) (fun rest _ => kB v rest = kB v es) hb.1 (by omega) rfl rfl
    ·intro i e rest a hi hd hil hJ
     have hrow := bQ _ _ _ hi;have ih := sC v k e (by have := bX es i _ hi; omega) (bL es i _ hb.2 hi) h h.length;have hlt := di hil;rw [kB] at hJ;generalize yu v e = x at ih hJ;obtain ⟨op', n', cp', es'⟩ := e;cases x
     ·(repeat' (first | apply ab | refine ah U U ?_ | refine af U U ?_ | (refine Wo 4 U ?_;refine Tc 4 U (Tt U U ‹_› (Tn ?_))) | refine Wr 5 U U ?_ | (refine Wo 6 U ?_;refine Tc 3 U (Tg U (aq U U U U U ‹_›) ?_) <;> refine Tg U U (Tc 1 U (Tf U (aa U U U U ‹_›) U ?_)) <;> refine Tn ?_) | apply ak | apply ae))
      exact ⟨(), rfl, by simpa using hJ⟩
     ·(repeat' (first | apply ab | refine ah U U ?_ | (refine Wo 4 U ?_;refine Tc 4 U (Tt U U ‹_› (Tn ?_))) | (refine Wo 6 U ?_;refine Tc 3 U (Tg U (aq U U U U U ‹_›) ?_) <;> refine Tg U U (Tc 1 U (Tt U (aa U U U U ‹_›) U ?_)) <;> refine Tn ?_) | refine Wr 7 U U ?_ | apply ak | apply ae | apply am))
      exact ⟨.inl rfl, by rw [<- hJ]; rfl⟩
    ·intro a hJ
     have hlt := dj (l := es);(repeat' (first | apply ab | refine af U U ?_ | (refine Wo 4 U ?_;refine Tc 4 U (Tf U U ‹_› (Tn ?_))) | refine Wr 8 U U ?_ | apply am | apply aC));exact ⟨.inl rfl, by rw [<- hJ]; rfl⟩
  | false =>
   apply ai Tryz.func97 U (Nb U) U U;(repeat' (first | apply ab | refine af U U ?_ | refine Wr 0 U U ?_ | (refine Wo 1 U ?_;refine Tc 2 U (Tf U U ‹_› (Tc 4 U (Tk U (Tc 1 U (Tn ?_)))))) | refine Wr 3 U U ?_ | apply ak | apply ae));apply cg (S := rdS h h.length (.mk op n cp es) v) (l := es) (a0 := ()) (fun rest _ => kB v rest = kB v es) hb.1 (by omega) rfl rfl
   ·intro i e rest a hi hd hil hJ
    have hrow := bQ _ _ _ hi;have ih := sC v k e (by have := bX es i _ hi; omega) (bL es i _ hb.2 hi) h h.length;have hlt := di hil;rw [kB] at hJ;generalize yu v e = x at ih hJ;obtain ⟨op', n', cp', es'⟩ := e;cases x
    ·(repeat' (first | apply ab | refine ah U U ?_ | refine af U U ?_ | (refine Wo 4 U ?_;refine Tc 4 U (Tt U U ‹_› (Tn ?_))) | refine Wr 5 U U ?_ | (refine Wo 6 U ?_;refine Tc 3 U (Tg U (aq U U U U U ‹_›) ?_) <;> refine Tg U U (Tc 1 U (Tf U (aa U U U U ‹_›) U ?_)) <;> refine Tn ?_) | apply ak | apply ae))
     exact ⟨(), rfl, by simpa using hJ⟩
    ·(repeat' (first | apply ab | refine ah U U ?_ | (refine Wo 4 U ?_;refine Tc 4 U (Tt U U ‹_› (Tn ?_))) | (refine Wo 6 U ?_;refine Tc 3 U (Tg U (aq U U U U U ‹_›) ?_) <;> refine Tg U U (Tc 1 U (Tt U (aa U U U U ‹_›) U ?_)) <;> refine Tn ?_) | refine Wr 7 U U ?_ | apply ak | apply ae | apply am))
     exact ⟨.inl rfl, by rw [<- hJ]; rfl⟩
   ·intro a hJ
    have hlt := dj (l := es);(repeat' (first | apply ab | refine af U U ?_ | (refine Wo 4 U ?_;refine Tc 4 U (Tf U U ‹_› (Tn ?_))) | refine Wr 8 U U ?_ | apply am | apply aC));exact ⟨.inl rfl, by rw [<- hJ]; rfl⟩
mutual
def vX (c : Int) : aF -> aF
 | .mk op n _ es => .mk op n (if op == 1 then c else 0) (gZ c es)
def gZ (c : Int) : List aF -> List aF
 | [] => []
 | e :: es => vX c e :: gZ c es
end
def H7 (h : aj) (e : aF) (c cp : Int) (i : Int) (a : List aF) : St :=
 match e with
 | .mk op n _ _ => { env := [(1, .v (.int .i64 c)), (2, .p 2 0), (4, .p 4 0), (5, .p 5 0), (6, .v (.int .i64 i))], loc := [(2, cT e), (4, [.int .i64 0, .int .i64 0, .int .i64 0, .nils]), (5, [.int .i64 op, .int .i64 n, .int .i64 cp, bo h 4 (bc a)])], heap := aQ h 31 (bc a), inRound := false, lo := h.length }
theorem lN (c : Int) : ∀ (k : Nat) (e : aF), cM e <= k -> cM e <= 1000000 -> dP e -> ∀ (h : aj) (lo : Nat), call Tryz.prog ba k lo (.func 54) [.agg (cT e), .int .i64 c] h = some (.agg (cT (vX c e)), h)
 | 0, e, hk, _, _, _, _ => by have := fA e; omega
 | k + 1, .mk op n cp es, hk, hK, hb, h, lo => by
  rw [cM] at hk hK;rw [dP] at hb;have hlen := bB es;have hfin := fun cc => uy h op n cc (gZ c es)
  rw [vX];cases hop : (op == 1) with
  | true =>
   rw [if_pos rfl];have hfin := hfin c;apply ai Tryz.func54 U (Nb U) U U;(repeat' (first | apply ab | refine ah U U ?_ | refine Wr 0 U U ?_ | refine Wr 1 U U ?_ | (refine Wo 2 U ?_;refine Tc 2 U (Tt U U ‹_› (Tn ?_))) | refine Wr 3 U U ?_ | refine Wr 4 U U ?_ | apply ae));apply aS (S := H7 h (.mk op n cp es) c c) (l := es) (a0 := []) (fun i rest a => a ++ gZ c rest = gZ c es /\ a.length = i) hb.1 (by omega) rfl ⟨rfl, rfl⟩
   ·intro i e rest a hi hd hil hJ
    have hrow := bQ _ _ _ hi;have hlt := di hil;have hm := bX es i _ hi;have ih := lN c k e (by omega) (by omega) (bL es i _ hb.2 hi) (aQ h 31 (bc a)) (aQ h 31 (bc a)).length;have ih' := lN c k e (by omega) (by omega) (bL es i _ hb.2 hi) (aQ h 31 (bc a)) h.length;have hap := jE h a (vX c e) (by omega);rw [gZ] at hJ;generalize vX c e = e2 at ih ih' hap hJ;obtain ⟨op', n', cp', es'⟩ := e;obtain ⟨op2, n2, cp2, es2⟩ := e2;rcases a with _ | ⟨a0, a⟩
    ·(repeat' (first | apply ab | refine ah U U ?_ | (refine Wo 5 U ?_;refine Tc 4 U (Tt U U ‹_› (Tn ?_))) | refine Wr 6 U U ?_ | (refine Wd 7 [0,1,0,4,0,28,60,0,252,508,1023,2047,4095] U U (by decide +kernel) ?_;refine Uf U U U (Uf U U U (Uf U U U (Uf U U U (Uf U U U (Uf U (aq U U U U U ‹_›) U ?_))))) <;> refine Uf U U U (Uf U U U (Uf U (aa U U U U ‹_›) U ?_)) <;> refine Uf U U U (Uo U (aN U U U U U ‹_›) ?_) <;> refine Uo U U (Uo U U (Un ?_))) | apply ak | apply ae))
     exact ⟨[] ++ [.mk op2 n2 cp2 es2], rfl, by rw [<- hJ.1]; simp, by simp [hJ.2]⟩
    ·(repeat' (first | apply ab | refine ah U U ?_ | (refine Wo 5 U ?_;refine Tc 4 U (Tt U U ‹_› (Tn ?_))) | refine Wr 6 U U ?_ | (refine Wd 7 [0,1,0,4,0,28,60,0,252,508,1023,2047,4095] U U (by decide +kernel) ?_;refine Uf U U U (Uf U U U (Uf U U U (Uf U U U (Uf U U U (Uf U (aq U U U U U ‹_›) U ?_))))) <;> refine Uf U U U (Uf U U U (Uf U (aa U U U U ‹_›) U ?_)) <;> refine Uf U U U (Uo U (aN U U U U U ‹_›) ?_) <;> refine Uo U U (Uo U U (Un ?_))) | apply ak | apply ae))
     exact ⟨a0 :: a ++ [.mk op2 n2 cp2 es2], rfl, by rw [<- hJ.1]; simp, by have := hJ.2; simp at this ⊢; omega⟩
   ·intro a hJ
    have hlt := dj (l := es);have ha : a = gZ c es := by simpa [gZ] using hJ.1
    subst ha;(repeat' (first | apply ab | refine af U U ?_ | (refine Wo 5 U ?_;refine Tc 4 U (Tf U U ‹_› (Tn ?_))) | refine Wr 8 U U ?_ | apply am | apply aC));exact ⟨.inl rfl, hfin⟩
  | false =>
   rw [if_neg (by simp)];have hfin := hfin 0;apply ai Tryz.func54 U (Nb U) U U;(repeat' (first | apply ab | refine af U U ?_ | refine Wr 0 U U ?_ | refine Wr 1 U U ?_ | (refine Wo 2 U ?_;refine Tc 2 U (Tf U U ‹_› (Tn ?_))) | refine Wr 4 U U ?_ | apply ak | apply ae));apply aS (S := H7 h (.mk op n cp es) c 0) (l := es) (a0 := []) (fun i rest a => a ++ gZ c rest = gZ c es /\ a.length = i) hb.1 (by omega) rfl ⟨rfl, rfl⟩
   ·intro i e rest a hi hd hil hJ
    have hrow := bQ _ _ _ hi;have hlt := di hil;have hm := bX es i _ hi;have ih := lN c k e (by omega) (by omega) (bL es i _ hb.2 hi) (aQ h 31 (bc a)) (aQ h 31 (bc a)).length;have ih' := lN c k e (by omega) (by omega) (bL es i _ hb.2 hi) (aQ h 31 (bc a)) h.length;have hap := jE h a (vX c e) (by omega);rw [gZ] at hJ;generalize vX c e = e2 at ih ih' hap hJ;obtain ⟨op', n', cp', es'⟩ := e;obtain ⟨op2, n2, cp2, es2⟩ := e2;rcases a with _ | ⟨a0, a⟩
    ·(repeat' (first | apply ab | refine ah U U ?_ | (refine Wo 5 U ?_;refine Tc 4 U (Tt U U ‹_› (Tn ?_))) | refine Wr 6 U U ?_ | (refine Wd 7 [0,1,0,4,0,28,60,0,252,508,1023,2047,4095] U U (by decide +kernel) ?_;refine Uf U U U (Uf U U U (Uf U U U (Uf U U U (Uf U U U (Uf U (aq U U U U U ‹_›) U ?_))))) <;> refine Uf U U U (Uf U U U (Uf U (aa U U U U ‹_›) U ?_)) <;> refine Uf U U U (Uo U (aN U U U U U ‹_›) ?_) <;> refine Uo U U (Uo U U (Un ?_))) | apply ak | apply ae))
     exact ⟨[] ++ [.mk op2 n2 cp2 es2], rfl, by rw [<- hJ.1]; simp, by simp [hJ.2]⟩
    ·(repeat' (first | apply ab | refine ah U U ?_ | (refine Wo 5 U ?_;refine Tc 4 U (Tt U U ‹_› (Tn ?_))) | refine Wr 6 U U ?_ | (refine Wd 7 [0,1,0,4,0,28,60,0,252,508,1023,2047,4095] U U (by decide +kernel) ?_;refine Uf U U U (Uf U U U (Uf U U U (Uf U U U (Uf U U U (Uf U (aq U U U U U ‹_›) U ?_))))) <;> refine Uf U U U (Uf U U U (Uf U (aa U U U U ‹_›) U ?_)) <;> refine Uf U U U (Uo U (aN U U U U U ‹_›) ?_) <;> refine Uo U U (Uo U U (Un ?_))) | apply ak | apply ae))
     exact ⟨a0 :: a ++ [.mk op2 n2 cp2 es2], rfl, by rw [<- hJ.1]; simp, by have := hJ.2; simp at this ⊢; omega⟩
   ·intro a hJ
    have hlt := dj (l := es);have ha : a = gZ c es := by simpa [gZ] using hJ.1
    subst ha;(repeat' (first | apply ab | refine af U U ?_ | (refine Wo 5 U ?_;refine Tc 4 U (Tf U U ‹_› (Tn ?_))) | refine Wr 8 U U ?_ | apply am | apply aC));exact ⟨.inl rfl, hfin⟩
mutual
def vY (c : Int) : aF -> aF
 | .mk op n cp es => .mk op n (if op == 1 then c else cp) (lq c es)
def lq (c : Int) : List aF -> List aF
 | [] => []
 | e :: es => vY c e :: lq c es
end
def H8 (h : aj) (e : aF) (c cp : Int) (i : Int) (a : List aF) : St :=
 match e with
 | .mk op n _ es => { env := [(1, .v (.int .i64 c)), (2, .p 2 0), (4, .p 4 0), (5, .v (bo h 4 (bc a))), (14, .v (.vs 4 (bc es))), (15, .v (.int .i64 (bc es).length)), (16, .v (.int .i64 i))], loc := [(2, cT (.mk op n cp es)), (4, [.int .i64 0, .int .i64 0, .int .i64 0, .nils])], heap := aQ h 31 (bc a), inRound := false, lo := h.length }
theorem mQ (c : Int) : ∀ (k : Nat) (e : aF), cM e <= k -> cM e <= 1000000 -> dP e -> ∀ (h : aj) (lo : Nat), call Tryz.prog ba k lo (.func 39) [.agg (cT e), .int .i64 c] h = some (.agg (cT (vY c e)), h)
 | 0, e, hk, _, _, _, _ => by have := fA e; omega
 | k + 1, .mk op n cp es, hk, hK, hb, h, lo => by
  rw [cM] at hk hK;rw [dP] at hb;have hlen := bB es;have hfin := fun cc => uy h op n cc (lq c es)
  rw [vY];cases hop : (op == 1) with
  | true =>
   rw [if_pos rfl];have hfin := hfin c;apply ai Tryz.func39 U (Nb U) U U;(repeat' (first | apply ab | refine ah U U ?_ | refine Wr 0 U U ?_ | (refine Wo 1 U ?_;refine Tc 2 U (Tt U U ‹_› (Tn ?_))) | refine Wr 2 U U ?_ | refine Wr 3 U U ?_ | refine Wr 4 U U ?_ | apply ae));apply aS (S := H8 h (.mk op n cp es) c c) (l := es) (a0 := []) (fun i rest a => a ++ lq c rest = lq c es /\ a.length = i) hb.1 (by omega) rfl ⟨rfl, rfl⟩
   ·intro i e rest a hi hd hil hJ
    have hrow := bQ _ _ _ hi;have hlt := di hil;have hm := bX es i _ hi;have ih' := mQ c k e (by omega) (by omega) (bL es i _ hb.2 hi) (aQ h 31 (bc a)) h.length;have hap := jE h a (vY c e) (by omega);rw [lq] at hJ;generalize vY c e = e2 at ih' hap hJ;obtain ⟨op', n', cp', es'⟩ := e;obtain ⟨op2, n2, cp2, es2⟩ := e2;(repeat' (first | apply ab | refine ah U U ?_ | (refine Wo 5 U ?_;refine Tt U U ‹_› (Tn ?_)) | (refine Wo 6 U ?_;refine Tg U (aq U U U U U ‹_›) ?_ <;> refine Tg U U (Tc 2 U (Tn ?_))) | (refine Wo 7 U ?_;refine Tc 3 U (Tg U (aa U U U U ‹_›) ?_) <;> refine Tc 1 U (Tg U (aN U U U U U ‹_›) ?_) <;> refine Tc 1 U (Tn ?_)) | refine Wr 8 U U ?_ | apply ak | apply ae));exact ⟨a ++ [.mk op2 n2 cp2 es2], rfl, by rw [<- hJ.1]; simp, by simp [hJ.2]⟩
   ·intro a hJ
    have hlt := dj (l := es);have ha : a = lq c es := by simpa [lq] using hJ.1
    generalize lq c es = R at ha hfin ⊢;subst ha;rcases a with _ | ⟨a0, a⟩ <;>
    ·(repeat' (first | apply ab | refine af U U ?_ | (refine Wo 5 U ?_;refine Tf U U ‹_› (Tn ?_)) | refine Wr 9 U U ?_ | refine Wr 10 U U ?_ | apply am | apply aC))
     exact ⟨.inl rfl, hfin⟩
  | false =>
   rw [if_neg (by simp)];have hfin := hfin cp;apply ai Tryz.func39 U (Nb U) U U;(repeat' (first | apply ab | refine af U U ?_ | refine Wr 0 U U ?_ | (refine Wo 1 U ?_;refine Tc 2 U (Tf U U ‹_› (Tn ?_))) | refine Wr 3 U U ?_ | refine Wr 4 U U ?_ | apply ak | apply ae));apply aS (S := H8 h (.mk op n cp es) c cp) (l := es) (a0 := []) (fun i rest a => a ++ lq c rest = lq c es /\ a.length = i) hb.1 (by omega) rfl ⟨rfl, rfl⟩
   ·intro i e rest a hi hd hil hJ
    have hrow := bQ _ _ _ hi;have hlt := di hil;have hm := bX es i _ hi;have ih' := mQ c k e (by omega) (by omega) (bL es i _ hb.2 hi) (aQ h 31 (bc a)) h.length;have hap := jE h a (vY c e) (by omega);rw [lq] at hJ;generalize vY c e = e2 at ih' hap hJ;obtain ⟨op', n', cp', es'⟩ := e;obtain ⟨op2, n2, cp2, es2⟩ := e2;(repeat' (first | apply ab | refine ah U U ?_ | (refine Wo 5 U ?_;refine Tt U U ‹_› (Tn ?_)) | (refine Wo 6 U ?_;refine Tg U (aq U U U U U ‹_›) ?_ <;> refine Tg U U (Tc 2 U (Tn ?_))) | (refine Wo 7 U ?_;refine Tc 3 U (Tg U (aa U U U U ‹_›) ?_) <;> refine Tc 1 U (Tg U (aN U U U U U ‹_›) ?_) <;> refine Tc 1 U (Tn ?_)) | refine Wr 8 U U ?_ | apply ak | apply ae));exact ⟨a ++ [.mk op2 n2 cp2 es2], rfl, by rw [<- hJ.1]; simp, by simp [hJ.2]⟩
   ·intro a hJ
    have hlt := dj (l := es);have ha : a = lq c es := by simpa [lq] using hJ.1
    generalize lq c es = R at ha hfin ⊢;subst ha;rcases a with _ | ⟨a0, a⟩ <;>
    ·(repeat' (first | apply ab | refine af U U ?_ | (refine Wo 5 U ?_;refine Tf U U ‹_› (Tn ?_)) | refine Wr 9 U U ?_ | refine Wr 10 U U ?_ | apply am | apply aC))
     exact ⟨.inl rfl, hfin⟩
theorem n8 : ∀ (k : Nat) (l : List aF), cQ l + 1 <= k -> cQ l <= 1000000 -> ∀ (h : aj) (lo : Nat), call Tryz.prog ba k lo (.func 115) [.vs 4 (bc l)] h = some (.vs 4 (bc l), h)
 | 0, l, hk, _, _, _ => by have := lc l; omega
 | k + 1, l, hk, hK, h, lo => by
  have hlen := bB l;have hfin := Dx (h := h) (e := 31) (sz := 4) (by decide) (bc l) (jD l);apply ai Tryz.func115 U (Nb U) U U;(repeat' (first | apply ab | refine Wr 0 U U ?_ | refine Wr 1 U U ?_ | refine Wr 2 U U ?_ | apply ae));apply aS (S := ceS h l) (l := l) (a0 := []) (fun i rest a => a ++ rest = l /\ a.length = i) (by omega) (by omega) rfl ⟨rfl, rfl⟩
  ·intro i e rest a hi hd hil hJ
   have hrow := bQ _ _ _ hi;have hlt := di hil;have hap := jE h a e (by omega);have hm := ie l i _ hi;obtain ⟨op, n, c, es⟩ := e;rw [cM] at hm;have ih := n8 k es (by omega) (by omega) (aQ h 31 (bc a)) h.length;(repeat' (first | apply ab | refine ah U U ?_ | (refine Wo 3 U ?_;refine Tt U U ‹_› (Tn ?_)) | (refine Wo 4 U ?_;refine Tg U (aq U U U U U ‹_›) ?_ <;> refine Tg U U (Tc 2 U (Tn ?_))) | (refine Wo 5 U ?_;refine Tc 2 U (Tg U (aa U U U U ‹_›) ?_) <;> refine Tc 2 U (Tn ?_)) | (refine Wo 6 U ?_;refine Tc 3 U (Tg U (aN U U U U U ‹_›) ?_) <;> refine Tc 1 U (Tn ?_)) | refine Wr 7 U U ?_ | apply ak | apply ae));exact ⟨a ++ [.mk op n c es], rfl, by rw [<- hJ.1]; simp, by simp [hJ.2]⟩
  ·intro a hJ
   have hlt := dj (l := l);(repeat' (first | apply ab | refine af U U ?_ | (refine Wo 3 U ?_;refine Tf U U ‹_› (Tn ?_)) | refine Wr 8 U U ?_ | apply am | apply aC));have : a = l := by simpa using hJ.1
   subst this;exact ⟨.inl rfl, hfin⟩
theorem sD (h : aj) (lo : Nat) (hlo : lo <= h.length) (l : List ay) (s : ay) (hl : l.length < 1000000) : append ba.tab lo (aQ h 64 (br l)) 23 (bo h 5 (br l)) (.vs 5 [ig s]) = some (bo h 5 (br (l ++ [s])), aQ h 64 (br (l ++ [s]))) := by
 have := cy (tab := ba.tab) (lo := lo) (h := h) (t := 23) (e := 64) rfl rfl (by decide) hlo (br l) [ig s] (fun r hr => (rR l r hr).1) (by rw [eC]; simp only [List.length_cons, List.length_nil, ca]; show (l.length + (0 + 1)) * 88 <= _; omega) (by rw [eC]; simp [ca]; omega);rw [this];simp [vO]
theorem xV {h h0 H : aj} {e sz : Nat} (rows : List (List AV)) (hr : ∀ r, r ∈ rows -> r.length = sz /\ ∀ x, x ∈ r -> bh x = true) (hlo : h0.length <= h.length) (hH : rows ≠ [] -> H[h.length]? = some (.cells e rows.flatten)) : er H h0.length (bo h sz rows) = some (bg sz rows) := by
 cases rows with
 | nil => rfl
 | cons r l => exact xx (T := e) (r :: l) hr (hH (by simp)) hlo
theorem Co (h : aj) (op n : Int) (a : List aF) (t e : List ay) : fk (some ⟨0, [0, 0, 4, 5, 5]⟩) true h (.agg [.int .i64 op, .int .i64 n, .vs 4 (bc a), bo h 5 (br t), bo (aQ h 64 (br t)) 5 (br e)]) (aQ (aQ h 64 (br t)) 64 (br e)) = some (.agg (ig (.mk op n a t e)), h) := by
 generalize hH : aQ (aQ h 64 (br t)) 64 (br e) = H;have h1 : er H h.length (bo h 5 (br t)) = some (bg 5 (br t)) := by
  refine xV (e := 64) (br t) (rR t) (Nat.le_refl _) (fun hne => ?_);rw [<- hH];cases t with
  | nil => exact absurd rfl hne
  | cons x t =>
   cases e with
   | nil => simp [br, aQ]
   | cons y e => simp [br, aQ]
 have h2 : er H h.length (bo (aQ h 64 (br t)) 5 (br e)) = some (bg 5 (br e)) := by
  refine xV (e := 64) (br e) (rR e) (by cases t <;> simp [br, aQ]) (fun hne => ?_);rw [<- hH];cases e with
  | nil => exact absurd rfl hne
  | cons y e => simp [br, aQ]
 have hi : ∀ (z : Int), er H h.length (.int .i64 z) = some (.int .i64 z) := fun _ => rfl
 have hv : er H h.length (.vs 4 (bc a)) = some (.vs 4 (bc a)) := rfl;have h3 : frz H h.length (.agg [.int .i64 op, .int .i64 n, .vs 4 (bc a), bo h 5 (br t), bo (aQ h 64 (br t)) 5 (br e)]) = some (.agg [.int .i64 op, .int .i64 n, .vs 4 (bc a), bg 5 (br t), bg 5 (br e)]) := by
  simp only [frz, i9, we, hi, hv, h1, h2]
 have z5 : ∀ rows : List (List AV), lQ 5 (bg 5 rows) = .vs 5 rows := fun rows => by cases rows <;> simp [bg, lQ]
 have z4 : lQ 4 (.vs 4 (bc a)) = .vs 4 (bc a) := rfl;unfold fk ja;simp only [if_true, h3, Gz, eS, z5, z4, ig]
 rfl
def cdS (h : aj) (s : ay) (l : List ay) (i : Int) (a : List ay) : St :=
 {env := [(1, .p 1 0), (2, .p 2 0), (3, .v (bo h 5 (br a))), (4, .v .nils), (14, .v (.vs 5 (br l))), (15, .v (.int .i64 (br l).length)), (16, .v (.int .i64 i))], loc := [(1, ig s), (2, [.int .i64 0, .int .i64 0, .nils, .nils, .nils])], heap := aQ h 64 (br a), inRound := false, lo := h.length }
def ceeS (h0 h : aj) (v : AV) (s : ay) (l : List ay) (i : Int) (a : List ay) : St :=
 {env := [(1, .p 1 0), (2, .p 2 0), (3, .v v), (4, .v (bo h 5 (br a))), (27, .v (.vs 5 (br l))), (28, .v (.int .i64 (br l).length)), (29, .v (.int .i64 i))], loc := [(1, ig s), (2, [.int .i64 0, .int .i64 0, .nils, .nils, .nils])], heap := aQ h 64 (br a), inRound := false, lo := h0.length }
theorem i6 : ∀ (k : Nat) (s : ay), iy s + 1 <= k -> iy s <= 100000 -> ∀ (h : aj) (lo : Nat), call Tryz.prog ba k lo (.func 75) [.agg (ig s)] h = some (.agg (ig s), h)
 | 0, s, hk, _, _, _ => by omega
 | k + 1, .mk op n a t e, hk, hK, h, lo => by
  rw [iy] at hk hK;have hlt' := b9 t;have hle' := b9 e;have hp1 := lc a;have hC := n8 k a (by omega) (by omega) h h.length;have hfin := Co h op n a t e;apply ai Tryz.func75 U (Nb U) U U;(repeat' (first | apply ab | refine Wr 0 U U ?_ | (refine Wo 1 U ?_;refine Tc 2 U (Tg U (aa U U U U ‹_›) ?_) <;> refine Tc 2 U (Tn ?_)) | refine Wr 2 U U ?_ | refine Wr 3 U U ?_ | apply ae));apply aS (S := cdS h (.mk op n a t e) t) (l := t) (a0 := []) (fun i rest b => b ++ rest = t /\ b.length = i) (by omega) (by omega) rfl ⟨rfl, rfl⟩
  ·intro i s rest b hi hd hil hJ
   have hrow := de _ _ _ hi;have hlt := f5 hil;have hap := sD h h.length (Nat.le_refl _) b s (by omega);have hm := jt t i _ hi;have ih := i6 k s (by omega) (by omega) (aQ h 64 (br b)) h.length;obtain ⟨op', n', a', t', e'⟩ := s;(repeat' (first | apply ab | refine ah U U ?_ | (refine Wo 4 U ?_;refine Tt U U ‹_› (Tn ?_)) | (refine Wo 5 U ?_;refine Tg U (aq U U U U U ‹_›) ?_ <;> refine Tg U U (Tc 2 U (Tn ?_))) | (refine Wo 6 U ?_;refine Tc 2 U (Tg U (aa U U U U ‹_›) ?_) <;> refine Tc 1 U (Tg U (aN U U U U U ‹_›) ?_) <;> refine Tc 1 U (Tn ?_)) | refine Wr 7 U U ?_ | apply ak | apply ae));exact ⟨b ++ [.mk op' n' a' t' e'], rfl, by rw [<- hJ.1]; simp, by simp [hJ.2]⟩
  ·intro b hJ
   have hlt := f8 (l := t);have : b = t := by simpa using hJ.1
   subst this;(repeat' (first | apply ab | refine af U U ?_ | (refine Wo 4 U ?_;refine Tf U U ‹_› (Tn ?_)) | refine Wr 8 U U ?_ | apply ae | apply aC));have hlo1 : h.length <= (aQ h 64 (br b)).length := by cases b <;> simp [br, aQ]
   apply aS (S := ceeS h (aQ h 64 (br b)) (bo h 5 (br b)) (.mk op n a b e) e) (l := e) (a0 := []) (fun i rest c => c ++ rest = e /\ c.length = i) (by omega) (by omega) rfl ⟨rfl, rfl⟩
   ·intro i s rest c hi hd hil hJ2
    have hrow := de _ _ _ hi;have hlt := f5 hil;have hap := sD (aQ h 64 (br b)) h.length hlo1 c s (by omega);have hm := jt e i _ hi;have ih := i6 k s (by omega) (by omega) (aQ (aQ h 64 (br b)) 64 (br c)) h.length;obtain ⟨op', n', a', t', e'⟩ := s;(repeat' (first | apply ab | refine ah U U ?_ | (refine Wo 9 U ?_;refine Tt U U ‹_› (Tn ?_)) | (refine Wo 10 U ?_;refine Tg U (aq U U U U U ‹_›) ?_ <;> refine Tg U U (Tc 2 U (Tn ?_))) | (refine Wo 11 U ?_;refine Tc 2 U (Tg U (aa U U U U ‹_›) ?_) <;> refine Tc 1 U (Tg U (aN U U U U U ‹_›) ?_) <;> refine Tc 1 U (Tn ?_)) | refine Wr 12 U U ?_ | apply ak | apply ae));exact ⟨c ++ [.mk op' n' a' t' e'], rfl, by rw [<- hJ2.1]; simp, by simp [hJ2.2]⟩
   ·intro c hJ2
    have hlt := f8 (l := e);have : c = e := by simpa using hJ2.1
    subst this;cases b <;> cases c <;>
    ·(repeat' (first | apply ab | refine af U U ?_ | (refine Wo 9 U ?_;(refine aK U ?_; first | refine aT U U ?_ | refine aT U ‹_› ?_) <;> refine Tn ?_) | refine Wr 13 U U ?_ | refine Wr 14 U U ?_ | apply am | apply aC))
     exact ⟨.inl rfl, hfin⟩
def em (l : List (Int × Int)) : List (AV × AV) := l.map fun x => (.int .i64 x.1, .int .i64 x.2)
def tf : List (Int × Int) -> Int -> Int -> List (Int × Int)
 | [], n, v => [(n, v)]
 | (a, b) :: l, n, v => if n = a then (n, v) :: l else (a, b) :: tf l n v
theorem xW (n v : Int) : ∀ l : List (Int × Int), gC (.int .i64) (em l) (.int .i64 n) (.int .i64 v) = some (em (tf l n v))
 | [] => rfl
 | (a, b) :: l => by
  have ih := xW n v l;simp only [em] at ih;simp only [em, List.map_cons, gC, gm, tf]
  by_cases h : n = a
  ·subst h; simp
  ·have hb : (n == a) = false := by simpa using h
   simp [h, hb, ih]
section
variable {C : dO} {K : Ev.Callee} {f : Nat} {s : St} {o : Oper}
theorem Ed {t kt e id sz by_ : Nat} {zr : List AV} {m k v : Operand} {n z : Int} {l : List (Int × Int)} (ho : o.op = .mapUpdate t m k v) (ht : Go.Ev.look C.tab t = some ⟨.map kt e, sz, by_, zr⟩) (hk : ∃ a b c, Go.Ev.look C.tab kt = some ⟨.int .i64, a, b, c⟩)
  (hm : s.val m = some (.mp id)) (hx : s.val k = some (.int .i64 n)) (hv : s.val v = some (.int .i64 z)) (hH : s.heap[id]? = some (.map (em l))) (hlo : s.lo <= id) :
  aE C K f o s = some (({ s with heap := s.heap.set id (.map (em (tf l n z))) } : St).putv o.dst (.tup [])) := by
 obtain ⟨a, b, c, hk⟩ := hk;unfold aE;rw [ho];dsimp only;rw [hm, hx, hv, ht];dsimp only;rw [hH];simp only [fj, hk, if_pos hlo, xW, Option.map_some]
end
def yU {σ : Type} (upd : σ -> Int -> ay -> σ) (x : σ) (n : Int) (s : ay) : Bool × σ := (true, upd x n s)
def H9 (L0 : Nat) (p : bp) (n : Int) : aj := [.cells 176 [.fn (.yield L0) []]] ++ [.cells 25 (bY p)] ++ [.dead] ++ [.cells 3 [.int .i64 n]]
abbrev PO (p : bp) : ap := .cells 25 (bY p)
theorem Cp {σ : Type} (upd : σ -> Int -> ay -> σ) (HT : σ -> aj) (L lo kY : Nat) (hL : ∀ x, (HT x).length = L) (hlo : lo <= L) (C1 : ap) (rc : fL) (p : bp) (hb : lB p) (x0 : σ) (N : Nat)
  (kM : Nat) (hY : ∀ (k : Nat) (s : ay) (x : σ) (n m : Int), iy s + kY <= k -> k <= kM -> kP s -> call Tryz.prog ba k lo (.yield N) [.int .i64 n, .agg (ig s)] (HT x ++ [C1] ++ [PO p] ++ [.loop rc] ++ [.cells 3 [.int .i64 m]]) = some (.bool true, HT (upd x n s) ++ [C1] ++ [PO p] ++ [.loop rc] ++ [.cells 3 [.int .i64 m]]))
  (k : Nat) (hk : bA p.body + kY + 3 <= k) (hkM : k <= kM + 1) :
  call Tryz.prog ba k lo (.func 113) [.fn (.yield N) [], .hp (HT x0 ++ [C1]).length 3 0] (HT x0 ++ [C1] ++ [PO p] ++ [.loop rc]) = some (.tup [], HT (bR (yU upd) p.body x0 0).2.1 ++ [C1] ++ [PO p] ++ [.loop rc] ++ [.cells 3 [.int .i64 (bR (yU upd) p.body x0 0).2.2]]) := by
 have := mC (yU upd) (fun _ => True) (fun _ _ _ _ _ => trivial) (fun x => HT x ++ [C1] ++ [PO p] ++ [ap.loop rc]) (L + 3) lo (fun x => by simp [hL]) (by omega) (.yield N) kY kM p hb (HT x0 ++ [C1]).length x0 trivial
  (by simp) (fun k s x n m h1 h2 h3 _ => hY k s x n m h1 h2 h3) (k - 1) (by omega) (by omega)
 rw [show k - 1 + 1 = k by omega] at this
 exact this
theorem Ee {σ : Type} (upd : σ -> Int -> ay -> σ) (HT : σ -> aj) (L lo kY : Nat) (hL : ∀ x, (HT x).length = L) (hlo : lo <= L) (L0 idp : Nat) (p : bp) (hb : lB p) (hok : sT p = true) (hK : bA p.body <= 90000) (hp : ∀ x, (HT x)[idp]? = some (.cells 25 (bY p)))
  (hY : ∀ (k : Nat) (s : ay) (x : σ) (n : Int) (tail : aj), iy s + kY <= k -> kP s -> call Tryz.prog ba k lo (.yield L0) [.int .i64 n, .agg (ig s)] (HT x ++ tail) = some (.bool true, HT (upd x n s) ++ tail))
  (k : Nat) (hk : bA p.body + kY + 200 <= k) (hkM : k <= 90000) (x0 : σ) :
  call Tryz.prog ba (k + 1) lo (.func 116) [.fn (.yield L0) [], .hp idp 3 0] (HT x0) = some (.tup [], HT (bR (yU upd) p.body x0 0).2.1 ++ H9 L0 p (bR (yU upd) p.body x0 0).2.2) := by
 have hC := mD p (k - 1) (by omega) hb (HT x0 ++ [.cells 176 [.fn (.yield L0) []]]) lo;rw [show k - 1 + 1 = k by omega, hok] at hC
 have hE := rC p (k - 1) lo (HT x0 ++ [.cells 176 [.fn (.yield L0) []]]);rw [show k - 1 + 1 = k by omega] at hE
 have hlp : idp < L := by have := aV (hp x0); rw [hL] at this; exact this
 have hp0 : (HT x0 ++ [ap.cells 176 [.fn (.yield L0) []]])[idp]? = some (.cells 25 (bY p)) := by
  rw [List.getElem?_append_left (by rw [hL]; exact hlp)]; exact hp x0
 generalize hC1 : ap.cells 176 [.fn (.yield L0) []] = C1 at *;have hlen : ∀ x, (HT x0 ++ [C1] ++ [PO p]).length = (HT x ++ [C1] ++ [PO p]).length := fun x => by simp [hL]
 have hset : ∀ (x : σ) (A c Y : ap), (HT x ++ [C1] ++ [PO p] ++ [A] ++ [c]).set (HT x0 ++ [C1] ++ [PO p]).length Y = HT x ++ [C1] ++ [PO p] ++ [Y] ++ [c] := fun x A c Y => by
  rw [hlen x]; simp [List.set_append]
 have hgetN : ∀ (x : σ) (A c : ap), (HT x ++ [C1] ++ [PO p] ++ [A] ++ [c])[(HT x0 ++ [C1] ++ [PO p]).length]? = some A := fun x A c => by
  rw [hlen x]; simp
 have hC1g : ∀ (x : σ) (A c : ap), (HT x ++ [C1] ++ [PO p] ++ [A] ++ [c])[(HT x0).length]? = some C1 := fun x A c => by
  rw [hL x0, <- hL x]; simp
 have hlo2 : lo <= (HT x0 ++ [C1] ++ [PO p]).length := by simp [hL]; omega
 have hassoc : ∀ (x : σ) (A c : ap), HT x ++ [C1] ++ [PO p] ++ [A] ++ [c] = HT x ++ ([C1] ++ [PO p] ++ [A] ++ [c]) := fun x A c => by simp
 subst hC1;obtain ⟨w, vs, body⟩ := p;apply ai Tryz.func116 U (Nb U) U U;(repeat' (first | apply ab | refine af U U ?_ | refine Wr 0 U U ?_ | (refine Wo 1 U ?_;refine Tg U (aA U U U ‹_› U U) ?_ <;> refine Tg U (aa U U U U ‹_›) ?_ <;> refine Tf U U U (Tn ?_)) | (refine Wo 2 U ?_;refine Tg U (aA U U U ‹_› U U) ?_ <;> refine Tg U (aa U U U U ‹_›) ?_ <;> refine Tn ?_) | apply ak | apply ae));apply qe
 case hg => rfl
 case hr => rfl
 case hlo => exact hlo2
 case hK =>
  refine Cp upd HT L lo (kY + 100) hL hlo _ _ ⟨w, vs, body⟩ hb x0 _ 90000 ?_ k (by dsimp only at hk ⊢; omega) (by omega);intro k s x n m hks hkM hbs;cases k with
  | zero => omega
  | succ k =>
  obtain ⟨op, nn, a, t, e⟩ := s;refine kn (hgetN _ _ _) hlo2 rfl rfl ?_;(repeat' (first | apply ab | refine Wr 3 U U ?_ | refine Wr 4 U U ?_));refine ⟨_, hgetN _ _ _, rfl, ?_⟩;generalize hHx : List.set _ _ _ = Hx;have hH2 := hHx.symm.trans (hset x _ _ _);have hg1 : Hx[(HT x0).length]? = some (.cells 176 [.fn (.yield L0) []]) := by rw [hH2]; exact hC1g x _ _
  have hcp := i6 k (.mk op nn a t e) (by omega) (by omega) Hx Hx.length;have hy := (congrArg (fun H : aj => call Tryz.prog ba k lo (.yield L0) [.int .i64 n, .agg (ig (.mk op nn a t e))] H) (hH2.trans (hassoc x _ _))).trans ((hY k (.mk op nn a t e) x n _ (by omega) hbs).trans (congrArg (fun H : aj => some (AV.bool true, H)) (hassoc (upd x n (.mk op nn a t e)) _ _).symm));dsimp only at hy;clear hHx hH2;(repeat' (first | apply ab | refine af U U ?_ | (refine Wd 5 [0,0,0,4,15,31] U U (by decide +kernel) ?_;refine Uf U (aA U U U ‹_› U U) U ?_ <;> refine Uf U U U (Uf U U U (Uf U (aa U U U U ‹_›) U ?_)) <;> refine Ut U (aa U U U U ‹_›) U ?_ <;> refine Uo U U (Un ?_)) | apply ak | apply ae));exact ⟨_, hgetN (upd x n (.mk op nn a t e)) _ _, congrArg (fun H : aj => (AV.bool true, H)) (hset (upd x n (.mk op nn a t e)) _ _ _).symm⟩
 case hl => exact hgetN _ _ _
 case hst => show (0 : Nat) ≠ 1; simp
 case k =>
  have hfin : HT (bR (yU upd) body x0 0).2.1 ++ [ap.cells 176 [.fn (.yield L0) []]] ++ [PO ⟨w, vs, body⟩] ++ [ap.dead] ++ [ap.cells 3 [.int .i64 (bR (yU upd) body x0 0).2.2]] = HT (bR (yU upd) body x0 0).2.1 ++ H9 L0 ⟨w, vs, body⟩ (bR (yU upd) body x0 0).2.2 := by simp [H9]
  dsimp only;exact ⟨.inr rfl, (congrArg (fun H : aj => some (AV.tup [], H)) (hset (bR (yU upd) body x0 0).2.1 _ _ ap.dead)).trans (congrArg (fun H : aj => some (AV.tup [], H)) hfin)⟩
def pg (x : List (Int × Int)) (n : Int) : ay -> List (Int × Int)
 | .mk op nn _ _ _ => if op = 0 \/ op = 4 then tf x n nn else x
theorem sF {x : List (Int × Int)} {n op nn : Int} {a : List aF} {t e : List ay} (h : op = 0 \/ op = 4) : pg x n (.mk op nn a t e) = tf x n nn := by unfold pg; dsimp only; rw [if_pos h]
theorem xX {x : List (Int × Int)} {n op nn : Int} {a : List aF} {t e : List ay} (h : ¬ (op = 0 \/ op = 4)) : pg x n (.mk op nn a t e) = x := by unfold pg; dsimp only; rw [if_neg h]
def wc (p : bp) : List (Int × Int) := (bR (yU pg) p.body [] 0).2.1
theorem FX (p : bp) (k lo : Nat) (h : aj) : call Tryz.prog ba (k + 1) lo (.func 76) [.agg (bY p)] h = some (.fn (.func 116) [.hp h.length 3 0], h ++ [.cells 25 (bY p)]) := by
 obtain ⟨w, vs, body⟩ := p;apply ai Tryz.func76 U (Nb U) U U;(repeat' (first | apply ab | refine Wr 0 U U ?_ | refine Wr 1 U U ?_ | apply am));exact ⟨.inl rfl, rfl⟩
abbrev MO (h : aj) : ap := .cells 77 [.mp h.length]
abbrev X5 (h : aj) (p : bp) (M A : ap) (tail : aj) : aj := h ++ [M] ++ [MO h] ++ [PO p] ++ [A] ++ tail
theorem vZ (h : aj) (lo : Nat) (hlo : lo <= h.length) (rc : fL) (p : bp) (hb : lB p) (hok : sT p = true) (hK : bA p.body <= 80000) (k : Nat) (hk : bA p.body + 400 <= k) (hkM : k <= 90000) (HA : aj) (hHA : HA = h ++ [.map (em [])] ++ [MO h])
  (hY : ∀ (k : Nat) (s : ay) (x : List (Int × Int)) (n : Int) (tail : aj), iy s + 100 <= k -> kP s -> call Tryz.prog ba k lo (.yield (HA ++ [PO p]).length) [.int .i64 n, .agg (ig s)] (X5 h p (.map (em x)) (.loop rc) tail) = some (.bool true, X5 h p (.map (em (pg x n s))) (.loop rc) tail)) :
  call Tryz.prog ba k lo (.func 116) [.fn (.yield (HA ++ [PO p]).length) [], .hp HA.length 3 0] (HA ++ [PO p] ++ [.loop rc]) =
   some (.tup [], X5 h p (.map (em (wc p))) (.loop rc) (H9 (HA ++ [PO p]).length p (bR (yU pg) p.body [] 0).2.2)) := by
 subst hHA;have := Ee pg (fun x => h ++ [ap.map (em x)] ++ [MO h] ++ [PO p] ++ [ap.loop rc]) (h.length + 4) lo 100 (fun x => by simp) (by omega) (h ++ [ap.map (em [])] ++ [MO h] ++ [PO p]).length (h ++ [ap.map (em [])] ++ [MO h]).length p hb hok (by omega) (fun x => by simp) hY (k - 1) (by omega) (by omega) [];rw [show k - 1 + 1 = k by omega] at this
 exact this
theorem xY (p : bp) (hb : lB p) (hok : sT p = true) (hK : bA p.body <= 80000) (k : Nat) (hk : bA p.body + 400 <= k) (hkM : k <= 90000) (h : aj) (lo : Nat) (hlo : lo <= h.length) :
  ∃ tail : aj, call Tryz.prog ba (k + 1) lo (.func 31) [.agg (bY p)] h = some (.mp h.length, h ++ [.map (em (wc p))] ++ tail) := by
 refine ⟨[MO h] ++ [PO p] ++ [.dead] ++ H9 ((h ++ [ap.map []] ++ [ap.cells 77 [.nilm]]).set (h ++ [ap.map []]).length (MO h) ++ [PO p]).length p (bR (yU pg) p.body [] 0).2.2, ?_⟩;have g1 : (h ++ [ap.map []] ++ [ap.cells 77 [.nilm]])[(h ++ [ap.map []]).length]? = some (.cells 77 [.nilm]) := by simp
 have hlo1 : lo <= (h ++ [ap.map []]).length := by simp; omega
 have hAll := FX p (k - 1) lo ((h ++ [ap.map []] ++ [ap.cells 77 [.nilm]]).set (h ++ [ap.map []]).length (MO h));rw [show k - 1 + 1 = k by omega] at hAll
 have hHA : (h ++ [ap.map []] ++ [ap.cells 77 [.nilm]]).set (h ++ [ap.map []]).length (MO h) = h ++ [.map (em [])] ++ [MO h] := by simp [List.set_append, em]
 have hN : ((h ++ [ap.map []] ++ [ap.cells 77 [.nilm]]).set (h ++ [ap.map []]).length (MO h) ++ [PO p]).length = h.length + 3 := by rw [hHA]; simp
 have hgetL : ∀ (M A : ap) (tail : aj), (X5 h p M A tail)[((h ++ [ap.map []] ++ [ap.cells 77 [.nilm]]).set (h ++ [ap.map []]).length (MO h) ++ [PO p]).length]? = some A := fun M A tail => by rw [hN]; simp [X5]
 have hsetL : ∀ (M A Y : ap) (tail : aj), (X5 h p M A tail).set ((h ++ [ap.map []] ++ [ap.cells 77 [.nilm]]).set (h ++ [ap.map []]).length (MO h) ++ [PO p]).length Y = X5 h p M Y tail := fun M A Y tail => by rw [hN]; simp [X5, List.set_append]
 have hsetM : ∀ (M A Z : ap) (tail : aj), (X5 h p M A tail).set h.length Z = X5 h p Z A tail := fun M A Z tail => by simp [X5, List.set_append]
 have hgetM : ∀ (M A : ap) (tail : aj), (X5 h p M A tail)[h.length]? = some M := fun M A tail => by simp [X5]
 have hgetC : ∀ (M A : ap) (tail : aj), (X5 h p M A tail)[(h ++ [ap.map []]).length]? = some (MO h) := fun M A tail => by simp [X5]
 have hlo2 : lo <= ((h ++ [ap.map []] ++ [ap.cells 77 [.nilm]]).set (h ++ [ap.map []]).length (MO h) ++ [PO p]).length := by rw [hN]; omega
 clear hN;obtain ⟨w, vs, body⟩ := p;apply ai Tryz.func31 U (Nb U) U U;(repeat' (first | apply ab | refine Wr 0 U U ?_ | (refine Wo 1 U ?_;refine Tc 2 U (Tg U (aM U U U U ‹_› ⟨by assumption, U, U, Nb U⟩) ?_) <;> refine Tn ?_) | (refine Wo 2 U ?_;refine Tc 1 U (Tg U (aa U U U U ‹_›) ?_) <;> refine Tn ?_) | apply ae));apply qe
 case hg => rfl
 case hr => rfl
 case hlo => exact hlo2
 case hK =>
  refine vZ h lo hlo _ ⟨w, vs, body⟩ hb hok hK k hk hkM _ hHA ?_;intro k s x n tail hks hbs;cases k with
  | zero => omega
  | succ k =>
  obtain ⟨op, nn, a, t, e⟩ := s
  by_cases o0 : op = 0
  ·have c0 : (op == 0) = true := by simp [o0]
   rw [sF (.inl o0)];refine kn (hgetL _ _ _) hlo2 rfl rfl ?_;(repeat' (first | apply ab | refine Wr 3 U U ?_ | refine Wr 4 U U ?_));refine ⟨_, hgetL _ _ _, rfl, ?_⟩;generalize hHx : List.set _ _ (ap.loop _) = Hx;have hH2 := hHx.symm.trans (hsetL (.map (em x)) _ _ tail);have hg1 : Hx[(h ++ [ap.map []]).length]? = some (MO h) := by rw [hH2]; exact hgetC _ _ _
   have hg2 : Hx[h.length]? = some (.map (em x)) := by rw [hH2]; exact hgetM _ _ _
   have hH3 := fun Z : ap => (congrArg (fun H : aj => List.set H h.length Z) hH2).trans (hsetM _ _ Z tail)
   dsimp only at hH3;clear hHx;(repeat' (first | apply ab | refine ah U U ?_ | (refine Wo 5 U ?_;refine Tc 2 U (Tt U U ‹_› (Tc 3 U (Tk U (Tc 1 U (Tn ?_)))))) | (refine Wo 6 U ?_;refine Tg U (aA U U U ‹_› U U) ?_ <;> refine Tc 3 U (Tg U (Ed U U ⟨_, _, _, U⟩ U U U ‹_› ‹_›) ?_) <;> refine Tn ?_) | apply ae));exact ⟨_, (congrArg (fun H : aj => H[_]?) (hH3 _)).trans (hgetL _ _ tail), (congrArg (fun H : aj => (AV.bool true, H)) ((congrArg (fun H : aj => List.set H _ _) (hH3 (.map (em (tf x n nn))))).trans (hsetL _ _ _ tail))).symm⟩
  by_cases o4 : op = 4
  ·have c0 : (op == 0) = false := by simp [o0]
   have c4 : (op == 4) = true := by simp [o4]
   rw [sF (.inr o4)];refine kn (hgetL _ _ _) hlo2 rfl rfl ?_;(repeat' (first | apply ab | refine Wr 3 U U ?_ | refine Wr 4 U U ?_));refine ⟨_, hgetL _ _ _, rfl, ?_⟩;generalize hHx : List.set _ _ (ap.loop _) = Hx;have hH2 := hHx.symm.trans (hsetL (.map (em x)) _ _ tail);have hg1 : Hx[(h ++ [ap.map []]).length]? = some (MO h) := by rw [hH2]; exact hgetC _ _ _
   have hg2 : Hx[h.length]? = some (.map (em x)) := by rw [hH2]; exact hgetM _ _ _
   have hH3 := fun Z : ap => (congrArg (fun H : aj => List.set H h.length Z) hH2).trans (hsetM _ _ Z tail)
   dsimp only at hH3;clear hHx;(repeat' (first | apply ab | refine ah U U ?_ | (refine Wo 5 U ?_;refine Tc 2 U (Tf U U ‹_› (Tc 3 U (Tt U U ‹_› (Tc 1 U (Tn ?_)))))) | (refine Wo 6 U ?_;refine Tg U (aA U U U ‹_› U U) ?_ <;> refine Tc 3 U (Tg U (Ed U U ⟨_, _, _, U⟩ U U U ‹_› ‹_›) ?_) <;> refine Tn ?_) | apply ae));exact ⟨_, (congrArg (fun H : aj => H[_]?) (hH3 _)).trans (hgetL _ _ tail), (congrArg (fun H : aj => (AV.bool true, H)) ((congrArg (fun H : aj => List.set H _ _) (hH3 (.map (em (tf x n nn))))).trans (hsetL _ _ _ tail))).symm⟩
  ·have c0 : (op == 0) = false := by simp [o0]
   have c4 : (op == 4) = false := by simp [o4]
   rw [xX (by omega)];refine kn (hgetL _ _ _) hlo2 rfl rfl ?_;(repeat' (first | apply ab | refine Wr 3 U U ?_ | refine Wr 4 U U ?_));refine ⟨_, hgetL _ _ _, rfl, ?_⟩;generalize hHx : List.set _ _ (ap.loop _) = Hx;have hH2 := hHx.symm.trans (hsetL (.map (em x)) _ _ tail);have hg1 : Hx[(h ++ [ap.map []]).length]? = some (MO h) := by rw [hH2]; exact hgetC _ _ _
   have hg2 : Hx[h.length]? = some (.map (em x)) := by rw [hH2]; exact hgetM _ _ _
   have hH3 := fun Z : ap => (congrArg (fun H : aj => List.set H h.length Z) hH2).trans (hsetM _ _ Z tail)
   dsimp only at hH3;clear hHx;(repeat' (first | apply ab | refine af U U ?_ | (refine Wo 5 U ?_;refine Tc 2 U (Tf U U ‹_› (Tc 3 U (Tf U U ‹_› (Tc 1 U (Tn ?_)))))) | apply ak | apply ae));exact ⟨_, (congrArg (fun H : aj => H[_]?) hH2).trans (hgetL _ _ tail), (congrArg (fun H : aj => (AV.bool true, H)) ((congrArg (fun H : aj => List.set H _ _) hH2).trans (hsetL _ _ _ tail))).symm⟩
 case hl => exact hgetL _ _ _
 case hst => show (0 : Nat) ≠ 1; simp
 case k =>
  dsimp only;generalize hHy : List.set _ _ ap.dead = Hy;have hH2 := hHy.symm.trans (hsetL _ _ _ _);have hg1 : Hy[(h ++ [ap.map []]).length]? = some (MO h) := by rw [hH2]; exact hgetC _ _ _
  clear hHy;have hfin : ∀ (M : ap) (tl : aj), X5 h ⟨w, vs, body⟩ M .dead tl = h ++ [M] ++ ([MO h] ++ [PO ⟨w, vs, body⟩] ++ [.dead] ++ tl) := fun M tl => by simp [X5]
  (repeat' (first | apply ab | (refine Wo 7 U ?_;refine Tg U (aA U U U ‹_› U U) ?_ <;> refine Tc 1 U (Tn ?_)) | apply am));exact ⟨.inl rfl, congrArg (fun H : aj => some (AV.mp h.length, H)) (hH2.trans (hfin _ _))⟩
section
variable {C : dO} {K : Ev.Callee} {f : Nat} {s : St} {o : Oper}
theorem AQ {t kt e id sz by_ : Nat} {zr : List AV} {m k : Operand} {n : Int} {l : List Int} {b : Bool} (ho : o.op = .lookup t m k false) (ht : Go.Ev.look C.tab t = some ⟨.map kt e, sz, by_, zr⟩) (hk : ∃ a b c, Go.Ev.look C.tab kt = some ⟨.int .i64, a, b, c⟩) {ti : TI} (he : Go.Ev.look C.tab e = some ti)
  (hz : Go.Ev.part ti ti.zero 0 = some (.bool false)) (hm : s.val m = some (.mp id)) (hx : s.val k = some (.int .i64 n)) (hH : s.heap[id]? = some (.map (cZ l))) (hb : jk l n = b) : aE C K f o s = some (s.putv o.dst (.bool b)) := by
 obtain ⟨a, b', c, hk⟩ := hk;unfold aE;rw [ho];dsimp only;rw [ht, hm, hx];dsimp only;rw [hH, he];simp only [fj, hk, pK, hz];subst hb
 by_cases hn : n ∈ l
 ·rw [if_pos hn, qo.2 hn]; rfl
 ·rw [if_neg hn]
  have : jk l n = false := by
   cases h : jk l n with
   | false => rfl
   | true => exact absurd (qo.1 h) hn
  rw [this]; rfl
end
mutual
def xZ (l : List Int) : aF -> Bool
 | .mk op n _ es => (op == 1 && jk l n) || x4 l es
def x4 (l : List Int) : List aF -> Bool
 | [] => false
 | e :: es => xZ l e || x4 l es
end
theorem x5 (l : List Int) : ∀ es : List aF, x4 l es = es.any (xZ l)
 | [] => rfl
 | e :: es => by rw [x4, x5 l es]; rfl
def Hk (q : aF -> Bool) : List aF -> Nat -> Int
 | [], _ => -1
 | e :: l, i => if q e = true then (i : Int) else Hk q l (i + 1)
theorem Ef (q : aF -> Bool) : ∀ (l : List aF) (i : Nat), decide (Hk q l i >= 0) = l.any q
 | [], i => rfl
 | e :: l, i => by
  rw [Hk, List.any_cons];cases hb : q e
  ·rw [if_neg (by simp), Ef q l (i + 1)]; rfl
  ·rw [if_pos rfl]; simp
def ixXS (h : aj) (es : List aF) (cl : AV) (i : Int) (_ : Unit) : St :=
 {env := [(0, .v (.vs 4 (bc es))), (1, .v cl), (7, .v (.int .i64 (bc es).length)), (8, .v (.int .i64 i))], loc := [], heap := h, inRound := false, lo := h.length }
theorem FY (q : aF -> Bool) (es : List aF) (idc : Nat) (k : Nat) (hk : es.length < k) (hl : es.length < 9223372036854775808) (h : aj) (lo : Nat)
  (hc : ∀ e, e ∈ es -> call Tryz.prog ba k h.length (.func 80) [.agg (cT e), .hp idc 1 0] h = some (.bool (q e), h)) :
  call Tryz.prog ba (k + 1) lo (.func 122) [.vs 4 (bc es), .fn (.func 80) [.hp idc 1 0]] h = some (.int .i64 (Hk q es 0), h) := by
 apply ai Tryz.func122 U (Nb U) U U;(repeat' (first | apply ab | refine Wr 0 U U ?_ | refine Wr 1 U U ?_ | apply ae));apply aS (S := ixXS h es (.fn (.func 80) [.hp idc 1 0])) (l := es) (a0 := ()) (fun i rest _ => Hk q rest i = Hk q es 0) (by omega) (by omega) rfl rfl
 ·intro i e rest a hi hd hil hJ
  have hrow := bQ _ _ _ hi;have hlt := di hil;have hce := hc e (List.mem_of_getElem? hi);rw [Hk] at hJ;generalize q e = b at hce hJ;obtain ⟨op, n, cp, l⟩ := e;cases b
  ·rw [if_neg (by simp)] at hJ
   (repeat' (first | apply ab | refine ah U U ?_ | refine af U U ?_ | (refine Wo 2 U ?_;refine Tt U U ‹_› (Tn ?_)) | refine Wr 3 U U ?_ | (refine Wo 4 U ?_;refine Tc 3 U (Tg U (aq U U U U U ‹_›) ?_) <;> refine Tg U U (Tf U (aa U U U U ‹_›) U ?_) <;> refine Tn ?_) | refine Wr 6 U U ?_ | apply ak | apply ae));exact ⟨(), rfl, hJ⟩
  ·rw [if_pos rfl] at hJ
   (repeat' (first | apply ab | refine ah U U ?_ | (refine Wo 2 U ?_;refine Tt U U ‹_› (Tn ?_)) | refine Wr 3 U U ?_ | (refine Wo 4 U ?_;refine Tc 3 U (Tg U (aq U U U U U ‹_›) ?_) <;> refine Tg U U (Tt U (aa U U U U ‹_›) U ?_) <;> refine Tn ?_) | refine Wr 5 U U ?_ | apply ak | apply ae | apply am));exact ⟨.inl rfl, by rw [<- hJ]; rfl⟩
 ·intro a hJ
  have hlt := dj (l := es);(repeat' (first | apply ab | refine af U U ?_ | (refine Wo 2 U ?_;refine Tf U U ‹_› (Tn ?_)) | refine Wr 7 U U ?_ | apply am | apply aC));exact ⟨.inl rfl, by rw [<- hJ]; rfl⟩
theorem Cq (q : aF -> Bool) (es : List aF) (idc : Nat) (k : Nat) (hk : es.length < k) (hl : es.length < 9223372036854775808) (h : aj) (lo : Nat)
  (hc : ∀ e, e ∈ es -> call Tryz.prog ba k h.length (.func 80) [.agg (cT e), .hp idc 1 0] h = some (.bool (q e), h)) :
  call Tryz.prog ba (k + 2) lo (.func 79) [.vs 4 (bc es), .fn (.func 80) [.hp idc 1 0]] h = some (.bool (es.any q), h) := by
 have hI := FY q es idc k hk hl h h.length hc;have hg := Ef q es 0;cases hb : es.any q <;> rw [hb] at hg <;>
 ·apply ai Tryz.func79 U (Nb U) U U
  (repeat' (first | apply ab | refine Wr 0 U U ?_ | (refine Wo 1 U ?_;refine Tc 2 U (Tg U (aa U U U U ‹_›) ?_) <;> (refine aK U ?_; first | refine bi U ‹_› ?_ | refine aT U ‹_› ?_) <;> refine Tc 1 U (Tn ?_)) | apply am));exact ⟨.inl rfl, rfl⟩
theorem zY (l : List Int) (e : aF) (H : aj) (idm idc : Nat) (hc : H[idc]? = some (.cells 76 [.mp idm])) (k : Nat) (lo : Nat) (b : Bool) (hr : call Tryz.prog ba k H.length (.func 37) [.agg (cT e), .mp idm] H = some (.bool b, H)) :
  call Tryz.prog ba (k + 1) lo (.func 80) [.agg (cT e), .hp idc 1 0] H = some (.bool b, H) := by
 obtain ⟨op, n, cp, es⟩ := e;cases b <;>
 ·apply ai Tryz.func80 U (Nb U) U U
  (repeat' (first | apply ab | refine Wr 0 U U ?_ | (refine Wo 1 U ?_;refine Tc 1 U (Tg U (aA U U U ‹_› U U) ?_) <;> (refine aK U ?_; first | refine bi (aa U U U U ‹_›) U ?_ | refine aT (aa U U U U ‹_›) U ?_) <;> refine Tc 1 U (Tn ?_)) | apply am));exact ⟨.inl rfl, rfl⟩
theorem sG (l : List Int) (idm : Nat) : ∀ (k : Nat) (e : aF), 4 * cM e <= k -> dP e -> ∀ (h : aj) (lo : Nat), h[idm]? = some (.map (cZ l)) -> call Tryz.prog ba k lo (.func 37) [.agg (cT e), .mp idm] h = some (.bool (xZ l e), h)
 | 0, e, hk, _, _, _, _ => by have := fA e; omega
 | k + 1, .mk op n cp es, hk, hb, h, lo, hm => by
  rw [cM] at hk;rw [dP] at hb;have hlen := bB es;have hp := lc es;have hm' : (h ++ [ap.cells 76 [.mp idm]])[idm]? = some (.map (cZ l)) := by rw [List.getElem?_append_left (aV hm)]; exact hm
  have hc' : (h ++ [ap.cells 76 [.mp idm]])[h.length]? = some (.cells 76 [.mp idm]) := by simp
  have hC := Cq (xZ l) es h.length (k - 2) (by omega) hb.1 (h ++ [ap.cells 76 [.mp idm]]) h.length (fun e he => by
   obtain ⟨i, hi⟩ := List.getElem?_of_mem he;have hmem := bX es i _ hi;have := zY l e (h ++ [ap.cells 76 [.mp idm]]) idm h.length hc' (k - 3) (h ++ [ap.cells 76 [.mp idm]]).length (xZ l e) (sG l idm (k - 3) e (by omega) (bL es i _ hb.2 hi) _ _ hm');rw [show k - 3 + 1 = k - 2 by omega] at this
   exact this)
  rw [show k - 2 + 2 = k by omega, <- x5] at hC
  rw [xZ];generalize x4 l es = y at hC ⊢;cases hop : (op == 1) with
  | true =>
   cases hn : jk l n with
   | true =>
    apply ai Tryz.func37 U (Nb U) U U;(repeat' (first | apply ab | refine Wr 0 U U ?_ | (refine Wo 1 U ?_;refine Tc 2 U (Tt U U ‹_› (Tc 1 U (Tg U (aA U U U ‹_› U U) ?_))) <;> refine Tc 2 U (Tt U (AQ U U ⟨_, _, _, U⟩ U U U U ‹_› ‹_›) U ?_) <;> refine Tc 5 U (Tk U (Tc 2 U (Tn ?_)))) | apply am))
    all_goals exact ⟨.inl rfl, rfl⟩
   | false =>
    cases y <;>
    ·apply ai Tryz.func37 U (Nb U) U U
     (repeat' (first | apply ab | refine Wr 0 U U ?_ | (refine Wo 1 U ?_;refine Tc 2 U (Tt U U ‹_› (Tc 1 U (Tg U (aA U U U ‹_› U U) ?_))) <;> refine Tc 2 U (Tf U (AQ U U ⟨_, _, _, U⟩ U U U U ‹_› ‹_›) U ?_) <;> refine Tc 5 U ?_ <;> (refine aK U ?_; first | refine bi (aa U U U U ‹_›) U ?_ | refine aT (aa U U U U ‹_›) U ?_) <;> refine Tc 2 U (Tn ?_)) | apply am))
     all_goals exact ⟨.inl rfl, rfl⟩
  | false =>
   cases y <;>
   ·apply ai Tryz.func37 U (Nb U) U U
    (repeat' (first | apply ab | refine Wr 0 U U ?_ | (refine Wo 1 U ?_;refine Tc 2 U (Tf U U ‹_› (Tc 1 U (Tk U (Tc 2 U (Tk U (Tc 5 U ?_)))))) <;> (refine aK U ?_; first | refine bi (aa U U U U ‹_›) U ?_ | refine aT (aa U U U U ‹_›) U ?_) <;> refine Tc 2 U (Tn ?_)) | apply am))
    all_goals exact ⟨.inl rfl, rfl⟩
mutual
def th : ay -> Int -> List (Int × ay)
 | .mk op nn a t e, n => (n, .mk op nn a t e) :: (i7 t (IntKind.i64.wrap (n + 1)) ++ i7 e (IntKind.i64.wrap (IntKind.i64.wrap (n + 1) + cW t 0)))
def i7 : List ay -> Int -> List (Int × ay)
 | [], _ => []
 | s :: l, n => th s n ++ i7 l (jj s n)
end
mutual
theorem FZ : ∀ (s : ay) (n : Int), (th s n).length <= jw s
 | .mk op nn a t e, n => by
  have h1 := kC t (IntKind.i64.wrap (n + 1));have h2 := kC e (IntKind.i64.wrap (IntKind.i64.wrap (n + 1) + cW t 0));rw [th, jw];simp only [List.length_cons, List.length_append]; omega
theorem kC : ∀ (l : List ay) (n : Int), (i7 l n).length <= bu l
 | [], n => by rw [i7, bu]; simp
 | s :: l, n => by
  have h1 := FZ s n;have h2 := kC l (jj s n);rw [i7, bu, List.length_append]; omega
end
theorem sH (h : aj) (its more : List (Int × ay)) (hl : its.length + more.length < 100000) : append ba.tab h.length (aQ h 92 (its.map bF)) 89 (bo h 6 (its.map bF)) (bg 6 (more.map bF)) = some (bo h 6 ((its ++ more).map bF), aQ h 92 ((its ++ more).map bF)) := by
 have := xd (tab := ba.tab) (lo := h.length) (h := h) (t := 89) (e := 92) rfl rfl (by decide) (Nat.le_refl _) (its.map bF) (more.map bF) (fun r hr => (gX its r hr).1) (by simp only [ca, List.length_map]; show (its.length + more.length) * 96 <= _; omega) (by simp only [ca, List.length_map]; omega);rw [List.map_append];exact this
def evS (h : aj) (v : AV) (i : Int) (a : List (Int × ay)) : St :=
 {env := [(0, .v v), (3, .v (bo h 6 (a.map bF))), (4, .v (.int .i64 i))], loc := [], heap := aQ h 92 (a.map bF), inRound := false, lo := h.length }
theorem sI : ∀ (k : Nat) (l : List ay) (n : Int), bA l + 20 <= k -> bu l <= 600 -> l.length < 1000 -> eQ l -> ∀ (h : aj) (lo : Nat),
  call Tryz.prog ba k lo (.func 88) [bg 6 ((bj l n).map bF)] h = some (bg 6 ((i7 l n).map bF), h)
 | 0, l, n, hk, _, _, _, _, _ => by omega
 | k + 1, [], n, hk, hN, hlen, hb, h, lo => by
  apply ai Tryz.func88 U (Nb U) U U;(repeat' (first | apply ab | refine Wr 0 U U ?_ | refine Wr 1 U U ?_ | refine Wr 2 U U ?_ | apply ae));apply cg (S := evS h .nils) (l := ([] : List ay)) (a0 := []) (fun _ a => a = []) (by simp) (by simp; omega) rfl rfl
  ·intro i st rest a hi; simp at hi
  ·intro a hJ
   subst hJ;(repeat' (first | apply ab | refine af U U ?_ | (refine Wo 3 U ?_;refine Tc 3 U (Tf U U U (Tn ?_))) | refine Wr 8 U U ?_ | apply am | apply aC));exact ⟨.inl rfl, rfl⟩
 | k + 1, s0 :: l0, n, hk, hN, hlen, hb, h, lo => by
  have hll := b9 (s0 :: l0);have htot := kC (s0 :: l0) n;generalize hl0 : s0 :: l0 = l at *;have hacc : bg 6 ((bj l n).map bF) = .vs 6 ((bj l n).map bF) := by subst hl0; rfl
  have hfin := ed (h := h) (e := 92) (sz := 6) ((i7 l n).map bF) (gX _);rw [hacc];generalize hR : i7 l n = R at *;apply ai Tryz.func88 U (Nb U) U U;(repeat' (first | apply ab | refine Wr 0 U U ?_ | refine Wr 1 U U ?_ | refine Wr 2 U U ?_ | apply ae));apply aS (S := evS h (.vs 6 ((bj l n).map bF))) (l := l) (a0 := []) (fun i rest a => ∃ m', a ++ i7 rest m' = R /\ (bj l n).drop i = bj rest m') (by omega) (by omega) rfl ⟨n, by simpa using hR, rfl⟩
  ·intro i s rest x hi hd hil hJ
   obtain ⟨mm, hJ, hdr⟩ := hJ;have hlt := GT (n := n) hil;have hmem := dY l i _ hi;have hNm := xh l i _ hi;have hbm := dt l i _ hb hi;rw [bj] at hdr;have hget : (bj l n)[i]? = some (mm, s) := by
    have := congrArg (fun z => z[0]?) hdr;simpa using this
   have hrow : ((bj l n).map bF)[i]? = some (bF (mm, s)) := by rw [List.getElem?_map, hget]; rfl
   have hdr2 : (bj l n).drop (i + 1) = bj rest (jj s mm) := by rw [<- List.drop_drop, hdr]; rfl
   have hxl : x.length + (th s mm).length <= 600 := by
    have := congrArg List.length hJ;rw [i7] at this;simp only [List.length_append] at this;omega
   rw [i7] at hJ;obtain ⟨op, nn, a, t, e⟩ := s;rw [iy] at hmem;rw [jw] at hNm;rw [kP] at hbm;rw [th] at hJ hxl;obtain ⟨⟨ha1, ha2⟩, ⟨ht1, ht2⟩, he1, he2⟩ := hbm;have hla := bB a;have htl := iB t;have hel := iB e;have hp2 := nl t;have hp3 := nl e;simp only [List.length_cons, List.length_append] at hxl;have ap0 := uo h x (mm, ay.mk op nn a t e) (by omega);have hTh := Dl mm op nn a t e (k - 1) (by omega) (by omega) ht2 (aQ h 92 ((x ++ [(mm, ay.mk op nn a t e)]).map bF)) h.length;have hT := sI k t (IntKind.i64.wrap (mm + 1)) (by omega) (by omega) (by omega) ht2 (aQ h 92 ((x ++ [(mm, ay.mk op nn a t e)]).map bF)) h.length;generalize i7 t (IntKind.i64.wrap (mm + 1)) = X at *;have ap1 := sH h (x ++ [(mm, ay.mk op nn a t e)]) X (by simp; omega);have hEl := Dm mm op nn a t e (k - 1) (by omega) (by omega) ht2 (by omega) he2 (aQ h 92 ((x ++ [(mm, ay.mk op nn a t e)] ++ X).map bF)) h.length;have hE := sI k e (IntKind.i64.wrap (IntKind.i64.wrap (mm + 1) + cW t 0)) (by omega) (by omega) (by omega) he2 (aQ h 92 ((x ++ [(mm, ay.mk op nn a t e)] ++ X).map bF)) h.length;generalize i7 e (IntKind.i64.wrap (IntKind.i64.wrap (mm + 1) + cW t 0)) = Y at *;have ap2 := sH h (x ++ [(mm, ay.mk op nn a t e)] ++ X) Y (by simp; omega);rw [show k - 1 + 1 = k by omega] at hTh hEl
   (repeat' (first | apply ab | refine ah U U ?_ | (refine Wo 3 U ?_;refine Tc 3 U (Tt U U ‹_› (Tn ?_))) | refine Wr 4 U U ?_ | (refine Wo 5 U ?_;refine Tc 3 U (Tg U (aq U U U U U ‹_›) ?_) <;> refine Tg U U (Tc 1 U (Tg U (aN U U U U U ‹_›) ?_)) <;> refine Tc 1 U (Tn ?_)) | (refine Wo 6 U ?_;refine Tc 3 U (Tg U (aq U U U U U ‹_›) ?_) <;> refine Tg U U (Tg U (aa U U U U ‹_›) ?_) <;> refine Tg U (aa U U U U ‹_›) ?_ <;> refine Tg U (aN U U U U U ‹_›) ?_ <;> refine Tc 1 U (Tn ?_)) | (refine Wo 7 U ?_;refine Tc 3 U (Tg U (aq U U U U U ‹_›) ?_) <;> refine Tg U U (Tg U (aa U U U U ‹_›) ?_) <;> refine Tg U (aa U U U U ‹_›) ?_ <;> refine Tg U (aN U U U U U ‹_›) ?_ <;> refine Tc 1 U (Tn ?_)) | apply ak | apply ae));exact ⟨x ++ [(mm, ay.mk op nn a t e)] ++ X ++ Y, rfl, jj (.mk op nn a t e) mm, by rw [<- hJ]; simp, hdr2⟩
  ·intro a hJ
   obtain ⟨mm, hJ, _⟩ := hJ;have hlt := GU (l := l) (n := n);have ha : a = R := by simpa [i7] using hJ
   subst ha;(repeat' (first | apply ab | refine af U U ?_ | (refine Wo 3 U ?_;refine Tc 3 U (Tf U U ‹_› (Tn ?_))) | refine Wr 8 U U ?_ | apply am | apply aC));exact ⟨.inl rfl, hfin⟩
def every (p : bp) : List (Int × ay) := i7 p.body 0
theorem Cr (p : bp) (k : Nat) (hk : bA p.body + 30 <= k) (hN : bu p.body <= 600) (hb : lB p) (h : aj) (lo : Nat) : call Tryz.prog ba (k + 1) lo (.func 44) [.agg (bY p)] h = some (bg 6 ((every p).map bF), h) := by
 have hln := iB p.body;have hI := oS p.body 0 (k - 1) (by omega) (by omega) hb.2.2 h h.length;have hA := sI k p.body 0 (by omega) hN (by omega) hb.2.2 h h.length;rw [show k - 1 + 1 = k by omega] at hI
 unfold every;generalize bj p.body 0 = X at hI hA;generalize i7 p.body 0 = Y at hA ⊢;obtain ⟨w, vs, body⟩ := p;cases X <;> cases Y <;>
 ·apply ai Tryz.func44 U (Nb U) U U
  (repeat' (first | apply ab | refine Wr 0 U U ?_ | (refine Wo 1 U ?_;refine Tc 2 U (Tg U (aa U U U U ‹_›) ?_) <;> refine Tg U (aa U U U U ‹_›) ?_ <;> refine Tc 1 U (Tn ?_)) | apply am));exact ⟨.inl rfl, rfl⟩
def chB (e : aF) (x : Int × ay) : Bool := match x.2 with
 | .mk op nn _ _ _ => (op == 0 || op == 4) && yu nn e
def eM (p : bp) (e : aF) : Bool := (every p).any (chB e)
def kD : ay -> Int
 | .mk op _ _ _ _ => op
def kO (L : List (Int × ay)) (x : Int) : Bool := !decide (x < 0) && !decide (x >= (L.length : Int)) && (match L[x.toNat]? with | some y => !(kD y.2 != 3) | none => false)
def fH (L : List (Int × ay)) : Option Int -> List Int -> Bool
 | _, [] => true
 | pv, x :: r => kO L x && (match pv with | none => true | some y => !decide (x <= y)) && fH L (some x) r
def jU (p : bp) (l : List Int) : Bool := fH (every p) none l
mutual
theorem Hl : ∀ (s : ay) (n : Int), 0 <= n -> n + jw s < 1000000 -> (th s n).length = rF s /\ ∀ (j : Nat) (x : Int × ay), (th s n)[j]? = some x -> x.1 = n + j
 | .mk op nn a t e, n, h0, h1 => by
  rw [jw] at h1;have hst := d6 t;have hse := d6 e;have q2 : cW t 0 = fD t := by rw [eP t 0 (by omega) (by omega)]; omega
  obtain ⟨t1, t2⟩ := ph t (n + 1) (by omega) (by omega);obtain ⟨e1, e2⟩ := ph e (n + 1 + fD t) (by omega) (by omega);rw [th, rF, eo (n := n + 1) (by omega) (by omega), q2, eo (n := n + 1 + _) (by omega) (by omega)];refine ⟨by simp only [List.length_cons, List.length_append, t1, e1]; omega, fun j x hx => ?_⟩
  cases j with
  | zero => simp at hx; rw [<- hx]; simp
  | succ j =>
   rw [List.getElem?_cons_succ] at hx;rcases Nat.lt_or_ge j (i7 t (n + 1)).length with h | h
   ·rw [List.getElem?_append_left h] at hx
    have := t2 j x hx;omega
   ·rw [List.getElem?_append_right h] at hx
    have := e2 _ x hx;omega
theorem ph : ∀ (l : List ay) (n : Int), 0 <= n -> n + bu l < 1000000 -> (i7 l n).length = fD l /\ ∀ (j : Nat) (x : Int × ay), (i7 l n)[j]? = some x -> x.1 = n + j
 | [], n, h0, h1 => by rw [i7, fD]; exact ⟨rfl, fun j x hx => by simp at hx⟩
 | s :: l, n, h0, h1 => by
  rw [bu] at h1;have hs := mG s;obtain ⟨a1, a2⟩ := Hl s n h0 (by omega);obtain ⟨b1, b2⟩ := ph l (n + rF s) (by omega) (by omega);rw [i7, fD, iT s n h0 (by omega)];refine ⟨by rw [List.length_append, a1, b1], fun j x hx => ?_⟩
  rcases Nat.lt_or_ge j (th s n).length with h | h
  ·rw [List.getElem?_append_left h] at hx
   exact a2 j x hx
  ·rw [List.getElem?_append_right h] at hx
   have := b2 _ x hx;omega
end
mutual
theorem Eg {σ : Type} (upd : σ -> Int -> ay -> σ) : ∀ (s : ay) (x : σ) (n : Int), 0 <= n -> n + jw s < 1000000 -> iQ (yU upd) s x n = (true, (th s n).foldl (fun x y => upd x y.1 y.2) x, n + rF s)
 | .mk op nn a t e, x, n, h0, h1 => by
  rw [jw] at h1;have hst := d6 t;have hse := d6 e;have q2 : cW t 0 = fD t := by rw [eP t 0 (by omega) (by omega)]; omega
  have hw : IntKind.i64.wrap (IntKind.i64.wrap (n + 1) - 1) = n := by rw [eo (n := n + 1) (by omega) (by omega), eo (by omega) (by omega)]; omega
  rw [iQ, th, rF, hw, eo (n := n + 1) (by omega) (by omega), q2, eo (n := n + 1 + _) (by omega) (by omega)];rw [if_pos (show (yU upd x n (.mk op nn a t e)).1 = true from rfl)];have hy : (yU upd x n (.mk op nn a t e)).2 = upd x n (.mk op nn a t e) := rfl;rw [hy, n9 upd t _ (n + 1) (by omega) (by omega)];dsimp only;rw [if_pos rfl, n9 upd e _ (n + 1 + fD t) (by omega) (by omega), List.foldl_cons, List.foldl_append];congr 2;omega
theorem n9 {σ : Type} (upd : σ -> Int -> ay -> σ) : ∀ (l : List ay) (x : σ) (n : Int), 0 <= n -> n + bu l < 1000000 -> bR (yU upd) l x n = (true, (i7 l n).foldl (fun x y => upd x y.1 y.2) x, n + fD l)
 | [], x, n, h0, h1 => by rw [bR, i7, fD]; simp
 | s :: l, x, n, h0, h1 => by
  rw [bu] at h1;have := mG s;rw [bR, Eg upd s x n h0 (by omega)];dsimp only;rw [if_pos rfl, n9 upd l _ (n + rF s) (by omega) (by omega), i7, fD, iT s n h0 (by omega), List.foldl_append];congr 2;omega
end
theorem Eh {x : List (Int × Int)} {n v : Int} (h : ∀ y, y ∈ x -> y.1 ≠ n) : tf x n v = x ++ [(n, v)] := by
 induction x with
 | nil => rfl
 | cons y x ih =>
  obtain ⟨a, b⟩ := y;have h1 : n ≠ a := fun e => h (a, b) (List.mem_cons_self ..) e.symm
  rw [tf, if_neg h1, ih fun z hz => h z (List.mem_cons_of_mem _ hz)]
  rfl
def Ia (y : Int × ay) (v : Int) : Prop := match y.2 with
 | .mk op nn _ _ _ => (op = 0 \/ op = 4) /\ nn = v
theorem sJ : ∀ (L : List (Int × ay)) (x : List (Int × Int)), L.Pairwise (fun a b => a.1 < b.1) -> (∀ y, y ∈ x -> ∀ z, z ∈ L -> y.1 < z.1) -> ∀ v, (∃ k, (k, v) ∈ L.foldl (fun x y => pg x y.1 y.2) x) ↔ (∃ k, (k, v) ∈ x) \/ ∃ y, y ∈ L /\ Ia y v
 | [], x, _, _, v => by simp
 | (n, .mk op nn a t e) :: L, x, hp, hx, v => by
  rw [List.pairwise_cons] at hp;rw [List.foldl_cons]
  by_cases ho : op = 0 \/ op = 4
  ·have hu : pg x n (.mk op nn a t e) = x ++ [(n, nn)] := by
    rw [sF ho];exact Eh fun y hy e => by have := hx y hy _ (List.mem_cons_self ..); dsimp only at this; omega
   dsimp only;rw [hu, sJ L _ hp.2 (fun y hy z hz => by
    rcases List.mem_append.1 hy with hy | hy
    ·exact hx y hy z (List.mem_cons_of_mem _ hz)
    ·simp at hy; subst hy; exact hp.1 z hz)]
   constructor
   ·rintro (⟨k, hk⟩ | ⟨y, hy, hc⟩)
    ·rcases List.mem_append.1 hk with hk | hk
     ·exact .inl ⟨k, hk⟩
     ·simp at hk; exact .inr ⟨_, List.mem_cons_self .., ho, hk.2.symm⟩
    ·exact .inr ⟨y, List.mem_cons_of_mem _ hy, hc⟩
   ·rintro (⟨k, hk⟩ | ⟨y, hy, hc⟩)
    ·exact .inl ⟨k, List.mem_append_left _ hk⟩
    ·rcases List.mem_cons.1 hy with rfl | hy
     ·exact .inl ⟨n, List.mem_append_right _ (by rw [<- hc.2]; simp)⟩
     ·exact .inr ⟨y, hy, hc⟩
  ·dsimp only
   rw [xX ho, sJ L x hp.2 (fun y hy z hz => hx y hy z (List.mem_cons_of_mem _ hz))];constructor
   ·rintro (h | ⟨y, hy, hc⟩)
    ·exact .inl h
    ·exact .inr ⟨y, List.mem_cons_of_mem _ hy, hc⟩
   ·rintro (h | ⟨y, hy, hc⟩)
    ·exact .inl h
    ·rcases List.mem_cons.1 hy with rfl | hy
     ·exact absurd hc.1 ho
     ·exact .inr ⟨y, hy, hc⟩
theorem Ei {p : bp} (hN : bu p.body <= 600) : (every p).Pairwise (fun a b => a.1 < b.1) := by
 rw [List.pairwise_iff_getElem];intro i j hi hj hij;have h := (ph p.body 0 (by omega) (by omega)).2;have h1 := h i _ (List.getElem?_eq_getElem (show i < (i7 p.body 0).length from hi));have h2 := h j _ (List.getElem?_eq_getElem (show j < (i7 p.body 0).length from hj));show ((i7 p.body 0)[i]).1 < ((i7 p.body 0)[j]).1;omega
theorem x6 {p : bp} (hN : bu p.body <= 600) (v : Int) : (∃ k, (k, v) ∈ wc p) ↔ ∃ y, y ∈ every p /\ Ia y v := by
 unfold wc;rw [n9 pg p.body [] 0 (by omega) (by omega)];have := sJ (every p) [] (Ei hN) (fun y hy => by cases hy) v;show (∃ k, (k, v) ∈ (every p).foldl (fun x y => pg x y.1 y.2) []) ↔ _;rw [this];simp
mutual
theorem AR (l : List Int) : ∀ e : aF, xZ l e = true ↔ ∃ v, v ∈ l /\ yu v e = true
 | .mk op n c es => by
  rw [xZ, Bool.or_eq_true, x7 l es, Bool.and_eq_true, qo];constructor
  ·rintro (⟨h1, h2⟩ | ⟨v, hv, h⟩)
   ·exact ⟨n, h2, by rw [yu]; simp [h1]⟩
   ·exact ⟨v, hv, by rw [yu, h]; simp⟩
  ·rintro ⟨v, hv, h⟩
   rw [yu, Bool.or_eq_true, Bool.and_eq_true] at h;rcases h with ⟨h1, h2⟩ | h
   ·have : n = v := by simpa using h2
    exact .inl ⟨h1, this ▸ hv⟩
   ·exact .inr ⟨v, hv, h⟩
theorem x7 (l : List Int) : ∀ es : List aF, x4 l es = true ↔ ∃ v, v ∈ l /\ kB v es = true
 | [] => by simp [x4, kB]
 | e :: es => by
  rw [x4, Bool.or_eq_true, AR l e, x7 l es];constructor
  ·rintro (⟨v, hv, h⟩ | ⟨v, hv, h⟩)
   ·exact ⟨v, hv, by rw [kB, h]; simp⟩
   ·exact ⟨v, hv, by rw [kB, h]; simp⟩
  ·rintro ⟨v, hv, h⟩
   rw [kB, Bool.or_eq_true] at h;rcases h with h | h
   ·exact .inl ⟨v, hv, h⟩
   ·exact .inr ⟨v, hv, h⟩
end
theorem zZ {p : bp} (hN : bu p.body <= 600) {l : List Int} (hl : ∀ v, v ∈ l ↔ ∃ k, (k, v) ∈ wc p) (e : aF) : xZ l e = eM p e := by
 rw [Bool.eq_iff_iff, AR];unfold eM;rw [List.any_eq_true];constructor
 ·rintro ⟨v, hv, h⟩
  obtain ⟨y, hy, hc⟩ := (x6 hN v).1 ((hl v).1 hv);refine ⟨y, hy, ?_⟩;obtain ⟨m, ⟨op, nn, a, t, e'⟩⟩ := y;obtain ⟨h1, h2⟩ := hc;subst h2;unfold chB;dsimp only;rw [h];rcases h1 with h1 | h1 <;> simp [h1]
 ·rintro ⟨y, hy, h⟩
  obtain ⟨m, ⟨op, nn, a, t, e'⟩⟩ := y;unfold chB at h;dsimp only at h;rw [Bool.and_eq_true, Bool.or_eq_true] at h;refine ⟨nn, (hl nn).2 ((x6 hN nn).2 ⟨_, hy, ?_, rfl⟩), h.2⟩;rcases h.1 with h1 | h1
  ·exact .inl (by simpa using h1)
  ·exact .inr (by simpa using h1)
mutual
theorem z6 {w c0 : Int} {vs : List bk} (c : Int) : ∀ e : aF, df w vs c0 e = true -> vY c e = vX c e
 | .mk op n cp es, h => by
  rw [df, Bool.and_eq_true] at h;rw [vY, vX, AS c es h.2];have h1 := h.1;unfold kG at h1;dsimp only at h1
  by_cases ho : op = 1
  ·simp [ho]
  ·rw [if_neg ho] at h1
   simp only [Bool.and_eq_true, beq_iff_eq] at h1;have : (op == 1) = false := by simpa using ho
   rw [this, h1.1.1]
theorem AS {w c0 : Int} {vs : List bk} (c : Int) : ∀ es : List aF, db w vs c0 es = true -> lq c es = gZ c es
 | [], _ => rfl
 | e :: es, h => by
  rw [db, Bool.and_eq_true] at h;rw [lq, gZ, z6 c e h.1, AS c es h.2]
end
mutual
theorem Ej (c : Int) : ∀ e : aF, cM (vX c e) = cM e
 | .mk op n cp es => by rw [vX, cM, cM, Ek c es]
theorem Ek (c : Int) : ∀ es : List aF, cQ (gZ c es) = cQ es
 | [] => rfl
 | e :: es => by rw [gZ, cQ, cQ, Ej c e, Ek c es]
end
theorem x8 (c : Int) : ∀ es : List aF, (gZ c es).length = es.length
 | [] => rfl
 | e :: es => by rw [gZ, List.length_cons, List.length_cons, x8 c es]
mutual
theorem El (c : Int) : ∀ e : aF, dP e -> dP (vX c e)
 | .mk op n cp es, h => by
  rw [dP] at h;rw [vX, dP, x8];exact ⟨h.1, Em c es h.2⟩
theorem Em (c : Int) : ∀ es : List aF, jg es -> jg (gZ c es)
 | [], _ => trivial
 | e :: es, h => by
  rw [jg] at h;rw [gZ, jg];exact ⟨El c e h.1, Em c es h.2⟩
end
def F0 (a : aF) : aF := .mk 13 0 0 [vY 0 a, vY 1 a]
def wd : List aF -> aF
 | [] => .mk 0 0 0 []
 | e :: _ => e
def pi (low : Int) (at_ st : List Int) (x : Bool × List aF) (n : Int) (s : ay) (lv : List Int) (ar : Int) : Bool × List aF :=
 match s with
 | .mk op nn a _ _ => if op = 3 then
   (
    if jk at_ n = true then (x.1 && (aW ar nn && !xZ st (wd a)), if aW nn low = true then x.2 ++ [F0 (wd a)] else x.2)
    else (x.1 && aW (be ar (gB lv (wd a))) nn, x.2))
  else x
structure ol where
 i4 : Nat
 i5 : Nat
 iS : Nat
 i14 : Nat
 L17 : Nat
 L18 : Nat
 o1 : i4 < i5
 o2 : i5 < iS
 o3 : iS < i14
 o4 : i14 < L17
 o5 : L17 < L18
def ol.base (r : ol) (i : Nat) : Prop := i = r.i4 \/ i = r.i5 \/ i = r.iS \/ i = r.i14 \/ i = r.L17 \/ i = r.L18
def ol.fix (r : ol) (low : Int) (at_ st : List Int) (h : aj) : Prop :=
 h[r.i4]? = some (.cells 3 [.int .i64 low]) /\ h[r.i5]? = some (.cells 26 [.vs 1 (ag at_)]) /\ h[r.iS]? = some (.map (cZ st)) /\ h[r.i14]? = some (.cells 76 [.mp r.iS])
def ol.more (r : ol) (xs : List aF) (h : aj) (O : Nat -> Prop) : Prop :=
 (xs = [] /\ h[r.L18]? = some (.cells 29 [.nils]) /\ ∀ i, O i ↔ r.base i) \/
 ∃ id, r.L18 < id /\ xs ≠ [] /\ h[r.L18]? = some (.cells 29 [.sl id 4 0 xs.length]) /\ h[id]? = some (.cells 31 (bc xs).flatten) /\ ∀ i, O i ↔ r.base i \/ i = id
def Cs (r : ol) (low : Int) (at_ st : List Int) : HE :=
 {σ := Bool × List aF, upd := pi low at_ st
  B := fun b x h O => x.2.length + b <= 90000 /\ r.fix low at_ st h /\ h[r.L17]? = some (.cells 4 [.bool x.1]) /\ r.more x.2 h O
  f := 33, caps := [.hp r.i5 1 0, .hp r.L17 1 0, .hp r.i14 1 0, .hp r.i4 1 0, .hp r.L18 1 0] }
theorem ol.more_base {r : ol} {xs : List aF} {h : aj} {O : Nat -> Prop} (m : r.more xs h O) {i : Nat} (hi : r.base i) : O i := by
 rcases m with ⟨_, _, q⟩ | ⟨id, _, _, _, _, q⟩
 ·exact (q i).2 hi
 ·exact (q i).2 (.inl hi)
theorem ol.fix_keep {r : ol} {low : Int} {at_ st : List Int} {h h' : aj} (f : r.fix low at_ st h) (hk : ∀ i, i = r.i4 \/ i = r.i5 \/ i = r.iS \/ i = r.i14 -> h'[i]? = h[i]?) : r.fix low at_ st h' := by
 obtain ⟨f1, f2, f3, f4⟩ := f;exact ⟨by rw [hk _ (.inl rfl)]; exact f1, by rw [hk _ (.inr (.inl rfl))]; exact f2, by rw [hk _ (.inr (.inr (.inl rfl)))]; exact f3, by rw [hk _ (.inr (.inr (.inr rfl)))]; exact f4⟩
theorem ol.more_keep {r : ol} {xs : List aF} {h h' : aj} {O : Nat -> Prop} (m : r.more xs h O) (hk : ∀ i, O i -> i ≠ r.L17 -> h'[i]? = h[i]?) : r.more xs h' O := by
 have o5 := r.o5;rcases m with ⟨q0, q1, q2⟩ | ⟨id, q0, q1, q2, q3, q4⟩
 ·exact .inl ⟨q0, by rw [hk r.L18 ((q2 _).2 (.inr (.inr (.inr (.inr (.inr rfl)))))) (by omega)]; exact q1, q2⟩
 ·exact .inr ⟨id, q0, q1, by rw [hk r.L18 ((q4 _).2 (.inl (.inr (.inr (.inr (.inr (.inr rfl))))))) (by omega)]; exact q2, by rw [hk id ((q4 _).2 (.inr rfl)) (by omega)]; exact q3, q4⟩
theorem En (l : List aF) : (bc l).flatten.length = l.length * 4 := by
 rw [dg (sz := 4) (bc l) (fun r hr => (jD l r hr).1), dd]
theorem oa (xs zs ys : List AV) (n : Nat) (hn : n = xs.length) (hz : zs.length = ys.length) : bb (xs ++ zs) n ys = xs ++ ys := by
 subst hn;unfold bb;simp [hz]
theorem Eo (r : ol) (low : Int) (at_ st : List Int) (m lo : Nat) (hlo : lo <= r.L17) (hat : at_.length <= 1000) (k b : Nat) (x : Bool × List aF) (H : aj) (O : Nat -> Prop) (id : Nat) (lv : List Int) (ar n nn op : Int) (a0 : aF) (t e : List ay) (hop : op = 3)
  (h1 : x.2.length + (b + 1) <= 90000) (hfx : r.fix low at_ st H) (h17 : H[r.L17]? = some (.cells 4 [.bool x.1])) (hm : r.more x.2 H O) (hg : H[id]? = some (.cells 3 (ic lv))) (hnO : ¬ O id) (hlv : lv.length = m) (hlvB : bf lv)
  (hk : cM a0 + 30000 <= k) (hk2 : cM a0 <= 6200) (hbe : dP a0) (hrd : E6 m a0) (hloH : lo <= H.length) :
  ∃ (h' : aj) (O' : Nat -> Prop), call Tryz.prog ba (k + 1) lo (.func 33) ([.int .i64 n, .agg (ig (.mk op nn [a0] t e)), .sl id 1 0 m, .int .i64 ar] ++ (Cs r low at_ st).caps) H = some (.tup [], h') /\
   ((pi low at_ st x n (.mk op nn [a0] t e) lv ar).2.length + b <= 90000 /\ r.fix low at_ st h' /\ h'[r.L17]? = some (.cells 4 [.bool (pi low at_ st x n (.mk op nn [a0] t e) lv ar).1]) /\ r.more (pi low at_ st x n (.mk op nn [a0] t e) lv ar).2 h' O') /\ Fr H O h' O' := by
 subst hop;obtain ⟨f1, f2, f3, f4⟩ := hfx;have o1 := r.o1;have o2 := r.o2;have o3 := r.o3;have o4 := r.o4;have o5 := r.o5;have hu : pi low at_ st x n (.mk 3 nn [a0] t e) lv ar = if jk at_ n = true then (x.1 && (aW ar nn && !xZ st a0), if aW nn low = true then x.2 ++ [F0 a0] else x.2) else (x.1 && aW (be ar (gB lv a0)) nn, x.2) := rfl
 have hCt := fun L => Cm at_ n (k - 1) (by omega) (by omega) H L
 rw [show k - 1 + 1 = k by omega] at hCt
 have hCt := hCt lo;have jS : ∀ (bl : Bool), (H.set r.L17 (.cells 4 [.bool bl]))[r.L17]? = some (.cells 4 [.bool bl]) := fun bl => List.getElem?_set_self (aV h17)
 have hset : ∀ (bl : Bool), Fr H O (H.set r.L17 (.cells 4 [.bool bl])) O /\ r.fix low at_ st (H.set r.L17 (.cells 4 [.bool bl])) /\ r.more x.2 (H.set r.L17 (.cells 4 [.bool bl])) O := fun bl => by
  refine ⟨⟨by simp, fun i hi ho => ?_, fun i hi => .inl hi⟩, ol.fix_keep ⟨f1, f2, f3, f4⟩ fun i hi => ?_, ol.more_keep hm fun i hi hne => ?_⟩
  ·rw [List.getElem?_set_ne (fun q => ho (by rw [<- q]; exact ol.more_base hm (.inr (.inr (.inr (.inr (.inl rfl)))))))]
  ·rw [List.getElem?_set_ne (by omega)]
  ·rw [List.getElem?_set_ne (fun q => hne q.symm)]
 obtain ⟨bl, xs⟩ := x;dsimp only at h1 h17 hm hset hu;cases hin : jk at_ n with
 | false =>
  rw [hin] at hCt;rw [hu, if_neg (by rw [hin]; simp)];have hO := ql hg a0 (k - 1) (by omega) hbe (by rw [hlv]; exact hrd) H.length;rw [show k - 1 + 1 = k by omega, hlv] at hO
  have hW := d5 (be ar (gB lv a0)) nn (k - 1) lo H;rw [show k - 1 + 1 = k by omega] at hW
  obtain ⟨s1, s2, s3⟩ := hset (bl && aW (be ar (gB lv a0)) nn);have s4 := jS (bl && aW (be ar (gB lv a0)) nn);refine ⟨_, O, ?_, ⟨by dsimp only; omega, s2, s4, s3⟩, s1⟩
  clear hset jS s1 s2 s3 s4 hu;obtain ⟨ao, an, ac, az⟩ := a0;cases bl with
  | false =>
   apply ai Tryz.func33 U (Nb U) U U;(repeat' (first | apply ab | refine ah U U ?_ | refine af U U ?_ | refine Wr 0 U U ?_ | (refine Wo 1 U ?_;refine Tc 2 U (Tf U U U (Tn ?_))) | (refine Wo 2 U ?_;refine Tg U (aA U U U ‹_› U U) ?_ <;> refine Tc 1 U (Tf U (aa U U U U ‹_›) U ?_) <;> refine Tc 1 U (Tn ?_)) | (refine Wd 3 [0,1,3,3,3,19,51,115,251,511,3,1027,4095,8191,16383] U U (by decide +kernel) ?_;refine Uu U (aA U U U ‹_› U U) U ?_ <;> refine Uo U U (Uk U (Uk U (Uk U (Uk U (Uk U (Uk U (Uk U (Uk U (Uk U (Uk U (Uk U (Uo U U (Uo U (aM U U U U ‹_› ⟨by assumption, U, U, Nb U⟩) ?_))))))))))))) <;> refine Un ?_) | apply ak | apply am))
   all_goals exact ⟨.inl rfl, rfl⟩
  | true =>
   cases hw : aW (be ar (gB lv (.mk ao an ac az))) nn <;> rw [hw] at hW <;>
   ·apply ai Tryz.func33 U (Nb U) U U
    (repeat' (first | apply ab | refine ah U U ?_ | refine af U U ?_ | refine Wr 0 U U ?_ | (refine Wo 1 U ?_;refine Tc 2 U (Tf U U U (Tn ?_))) | (refine Wo 2 U ?_;refine Tg U (aA U U U ‹_› U U) ?_ <;> refine Tc 1 U (Tf U (aa U U U U ‹_›) U ?_) <;> refine Tc 1 U (Tn ?_)) | (refine Wd 3 [0,1,3,3,3,19,51,115,251,511,3,1027,4095,8191,16383] U U (by decide +kernel) ?_;refine Ut U (aA U U U ‹_› U U) U ?_ <;> refine Uo U U (Uf U U U (Uf U U U (Uf U U U (Uf U U U (Uf U U U (Uf U U U (Uf U (aa U U U U ‹_›) U ?_))))))) <;> refine Uf U U U (Uf U U U (Uf U U U ?_)) <;> (refine aP U ?_; first | refine fX (by decide +kernel) (aa U U U U ‹_›) U ?_ | refine d9 (by decide +kernel) (aa U U U U ‹_›) U ?_) <;> refine Uo U U (Uo U (aM U U U U ‹_› ⟨by assumption, U, U, Nb U⟩) ?_) <;> refine Un ?_) | apply ak | apply am))
    all_goals exact ⟨.inl rfl, rfl⟩
 | true =>
  rw [hin] at hCt;rw [hu, if_pos hin];have hW := d5 ar nn (k - 1) lo H;have hRd := sG st r.iS k a0 (by omega) hbe H lo f3;rw [show k - 1 + 1 = k by omega] at hW
  obtain ⟨s1, s2, s3⟩ := hset (bl && (aW ar nn && !xZ st a0));have s4 := jS (bl && (aW ar nn && !xZ st a0));generalize hbl : (bl && (aW ar nn && !xZ st a0)) = bl' at s1 s2 s3 s4 ⊢;have hW2 := d5 nn low (k - 1) lo (H.set r.L17 (.cells 4 [.bool bl']));rw [show k - 1 + 1 = k by omega] at hW2
  have c4 : (H.set r.L17 (.cells 4 [.bool bl']))[r.i4]? = some (.cells 3 [.int .i64 low]) := s2.1;have l17 := aV h17;have hbase17 : ¬ r.L18 = r.L17 := by omega
  have h4 : (bl = false /\ bl' = false) \/ (bl = true /\ aW ar nn = false /\ bl' = false) \/ (bl = true /\ aW ar nn = true /\ xZ st a0 = true /\ bl' = false) \/ (bl = true /\ aW ar nn = true /\ xZ st a0 = false /\ bl' = true) := by
   rw [<- hbl];cases bl <;> cases aW ar nn <;> cases xZ st a0 <;> simp
  clear hbl;obtain ⟨ao, an, ac, az⟩ := a0;have hHl : (H.set r.L17 (.cells 4 [.bool bl'])).length = H.length := by simp
  cases hw2 : aW nn low with
  | false =>
   rw [hw2] at hW2;rw [if_neg (by simp)];refine ⟨_, O, ?_, ⟨by dsimp only; omega, s2, s4, s3⟩, s1⟩
   clear hset jS s1 s2 s3 s4 hu;rcases h4 with ⟨e1, e2⟩ | ⟨e1, e3, e2⟩ | ⟨e1, e3, e4, e2⟩ | ⟨e1, e3, e4, e2⟩
   all_goals (subst e1; subst e2; try rw [e3] at hW; try rw [e4] at hRd)
   all_goals
    apply ai Tryz.func33 U (Nb U) U U;(repeat' (first | apply ab | refine af U U ?_ | refine Wr 0 U U ?_ | (refine Wo 1 U ?_;refine Tc 2 U (Tf U U U (Tn ?_))) | (refine Wo 2 U ?_;refine Tg U (aA U U U ‹_› U U) ?_ <;> refine Tc 1 U (Tt U (aa U U U U ‹_›) U ?_) <;> refine Tc 1 U (Tn ?_)) | (refine Wd 4 [0,1,3,3,11,31,63,127,255,511,1023,2047,255,8191,16383,32767,65535] U U (by decide +kernel) ?_;(refine aP U ?_; first | refine fX (by decide +kernel) (aA U U U ‹_› U U) U ?_ | refine d9 (by decide +kernel) (aA U U U ‹_› U U) U ?_) <;> refine Uo U U ?_ <;> (first | refine aL U ?_ | (refine aP U ?_; refine aU (by decide +kernel) U U U U U ?_)) <;> (first | refine aL U ?_ | (refine aP U ?_; refine aU (by decide +kernel) U U U U U ?_)) <;> (first | refine aL U ?_ | (refine aP U ?_; refine aU (by decide +kernel) U U U U U ?_)) <;> (first | refine aL U ?_ | (refine aP U ?_; first | refine fX (by decide +kernel) (aa U U U U ‹_›) U ?_ | refine d9 (by decide +kernel) (aa U U U U ‹_›) U ?_)) <;> refine Uo U U (Uo U U ?_) <;> (first | refine aL U ?_ | (refine aP U ?_; refine aU (by decide +kernel) U U U U U ?_)) <;> (first | refine aL U ?_ | (refine aP U ?_; refine aU (by decide +kernel) U U U U U ?_)) <;> (first | refine aL U ?_ | (refine aP U ?_; refine aU (by decide +kernel) U U U U U ?_)) <;> (first | refine aL U ?_ | (refine aP U ?_; refine aU (by decide +kernel) U U U U U ?_)) <;> (first | refine aL U ?_ | (refine aP U ?_; refine aU (by decide +kernel) U (aA U U U ‹_› U U) U U U ?_)) <;> (first | refine aL U ?_ | (refine aP U ?_; first | refine fX (by decide +kernel) (aa U U U U ‹_›) U ?_ | refine d9 (by decide +kernel) (aa U U U U ‹_›) U ?_)) <;> (first | refine aL U ?_ | (refine aP U ?_; refine vm (by decide +kernel) U ?_)) <;> refine Uo U U (Uo U (aM U U U U ‹_› ⟨by assumption, U, U, Nb U⟩) ?_) <;> refine Un ?_) | (refine Wo 5 U ?_;refine Tc 2 U (Tg U (aA U U U ‹_› U U) ?_) <;> refine Tf U (aa U U U U ‹_›) U ?_ <;> refine Tn ?_) | apply ak))
    all_goals exact ⟨.inr rfl, rfl⟩
  | true =>
   rw [hw2] at hW2;rw [if_pos rfl];have hI := fun c => mQ c k (.mk ao an ac az) (by omega) (by omega) hbe (H.set r.L17 (.cells 4 [.bool bl'])) (H.set r.L17 (.cells 4 [.bool bl'])).length
   have hI0 := hI 0;have hI1 := hI 1;have hEq := rM (k - 1) (H.set r.L17 (.cells 4 [.bool bl'])) (H.set r.L17 (.cells 4 [.bool bl'])).length (vY 0 (.mk ao an ac az)) (vY 1 (.mk ao an ac az));rw [show k - 1 + 1 = k by omega] at hEq
   have hee : aF.mk 13 0 0 [vY 0 (.mk ao an ac az), vY 1 (.mk ao an ac az)] = F0 (.mk ao an ac az) := rfl;rw [hee] at hEq;have heqC : cT (F0 (.mk ao an ac az)) = [.int .i64 13, .int .i64 0, .int .i64 0, .vs 4 [cT (vY 0 (.mk ao an ac az)), cT (vY 1 (.mk ao an ac az))]] := rfl;generalize hq0 : vY 0 (.mk ao an ac az) = c0 at hI0 hEq heqC;generalize hq1 : vY 1 (.mk ao an ac az) = c1 at hI1 hEq heqC;generalize F0 (.mk ao an ac az) = E at hEq heqC ⊢;obtain ⟨c0o, c0n, c0c, c0s⟩ := c0;obtain ⟨c1o, c1n, c1c, c1s⟩ := c1;have hE4 : (cT E).length = 4 := by rw [heqC]; rfl
   generalize hH1 : H.set r.L17 (.cells 4 [.bool bl']) = H1 at s1 s2 s3 s4 hW2 c4 hI0 hI1 hEq hHl;rcases s3 with ⟨q0, q1, q2⟩ | ⟨jd, q0, q1, q2, q3, q4⟩
   ·subst q0
    have l18 := aV q1;have hap : append ba.tab lo H1 29 .nils (.vs 4 [[.int .i64 0, .int .i64 0, .int .i64 0, .nils]]) = some (.sl H1.length 4 0 1, H1 ++ [.cells 31 [.int .i64 0, .int .i64 0, .int .i64 0, .nils]]) := rfl;have g1 : (H1 ++ [ap.cells 31 [.int .i64 0, .int .i64 0, .int .i64 0, .nils]])[H1.length]? = some (.cells 31 [.int .i64 0, .int .i64 0, .int .i64 0, .nils]) := by simp
    have g2 : ((H1 ++ [ap.cells 31 [.int .i64 0, .int .i64 0, .int .i64 0, .nils]]).set H1.length (.cells 31 (bb [.int .i64 0, .int .i64 0, .int .i64 0, .nils] (0 + 0 * 4) (cT E))))[r.L18]? = some (.cells 29 [.nils]) := by
     rw [List.getElem?_set_ne (by omega), List.getElem?_append_left l18]; exact q1
    refine ⟨((H1 ++ [ap.cells 31 [.int .i64 0, .int .i64 0, .int .i64 0, .nils]]).set H1.length (.cells 31 (bb [.int .i64 0, .int .i64 0, .int .i64 0, .nils] (0 + 0 * 4) (cT E)))).set r.L18 (.cells 29 [.sl H1.length 4 0 1]), fun i => r.base i \/ i = H1.length, ?_, ⟨by simp at h1 ⊢; omega, ?_, ?_, ?_⟩, ?_⟩
    ·have hloJ : lo <= H1.length := by omega
     have hloL : lo <= r.L18 := by omega
     have hne : H1.length ≠ r.L18 := by omega
     clear hset jS s1 s2 s4 hu;rcases h4 with ⟨e1, e2⟩ | ⟨e1, e3, e2⟩ | ⟨e1, e3, e4, e2⟩ | ⟨e1, e3, e4, e2⟩
     all_goals (subst e1; subst e2; subst hH1; try rw [e3] at hW; try rw [e4] at hRd)
     all_goals
      apply ai Tryz.func33 U (Nb U) U U;(repeat' (first | apply ab | refine ah U U ?_ | refine af U U ?_ | refine Wr 0 U U ?_ | (refine Wo 1 U ?_;refine Tc 2 U (Tf U U U (Tn ?_))) | (refine Wo 2 U ?_;refine Tg U (aA U U U ‹_› U U) ?_ <;> refine Tc 1 U (Tt U (aa U U U U ‹_›) U ?_) <;> refine Tc 1 U (Tn ?_)) | (refine Wd 4 [0,1,3,3,11,31,63,127,255,511,1023,2047,255,8191,16383,32767,65535] U U (by decide +kernel) ?_;(refine aP U ?_; first | refine fX (by decide +kernel) (aA U U U ‹_› U U) U ?_ | refine d9 (by decide +kernel) (aA U U U ‹_› U U) U ?_) <;> refine Uo U U ?_ <;> (first | refine aL U ?_ | (refine aP U ?_; refine aU (by decide +kernel) U U U U U ?_)) <;> (first | refine aL U ?_ | (refine aP U ?_; refine aU (by decide +kernel) U U U U U ?_)) <;> (first | refine aL U ?_ | (refine aP U ?_; refine aU (by decide +kernel) U U U U U ?_)) <;> (first | refine aL U ?_ | (refine aP U ?_; first | refine fX (by decide +kernel) (aa U U U U ‹_›) U ?_ | refine d9 (by decide +kernel) (aa U U U U ‹_›) U ?_)) <;> refine Uo U U (Uo U U ?_) <;> (first | refine aL U ?_ | (refine aP U ?_; refine aU (by decide +kernel) U U U U U ?_)) <;> (first | refine aL U ?_ | (refine aP U ?_; refine aU (by decide +kernel) U U U U U ?_)) <;> (first | refine aL U ?_ | (refine aP U ?_; refine aU (by decide +kernel) U U U U U ?_)) <;> (first | refine aL U ?_ | (refine aP U ?_; refine aU (by decide +kernel) U U U U U ?_)) <;> (first | refine aL U ?_ | (refine aP U ?_; refine aU (by decide +kernel) U (aA U U U ‹_› U U) U U U ?_)) <;> (first | refine aL U ?_ | (refine aP U ?_; first | refine fX (by decide +kernel) (aa U U U U ‹_›) U ?_ | refine d9 (by decide +kernel) (aa U U U U ‹_›) U ?_)) <;> (first | refine aL U ?_ | (refine aP U ?_; refine vm (by decide +kernel) U ?_)) <;> refine Uo U U (Uo U (aM U U U U ‹_› ⟨by assumption, U, U, Nb U⟩) ?_) <;> refine Un ?_) | (refine Wo 5 U ?_;refine Tc 2 U (Tg U (aA U U U ‹_› U U) ?_) <;> refine Tt U (aa U U U U ‹_›) U ?_ <;> refine Tn ?_) | (refine C3 (id := 6) (bs := [0, 0, 2, 6, 14, 30, 0, 64, 192, 448, 1022, 2046, 1, 0, 16383]) U U (by decide +kernel) U U U (by decide +kernel) ?_ <;> refine Uf U (aA U U U ‹_› U U) U ?_ <;> refine Uf U U U (Uf U U U (Uf U U U (Uf U U U (Uf U (aa U U U U ‹_›) U ?_)))) <;> refine Uf U U U (Uf U U U (Uf U U U (Uf U U U (Uf U (aa U U U U ‹_›) U ?_)))) <;> refine Uf U (aa U U U U ‹_›) U ?_ <;> refine Uf U U U (Uf U U U (Uo U (aN U U U U U ‹_›) ?_)) <;> refine Un ?_) | apply ak));refine C4 (dJ (j := 0) rfl rfl rfl rfl rfl g1 (by omega) rfl) ?_ (aM rfl rfl rfl rfl g1 ⟨hloJ, rfl, hE4, Nat.le_of_ble_eq_true rfl⟩) (aM rfl rfl rfl rfl g2 ⟨hloL, rfl, rfl, Nat.le_of_ble_eq_true rfl⟩) ?_
      ·show (_ != _ && _ != _) = true
       simp only [Bool.and_self, bne_iff_ne, ne_eq];exact hne
      ·exact ⟨.inr rfl, rfl⟩
    ·refine ol.fix_keep s2 fun i hi => ?_
     have : i < r.L17 := by omega
     rw [List.getElem?_set_ne (by omega), List.getElem?_set_ne (by omega), List.getElem?_append_left (by omega)]
    ·rw [List.getElem?_set_ne (by omega), List.getElem?_set_ne (by omega), List.getElem?_append_left (by omega)]; exact s4
    ·refine .inr ⟨H1.length, l18, by simp, List.getElem?_set_self (by simp; omega), ?_, fun i => Iff.rfl⟩
     rw [List.getElem?_set_ne (by omega), List.getElem?_set_self (by simp)];have := oa [] [.int .i64 0, .int .i64 0, .int .i64 0, .nils] (cT E) 0 rfl (by rw [hE4]; rfl);rw [List.nil_append] at this;rw [show 0 + 0 * 4 = 0 from rfl, this]
     simp [bc]
    ·refine ⟨by simp; omega, fun i hi ho => ?_, fun i hi => ?_⟩
     ·have n1 : ¬ r.base i := fun e => ho ((q2 i).2 e)
      have n2 : i ≠ r.L18 := fun e => n1 (.inr (.inr (.inr (.inr (.inr e)))))
      rw [List.getElem?_set_ne (fun q => n2 q.symm), List.getElem?_set_ne (by omega), List.getElem?_append_left (by omega)];exact s1.2.1 i hi ho
     ·rcases hi with e | e
      ·exact .inl ((q2 i).2 e)
      ·exact .inr (by omega)
   ·have l18 := aV q2
    have ljd := aV q3;have hfl := En xs;have hxsl : xs.length < 90000 := by omega
    have hap : append ba.tab lo H1 29 (.sl jd 4 0 xs.length) (.vs 4 [[.int .i64 0, .int .i64 0, .int .i64 0, .nils]]) = some (.sl jd 4 0 (xs.length + 1), H1.set jd (.cells 31 ((bc xs).flatten ++ [.int .i64 0, .int .i64 0, .int .i64 0, .nils]))) := by
     have := r8 (tab := ba.tab) (lo := lo) (h := H1) (t := 29) (e := 31) (id := jd) (len := xs.length) (xs := (bc xs).flatten) rfl rfl q3 (by omega) (by rw [hfl]) (by decide) [[.int .i64 0, .int .i64 0, .int .i64 0, .nils]] (by simp only [ca, List.length_cons, List.length_nil]; show (xs.length + (0 + 1)) * 48 <= _; omega) (by simp only [ca, List.length_cons, List.length_nil]; omega);rw [List.flatten_cons, List.flatten_nil, List.append_nil] at this;exact this
    have hx4 : ((bc xs).flatten ++ ([.int .i64 0, .int .i64 0, .int .i64 0, .nils] : List AV)).length = (xs.length + 1) * 4 := by rw [List.length_append, hfl]; simp; omega
    have g1 : (H1.set jd (.cells 31 ((bc xs).flatten ++ [.int .i64 0, .int .i64 0, .int .i64 0, .nils])))[jd]? = some (.cells 31 ((bc xs).flatten ++ [.int .i64 0, .int .i64 0, .int .i64 0, .nils])) := List.getElem?_set_self ljd;have g2 : ((H1.set jd (.cells 31 ((bc xs).flatten ++ [.int .i64 0, .int .i64 0, .int .i64 0, .nils]))).set jd (.cells 31 (bb ((bc xs).flatten ++ [.int .i64 0, .int .i64 0, .int .i64 0, .nils]) (0 + xs.length * 4) (cT E))))[r.L18]? = some (.cells 29 [.sl jd 4 0 xs.length]) := by
     rw [List.getElem?_set_ne (by omega), List.getElem?_set_ne (by omega)]; exact q2
    refine ⟨((H1.set jd (.cells 31 ((bc xs).flatten ++ [.int .i64 0, .int .i64 0, .int .i64 0, .nils]))).set jd (.cells 31 (bb ((bc xs).flatten ++ [.int .i64 0, .int .i64 0, .int .i64 0, .nils]) (0 + xs.length * 4) (cT E)))).set r.L18 (.cells 29 [.sl jd 4 0 (xs.length + 1)]), O, ?_, ⟨by simp at h1 ⊢; omega, ?_, ?_, ?_⟩, ?_⟩
    ·have hloJ : lo <= jd := by omega
     have hloL : lo <= r.L18 := by omega
     have hne : jd ≠ r.L18 := by omega
     clear hset jS s1 s2 s4 hu;rcases h4 with ⟨e1, e2⟩ | ⟨e1, e3, e2⟩ | ⟨e1, e3, e4, e2⟩ | ⟨e1, e3, e4, e2⟩
     all_goals (subst e1; subst e2; subst hH1; try rw [e3] at hW; try rw [e4] at hRd)
     all_goals
      apply ai Tryz.func33 U (Nb U) U U;(repeat' (first | apply ab | refine ah U U ?_ | refine af U U ?_ | refine Wr 0 U U ?_ | (refine Wo 1 U ?_;refine Tc 2 U (Tf U U U (Tn ?_))) | (refine Wo 2 U ?_;refine Tg U (aA U U U ‹_› U U) ?_ <;> refine Tc 1 U (Tt U (aa U U U U ‹_›) U ?_) <;> refine Tc 1 U (Tn ?_)) | (refine Wd 4 [0,1,3,3,11,31,63,127,255,511,1023,2047,255,8191,16383,32767,65535] U U (by decide +kernel) ?_;(refine aP U ?_; first | refine fX (by decide +kernel) (aA U U U ‹_› U U) U ?_ | refine d9 (by decide +kernel) (aA U U U ‹_› U U) U ?_) <;> refine Uo U U ?_ <;> (first | refine aL U ?_ | (refine aP U ?_; refine aU (by decide +kernel) U U U U U ?_)) <;> (first | refine aL U ?_ | (refine aP U ?_; refine aU (by decide +kernel) U U U U U ?_)) <;> (first | refine aL U ?_ | (refine aP U ?_; refine aU (by decide +kernel) U U U U U ?_)) <;> (first | refine aL U ?_ | (refine aP U ?_; first | refine fX (by decide +kernel) (aa U U U U ‹_›) U ?_ | refine d9 (by decide +kernel) (aa U U U U ‹_›) U ?_)) <;> refine Uo U U (Uo U U ?_) <;> (first | refine aL U ?_ | (refine aP U ?_; refine aU (by decide +kernel) U U U U U ?_)) <;> (first | refine aL U ?_ | (refine aP U ?_; refine aU (by decide +kernel) U U U U U ?_)) <;> (first | refine aL U ?_ | (refine aP U ?_; refine aU (by decide +kernel) U U U U U ?_)) <;> (first | refine aL U ?_ | (refine aP U ?_; refine aU (by decide +kernel) U U U U U ?_)) <;> (first | refine aL U ?_ | (refine aP U ?_; refine aU (by decide +kernel) U (aA U U U ‹_› U U) U U U ?_)) <;> (first | refine aL U ?_ | (refine aP U ?_; first | refine fX (by decide +kernel) (aa U U U U ‹_›) U ?_ | refine d9 (by decide +kernel) (aa U U U U ‹_›) U ?_)) <;> (first | refine aL U ?_ | (refine aP U ?_; refine vm (by decide +kernel) U ?_)) <;> refine Uo U U (Uo U (aM U U U U ‹_› ⟨by assumption, U, U, Nb U⟩) ?_) <;> refine Un ?_) | (refine Wo 5 U ?_;refine Tc 2 U (Tg U (aA U U U ‹_› U U) ?_) <;> refine Tt U (aa U U U U ‹_›) U ?_ <;> refine Tn ?_) | (refine C3 (id := 6) (bs := [0, 0, 2, 6, 14, 30, 0, 64, 192, 448, 1022, 2046, 1, 0, 16383]) U U (by decide +kernel) U U U (by decide +kernel) ?_ <;> refine Uf U (aA U U U ‹_› U U) U ?_ <;> refine Uf U U U (Uf U U U (Uf U U U (Uf U U U (Uf U (aa U U U U ‹_›) U ?_)))) <;> refine Uf U U U (Uf U U U (Uf U U U (Uf U U U (Uf U (aa U U U U ‹_›) U ?_)))) <;> refine Uf U (aa U U U U ‹_›) U ?_ <;> refine Uf U U U (Uf U U U (Uo U (aN U U U U U ‹_›) ?_)) <;> refine Un ?_) | apply ak))
      refine C4 (dJ (j := xs.length) rfl rfl rfl rfl rfl g1 (by omega) (by rw [hx4]; show 0 + (xs.length + 1) * 4 = _; omega)) ?_ (aM rfl rfl rfl rfl g1 ⟨hloJ, rfl, hE4, by rw [hx4]; show 0 + xs.length * 4 + 4 <= _; omega⟩) (aM rfl rfl rfl rfl g2 ⟨hloL, rfl, rfl, Nat.le_of_ble_eq_true rfl⟩) ?_
      ·show (_ != _ && _ != _) = true
       simp only [Bool.and_self, bne_iff_ne, ne_eq];exact hne
      ·exact ⟨.inr rfl, rfl⟩
    ·refine ol.fix_keep s2 fun i hi => ?_
     have : i < r.L17 := by omega
     rw [List.getElem?_set_ne (by omega), List.getElem?_set_ne (by omega), List.getElem?_set_ne (by omega)]
    ·rw [List.getElem?_set_ne (by omega), List.getElem?_set_ne (by omega), List.getElem?_set_ne (by omega)]; exact s4
    ·refine .inr ⟨jd, q0, by simp, by rw [List.getElem?_set_self (by simpa using l18)]; simp, ?_, q4⟩
     rw [List.getElem?_set_ne (by omega), List.getElem?_set_self (by simpa using ljd)];have := oa (bc xs).flatten [.int .i64 0, .int .i64 0, .int .i64 0, .nils] (cT E) (xs.length * 4) (by rw [hfl]) (by rw [hE4]; rfl);rw [Nat.zero_add, this];simp [qj]
    ·refine ⟨by simp; omega, fun i hi ho => ?_, fun i hi => .inl hi⟩
     have n1 : ¬ r.base i := fun e => ho ((q4 i).2 (.inl e))
     have n2 : i ≠ r.L18 := fun e => n1 (.inr (.inr (.inr (.inr (.inr e)))))
     have n3 : i ≠ jd := fun e => ho ((q4 i).2 (.inr e))
     rw [List.getElem?_set_ne (fun q => n2 q.symm), List.getElem?_set_ne (fun q => n3 q.symm), List.getElem?_set_ne (fun q => n3 q.symm)];exact s1.2.1 i hi ho
def gz (vs : List bk) (low : Int) (l : List Int) (xs : List aF) : aF := xs.foldl cG (bx vs low l)
def pj (w : Int) (vs : List bk) (low : Int) (l1 l2 : List Int) (xs : List aF) : List AV × Int :=
 if dC w vs 2 (gz vs low l1 xs) != 0 || dC w vs 2 (bx vs low l2) != 0 then (pY 0 (.mk 0 0 0 []) (.mk 0 0 0 []) 0 0, 2)
 else (pY 2 (gz vs low l1 xs) (bx vs low l2) low 1, 0)
theorem x9 : ∀ (xs : List aF) (i : Nat) (x : aF), xs[i]? = some x -> ((bc xs).flatten.drop (i * 4)).take 4 = cT x
 | [], i, x, h => by simp at h
 | y :: xs, 0, x, h => by
  simp at h;subst h;obtain ⟨o, n, c, l⟩ := y;simp [bc, cT]
 | y :: xs, i + 1, x, h => by
  simp at h;have ih := x9 xs i x h;obtain ⟨o, n, c, l⟩ := y;rw [bc, List.flatten_cons, show (i + 1) * 4 = (cT (.mk o n c l)).length + i * 4 by rw [cT]; simp; omega, List.drop_append]
  have : (cT (.mk o n c l)).drop ((cT (.mk o n c l)).length + i * 4) = [] := by simp
  rw [this, List.nil_append, Nat.add_sub_cancel_left];exact ih
theorem lO (xs : List aF) (i : Nat) (x : aF) (hi : xs[i]? = some x) : Go.Ev.part ⟨.struct [(0, 3), (1, 3), (2, 3), (3, 29)], 4, 48, [.int .i64 0, .int .i64 0, .int .i64 0, .nils]⟩ (bc xs).flatten (0 + i * 4) = some (.agg (cT x)) := by
 have hl : (bc xs).flatten.length = xs.length * 4 := by rw [dg (sz := 4) (bc xs) (fun r hr => (jD xs r hr).1), dd]
 have hil : i < xs.length := by
  rcases Nat.lt_or_ge i xs.length with h | h
  ·exact h
  ·rw [List.getElem?_eq_none h] at hi; cases hi
 show (if 0 + i * 4 + 4 <= (bc xs).flatten.length then some (AV.agg (((bc xs).flatten.drop (0 + i * 4)).take 4)) else none) = _;rw [if_pos (by omega), Nat.zero_add];exact congrArg (fun z => some (AV.agg z)) (x9 xs i x hi)
def F2 (h H : aj) (id8 : Nat) (w : Int) (vs : List bk) (body : List ay) (low : Int) (jd len : Nat) (i : Int) (e : aF) : St :=
 {env := [(5, .p 5 0), (6, .v (.hp h.length 1 0)), (8, .v (.hp id8 1 0)), (10, .p 10 0), (12, .p 12 0), (13, .p 13 0), (14, .p 14 0), (31, .v (.sl jd 4 0 len)), (32, .v (.int .i64 len)), (33, .v (.int .i64 i))],
  loc := [(5, bY ⟨w, vs, body⟩), (10, [.int .i64 0, .int .i64 0, .int .i64 0, .int .i64 0, .nils, .int .i64 0, .int .i64 0, .int .i64 0, .nils, .int .i64 0, .int .i64 0]), (12, [.int .i64 2, .int .i64 0, .int .i64 0, .int .i64 0, .vs 4 [], .int .i64 0, .int .i64 0, .int .i64 0, .vs 4 [], .int .i64 low, .int .i64 1]), (13, cT (cE 1)), (14, cT e)], heap := H, inRound := false, lo := h.length }
theorem z7 (w : Int) (vs : List bk) (body : List ay) (low : Int) (l1 l2 : List Int) (xs : List aF) (jd : Nat) (k : Nat) (hk : vs.length + 5 < k) (hv : vs.length < 1000) (hc : ∀ v, v ∈ vs -> v.cells.toNat + 5 < k /\ v.cells <= 1000)
  (hl1 : l1.length = vs.length) (hl2 : l2.length = vs.length) (hK1 : cM (gz vs low l1 xs) + 60 <= k) (hK2 : cM (bx vs low l2) + 60 <= k) (hB1 : dP (gz vs low l1 xs)) (hB2 : dP (bx vs low l2)) (hxl : xs.length < k) (hxl2 : xs.length < 100000) (h : aj) (lo : Nat)
  (hV : h[jd]? = some (.cells 31 (bc xs).flatten)) :
  call Tryz.prog ba (k + 1) lo (.func 40) [.agg (bY ⟨w, vs, body⟩), .int .i64 low, .vs 1 (ag l1), .vs 1 (ag l2), .sl jd 4 0 xs.length] h = some (.tup [.agg (pj w vs low l1 l2 xs).1, .int .i64 (pj w vs low l1 l2 xs).2], h) := by
 have hat : ∀ (l : List Int), l.length = vs.length -> ∀ i, i < vs.length -> l[i]? = some (l.getD i 0) := fun l hl i hi => by simp [List.getD_eq_getElem?_getD, List.getElem?_eq_getElem (show i < l.length by omega)]
 let H : aj := (h ++ [ap.cells 3 [.int .i64 low]] ++ [ap.cells 26 [.vs 1 (ag l1)]]) ++ [ap.cells 26 [.vs 1 (ag l2)]]
 have e1 : ∀ js, (H ++ js)[h.length]? = some (.cells 3 [.int .i64 low]) := fun js => by simp [H, List.getElem?_append]
 have e2 : ∀ js, (H ++ js)[(h ++ [ap.cells 3 [.int .i64 low]]).length]? = some (.cells 26 [.vs 1 (ag l1)]) := fun js => by simp [H, List.getElem?_append]
 have e3 : ∀ js, (H ++ js)[(h ++ [ap.cells 3 [.int .i64 low]] ++ [ap.cells 26 [.vs 1 (ag l1)]]).length]? = some (.cells 26 [.vs 1 (ag l2)]) := fun js => by simp [H, List.getElem?_append]
 have hV' : H[jd]? = some (.cells 31 (bc xs).flatten) := by
  have := aV hV;simp only [H];rw [List.getElem?_append_left (by simp; omega), List.getElem?_append_left (by simp; omega), List.getElem?_append_left this]; exact hV
 have hS1 := lJ w vs body (AE l1 low) 82 [.hp (h ++ [ap.cells 3 [.int .i64 low]]).length 1 0, .hp h.length 1 0] (k - 1) (by omega) hv (fun v hm => by have := hc v hm; omega) H h.length (fun i hi js => by
  have := rN (H ++ js) _ _ l1 low (e2 js) (e1 js) i _ (hat l1 hl1 i hi) (k - 3) H.length;rw [show k - 3 + 2 = k - 1 by omega] at this
  exact this)
 have hS2 := lJ w vs body (AE l2 low) 83 [.hp (h ++ [ap.cells 3 [.int .i64 low]] ++ [ap.cells 26 [.vs 1 (ag l1)]]).length 1 0, .hp h.length 1 0] (k - 1) (by omega) hv (fun v hm => by have := hc v hm; omega) H h.length (fun i hi js => by
  have := rO (H ++ js) _ _ l2 low (e3 js) (e1 js) i _ (hat l2 hl2 i hi) (k - 3) H.length;rw [show k - 3 + 2 = k - 1 by omega] at this
  exact this)
 have hC1 := jv w vs 2 _ (k - 1) (by omega) hB1 H h.length;have hC2 := jv w vs 2 _ (k - 1) (by omega) hB2 H h.length;rw [show k - 1 + 1 = k by omega] at hS1 hS2 hC1 hC2
 have hfl : 0 + xs.length * 4 = (bc xs).flatten.length := by
  rw [dg (sz := 4) (bc xs) (fun r hr => (jD xs r hr).1), dd]; omega
 unfold pj;have hpre : gz vs low l1 xs = xs.foldl cG ((sU (AE l1 low) vs 0 none).getD (cE 1)) := rfl;generalize hP : gz vs low l1 xs = P at *;unfold bx at *;generalize sU (AE l1 low) vs 0 none = o1 at *;generalize sU (AE l2 low) vs 0 none = o2 at *;generalize hx1 : dC w vs 2 P = x1 at *;generalize hx2 : dC w vs 2 (o2.getD (cE 1)) = x2 at *;have hH : H = (h ++ [ap.cells 3 [.int .i64 low]] ++ [ap.cells 26 [.vs 1 (ag l1)]]) ++ [ap.cells 26 [.vs 1 (ag l2)]] := rfl;have f1 := e1 [];rw [List.append_nil] at f1;clear e1 e2 e3 hat
 clear_value H
 subst hH;have key : ∀ (e0 : aF), xs.foldl cG e0 = P -> o1.getD (cE 1) = e0 -> True := fun _ _ _ => trivial
 clear key;obtain ⟨Po, Pn, Pc, Pl⟩ := P;cases o1 with
 | none =>
  cases o2 with
  | none =>
   cases hb1 : (x1 != 0) <;> cases hb2 : (x2 != 0) <;>
   ·apply ai Tryz.func40 U (Nb U) U U
    (repeat' (first | apply ab | refine ah U U ?_ | refine Wr 0 U U ?_ | (refine Wo 1 U ?_;refine Tg U (aA U U U ‹_› U U) ?_ <;> refine Tc 3 U (Tn ?_)) | refine Wr 2 U U ?_ | (refine Wo 3 U ?_;refine Tc 2 U (Tg U (aa U U U U ‹_›) ?_) <;> refine Tc 2 U (Tf U U U (Tc 3 U (Tn ?_)))) | refine Wr 4 U U ?_ | refine Wr 5 U U ?_ | refine Wr 6 U U ?_ | apply ae));apply aS (S := F2 h (h ++ [ap.cells 3 [.int .i64 low]] ++ [ap.cells 26 [.vs 1 (ag l1)]] ++ [ap.cells 26 [.vs 1 (ag l2)]]) (h ++ [ap.cells 3 [.int .i64 low]] ++ [ap.cells 26 [.vs 1 (ag l1)]]).length w vs body low jd xs.length) (l := xs) (a0 := cE 1) (fun _ rest a => rest.foldl cG a = .mk Po Pn Pc Pl) (by omega) (by omega) rfl hpre.symm
    ·intro i x rest a hi hd hil hJ
     have hlt : decide ((i : Int) < (xs.length : Int)) = true := decide_eq_true (by omega);have hpt := lO xs i x hi;obtain ⟨xo, xn, xc, xl⟩ := x;obtain ⟨ao, an, ac, al⟩ := a;(repeat' (first | apply ab | refine ah U U ?_ | (refine Wo 7 U ?_;refine Tt U U ‹_› (Tn ?_)) | (refine Wo 8 U ?_;refine Tg U (dJ U U U U U ‹_› ‹_› ‹_›) ?_ <;> refine Tg U (aA U U U ‹_› U ‹_›) ?_ <;> refine Tc 2 U (Tn ?_)) | refine Wr 9 U U ?_ | refine Wr 10 U U ?_ | apply ak | apply ae));exact ⟨cG (.mk ao an ac al) (.mk xo xn xc xl), rfl, hJ⟩
    ·intro a hJ
     have ha : a = .mk Po Pn Pc Pl := hJ;subst ha;have hlt : decide ((xs.length : Int) < (xs.length : Int)) = false := decide_eq_false (by omega);clear hS1;(repeat' (first | apply ab | refine ah U U ?_ | refine af U U ?_ | (refine Wo 7 U ?_;refine Tf U U ‹_› (Tn ?_)) | (refine Wo 11 U ?_;refine Tc 2 U (Tg U (aa U U U U ‹_›) ?_) <;> refine Tc 2 U (Tf U U U (Tc 3 U (Tn ?_)))) | refine Wr 12 U U ?_ | refine Wr 13 U U ?_ | (refine Wd 14 [0,0,1,5,15,31] U U (by decide +kernel) ?_;refine Uf U U U (Uf U U U (Uf U U U ?_)) <;> (refine aP U ?_; refine fy (by decide +kernel) U U ?_) <;> refine Uo U U (Uo U U (Un ?_))) | (refine Wo 15 U ?_;refine Tc 5 U (Tg U (aa U U U U ‹_›) ?_) <;> (refine aK U ?_; first | refine bi U ‹_› ?_ | refine aT U ‹_› ?_) <;> refine Tc 6 U ?_ <;> (first | refine au U ?_ | (refine aK U ?_; refine ev (aa U U U U ‹_›) ?_)) <;> (first | refine au U ?_ | (refine aK U ?_; first | refine bi U ‹_› ?_ | refine aT U ‹_› ?_)) <;> refine Tc 1 U (Tn ?_)) | refine Wr 16 U U ?_ | refine Wr 17 U U ?_ | apply ak | apply am | apply aC))
     all_goals exact ⟨.inl rfl, rfl⟩
  | some b =>
   obtain ⟨b2, n2, c2, a2⟩ := b;cases hb1 : (x1 != 0) <;> cases hb2 : (x2 != 0) <;>
   ·apply ai Tryz.func40 U (Nb U) U U
    (repeat' (first | apply ab | refine ah U U ?_ | refine Wr 0 U U ?_ | (refine Wo 1 U ?_;refine Tg U (aA U U U ‹_› U U) ?_ <;> refine Tc 3 U (Tn ?_)) | refine Wr 2 U U ?_ | (refine Wo 3 U ?_;refine Tc 2 U (Tg U (aa U U U U ‹_›) ?_) <;> refine Tc 2 U (Tf U U U (Tc 3 U (Tn ?_)))) | refine Wr 4 U U ?_ | refine Wr 5 U U ?_ | refine Wr 6 U U ?_ | apply ae));apply aS (S := F2 h (h ++ [ap.cells 3 [.int .i64 low]] ++ [ap.cells 26 [.vs 1 (ag l1)]] ++ [ap.cells 26 [.vs 1 (ag l2)]]) (h ++ [ap.cells 3 [.int .i64 low]] ++ [ap.cells 26 [.vs 1 (ag l1)]]).length w vs body low jd xs.length) (l := xs) (a0 := cE 1) (fun _ rest a => rest.foldl cG a = .mk Po Pn Pc Pl) (by omega) (by omega) rfl hpre.symm
    ·intro i x rest a hi hd hil hJ
     have hlt : decide ((i : Int) < (xs.length : Int)) = true := decide_eq_true (by omega);have hpt := lO xs i x hi;obtain ⟨xo, xn, xc, xl⟩ := x;obtain ⟨ao, an, ac, al⟩ := a;(repeat' (first | apply ab | refine ah U U ?_ | (refine Wo 7 U ?_;refine Tt U U ‹_› (Tn ?_)) | (refine Wo 8 U ?_;refine Tg U (dJ U U U U U ‹_› ‹_› ‹_›) ?_ <;> refine Tg U (aA U U U ‹_› U ‹_›) ?_ <;> refine Tc 2 U (Tn ?_)) | refine Wr 9 U U ?_ | refine Wr 10 U U ?_ | apply ak | apply ae));exact ⟨cG (.mk ao an ac al) (.mk xo xn xc xl), rfl, hJ⟩
    ·intro a hJ
     have ha : a = .mk Po Pn Pc Pl := hJ;subst ha;have hlt : decide ((xs.length : Int) < (xs.length : Int)) = false := decide_eq_false (by omega);clear hS1;(repeat' (first | apply ab | refine ah U U ?_ | refine af U U ?_ | (refine Wo 7 U ?_;refine Tf U U ‹_› (Tn ?_)) | (refine Wo 11 U ?_;refine Tc 2 U (Tg U (aa U U U U ‹_›) ?_) <;> refine Tc 2 U (Tt U U U (Tc 3 U (Tn ?_)))) | refine Wr 12 U U ?_ | (refine Wd 14 [0,0,1,5,15,31] U U (by decide +kernel) ?_;refine Uf U U U (Uf U U U (Uf U U U ?_)) <;> (refine aP U ?_; refine fy (by decide +kernel) U U ?_) <;> refine Uo U U (Uo U U (Un ?_))) | (refine Wo 15 U ?_;refine Tc 5 U (Tg U (aa U U U U ‹_›) ?_) <;> (refine aK U ?_; first | refine bi U ‹_› ?_ | refine aT U ‹_› ?_) <;> refine Tc 6 U ?_ <;> (first | refine au U ?_ | (refine aK U ?_; refine ev (aa U U U U ‹_›) ?_)) <;> (first | refine au U ?_ | (refine aK U ?_; first | refine bi U ‹_› ?_ | refine aT U ‹_› ?_)) <;> refine Tc 1 U (Tn ?_)) | refine Wr 16 U U ?_ | refine Wr 17 U U ?_ | apply ak | apply am | apply aC))
     all_goals exact ⟨.inl rfl, rfl⟩
 | some b1 =>
  obtain ⟨b1o, b1n, b1c, b1a⟩ := b1;cases o2 with
  | none =>
   cases hb1 : (x1 != 0) <;> cases hb2 : (x2 != 0) <;>
   ·apply ai Tryz.func40 U (Nb U) U U
    (repeat' (first | apply ab | refine af U U ?_ | refine Wr 0 U U ?_ | (refine Wo 1 U ?_;refine Tg U (aA U U U ‹_› U U) ?_ <;> refine Tc 3 U (Tn ?_)) | refine Wr 2 U U ?_ | (refine Wo 3 U ?_;refine Tc 2 U (Tg U (aa U U U U ‹_›) ?_) <;> refine Tc 2 U (Tt U U U (Tc 3 U (Tn ?_)))) | refine Wr 4 U U ?_ | refine Wr 6 U U ?_ | apply ak | apply ae));apply aS (S := F2 h (h ++ [ap.cells 3 [.int .i64 low]] ++ [ap.cells 26 [.vs 1 (ag l1)]] ++ [ap.cells 26 [.vs 1 (ag l2)]]) (h ++ [ap.cells 3 [.int .i64 low]] ++ [ap.cells 26 [.vs 1 (ag l1)]]).length w vs body low jd xs.length) (l := xs) (a0 := .mk b1o b1n b1c b1a) (fun _ rest a => rest.foldl cG a = .mk Po Pn Pc Pl) (by omega) (by omega) rfl hpre.symm
    ·intro i x rest a hi hd hil hJ
     have hlt : decide ((i : Int) < (xs.length : Int)) = true := decide_eq_true (by omega);have hpt := lO xs i x hi;obtain ⟨xo, xn, xc, xl⟩ := x;obtain ⟨ao, an, ac, al⟩ := a;(repeat' (first | apply ab | refine ah U U ?_ | (refine Wo 7 U ?_;refine Tt U U ‹_› (Tn ?_)) | (refine Wo 8 U ?_;refine Tg U (dJ U U U U U ‹_› ‹_› ‹_›) ?_ <;> refine Tg U (aA U U U ‹_› U ‹_›) ?_ <;> refine Tc 2 U (Tn ?_)) | refine Wr 9 U U ?_ | refine Wr 10 U U ?_ | apply ak | apply ae));exact ⟨cG (.mk ao an ac al) (.mk xo xn xc xl), rfl, hJ⟩
    ·intro a hJ
     have ha : a = .mk Po Pn Pc Pl := hJ;subst ha;have hlt : decide ((xs.length : Int) < (xs.length : Int)) = false := decide_eq_false (by omega);clear hS1;(repeat' (first | apply ab | refine ah U U ?_ | refine af U U ?_ | (refine Wo 7 U ?_;refine Tf U U ‹_› (Tn ?_)) | (refine Wo 11 U ?_;refine Tc 2 U (Tg U (aa U U U U ‹_›) ?_) <;> refine Tc 2 U (Tf U U U (Tc 3 U (Tn ?_)))) | refine Wr 12 U U ?_ | refine Wr 13 U U ?_ | (refine Wd 14 [0,0,1,5,15,31] U U (by decide +kernel) ?_;refine Uf U U U (Uf U U U (Uf U U U ?_)) <;> (refine aP U ?_; refine fy (by decide +kernel) U U ?_) <;> refine Uo U U (Uo U U (Un ?_))) | (refine Wo 15 U ?_;refine Tc 5 U (Tg U (aa U U U U ‹_›) ?_) <;> (refine aK U ?_; first | refine bi U ‹_› ?_ | refine aT U ‹_› ?_) <;> refine Tc 6 U ?_ <;> (first | refine au U ?_ | (refine aK U ?_; refine ev (aa U U U U ‹_›) ?_)) <;> (first | refine au U ?_ | (refine aK U ?_; first | refine bi U ‹_› ?_ | refine aT U ‹_› ?_)) <;> refine Tc 1 U (Tn ?_)) | refine Wr 16 U U ?_ | refine Wr 17 U U ?_ | apply ak | apply am | apply aC))
     all_goals exact ⟨.inl rfl, rfl⟩
  | some b =>
   obtain ⟨b2, n2, c2, a2⟩ := b;cases hb1 : (x1 != 0) <;> cases hb2 : (x2 != 0) <;>
   ·apply ai Tryz.func40 U (Nb U) U U
    (repeat' (first | apply ab | refine af U U ?_ | refine Wr 0 U U ?_ | (refine Wo 1 U ?_;refine Tg U (aA U U U ‹_› U U) ?_ <;> refine Tc 3 U (Tn ?_)) | refine Wr 2 U U ?_ | (refine Wo 3 U ?_;refine Tc 2 U (Tg U (aa U U U U ‹_›) ?_) <;> refine Tc 2 U (Tt U U U (Tc 3 U (Tn ?_)))) | refine Wr 4 U U ?_ | refine Wr 6 U U ?_ | apply ak | apply ae));apply aS (S := F2 h (h ++ [ap.cells 3 [.int .i64 low]] ++ [ap.cells 26 [.vs 1 (ag l1)]] ++ [ap.cells 26 [.vs 1 (ag l2)]]) (h ++ [ap.cells 3 [.int .i64 low]] ++ [ap.cells 26 [.vs 1 (ag l1)]]).length w vs body low jd xs.length) (l := xs) (a0 := .mk b1o b1n b1c b1a) (fun _ rest a => rest.foldl cG a = .mk Po Pn Pc Pl) (by omega) (by omega) rfl hpre.symm
    ·intro i x rest a hi hd hil hJ
     have hlt : decide ((i : Int) < (xs.length : Int)) = true := decide_eq_true (by omega);have hpt := lO xs i x hi;obtain ⟨xo, xn, xc, xl⟩ := x;obtain ⟨ao, an, ac, al⟩ := a;(repeat' (first | apply ab | refine ah U U ?_ | (refine Wo 7 U ?_;refine Tt U U ‹_› (Tn ?_)) | (refine Wo 8 U ?_;refine Tg U (dJ U U U U U ‹_› ‹_› ‹_›) ?_ <;> refine Tg U (aA U U U ‹_› U ‹_›) ?_ <;> refine Tc 2 U (Tn ?_)) | refine Wr 9 U U ?_ | refine Wr 10 U U ?_ | apply ak | apply ae));exact ⟨cG (.mk ao an ac al) (.mk xo xn xc xl), rfl, hJ⟩
    ·intro a hJ
     have ha : a = .mk Po Pn Pc Pl := hJ;subst ha;have hlt : decide ((xs.length : Int) < (xs.length : Int)) = false := decide_eq_false (by omega);clear hS1;(repeat' (first | apply ab | refine ah U U ?_ | refine af U U ?_ | (refine Wo 7 U ?_;refine Tf U U ‹_› (Tn ?_)) | (refine Wo 11 U ?_;refine Tc 2 U (Tg U (aa U U U U ‹_›) ?_) <;> refine Tc 2 U (Tt U U U (Tc 3 U (Tn ?_)))) | refine Wr 12 U U ?_ | (refine Wd 14 [0,0,1,5,15,31] U U (by decide +kernel) ?_;refine Uf U U U (Uf U U U (Uf U U U ?_)) <;> (refine aP U ?_; refine fy (by decide +kernel) U U ?_) <;> refine Uo U U (Uo U U (Un ?_))) | (refine Wo 15 U ?_;refine Tc 5 U (Tg U (aa U U U U ‹_›) ?_) <;> (refine aK U ?_; first | refine bi U ‹_› ?_ | refine aT U ‹_› ?_) <;> refine Tc 6 U ?_ <;> (first | refine au U ?_ | (refine aK U ?_; refine ev (aa U U U U ‹_›) ?_)) <;> (first | refine au U ?_ | (refine aK U ?_; first | refine bi U ‹_› ?_ | refine aT U ‹_› ?_)) <;> refine Tc 1 U (Tn ?_)) | refine Wr 16 U U ?_ | refine Wr 17 U U ?_ | apply ak | apply am | apply aC))
     all_goals exact ⟨.inl rfl, rfl⟩
def iH (n : Int) (_ : Option ay) (m : Int) (s : ay) : Bool × Option ay := if m == n then (false, some s) else (true, none)
theorem F6 (n : Int) : ∀ (x : Option ay) (m : Int) (s : ay), x = none -> (iH n x m s).1 = true -> (iH n x m s).2 = none := by
 intro x m s _ h;unfold iH at h ⊢
 by_cases hc : (m == n) = true
 ·rw [if_pos hc] at h; cases h
 ·rw [if_neg hc]
def mT : Option ay -> List AV
 | none => [.int .i64 0, .int .i64 0, .nils, .nils, .nils]
 | some s => ig s
def AT (p : bp) (n : Int) : Option ay := (bR (iH n) p.body none 0).2.1
abbrev CN (n : Int) : ap := .cells 3 [.int .i64 n]
abbrev CS (x : List AV) : ap := .cells 64 x
abbrev ya : ap := .cells 34 [.int .i64 0]
abbrev X7 (h : aj) (n : Int) (p : bp) (S : List AV) (A : ap) (tail : aj) : aj := h ++ [CN n] ++ [CS S] ++ [ya] ++ [PO p] ++ [A] ++ tail
theorem F7 (h : aj) (n : Int) (rc : fL) (p : bp) (hb : lB p) (k : Nat) (hk : bA p.body + 80 <= k) (hkM : k <= 90000) (HH : aj) (hHH : HH = h ++ [CN n] ++ [CS (mT none)] ++ [ya] ++ [PO p])
  (hY : ∀ (k : Nat) (s : ay) (m j : Int), iy s + 30 <= k -> k <= 90000 -> kP s -> call Tryz.prog ba k h.length (.yield HH.length) [.int .i64 m, .agg (ig s)] (X7 h n p (mT none) (.loop rc) [.cells 3 [.int .i64 j]]) = some (.bool (iH n none m s).1, X7 h n p (mT (iH n none m s).2) (.loop (rD rc (iH n none m s).2.isSome)) [.cells 3 [.int .i64 j]])) :
  call Tryz.prog ba k h.length (.func 113) [.fn (.yield HH.length) [], .hp (h ++ [CN n] ++ [CS (mT none)] ++ [ya]).length 3 0] (HH ++ [.loop rc]) = some (.tup [], X7 h n p (mT (AT p n)) (.loop (rD rc (AT p n).isSome)) [.cells 3 [.int .i64 (bR (iH n) p.body none 0).2.2]]) := by
 subst hHH;have := mC (iH n) (fun x => x = none) (F6 n) (fun x => h ++ [CN n] ++ [CS (mT x)] ++ [ya] ++ [PO p] ++ [ap.loop (rD rc x.isSome)]) (h.length + 5) h.length (fun x => by simp) (by omega) (.yield (h ++ [CN n] ++ [CS (mT none)] ++ [ya] ++ [PO p]).length) 30 90000 p hb (h ++ [CN n] ++ [CS (mT none)] ++ [ya]).length none rfl (by simp)
  (fun k s x m j h1 h2 h3 h4 => by subst h4; exact hY k s m j h1 h2 h3) (k - 1) (by omega) (by omega)
 rw [show k - 1 + 1 = k by omega] at this
 exact this
theorem Hm (p : bp) (n : Int) (hok : sT p = true) (hK : bA p.body <= 80000) (k : Nat) (hk : bA p.body + 200 <= k) (hkM : k <= 90000) (hb : lB p) (h : aj) (lo : Nat) :
  call Tryz.prog ba (k + 1) lo (.func 30) [.agg (bY p), .int .i64 n] h = some (.tup [.agg (mT (AT p n)), .int .i64 (if (AT p n).isSome then 0 else 1)], h) := by
 have hC := mD p (k - 1) (by omega) hb (h ++ [CN n] ++ [CS (mT none)] ++ [ya]) h.length;have hE := rC p (k - 1) h.length (h ++ [CN n] ++ [CS (mT none)] ++ [ya]);rw [show k - 1 + 1 = k by omega] at hC hE
 rw [hok] at hC;have hlo4 : h.length <= (h ++ [CN n]).length := by simp
 have hlo5 : h.length <= (h ++ [CN n] ++ [CS (mT none)]).length := by first | (simp; done) | (simp; omega)
 have hloL : h.length <= (h ++ [CN n] ++ [CS (mT none)] ++ [ya] ++ [PO p]).length := by first | (simp; done) | (simp; omega)
 have gL : ∀ S A tl, (X7 h n p S A tl)[(h ++ [CN n] ++ [CS (mT none)] ++ [ya] ++ [PO p]).length]? = some A := fun S A tl => by simp [X7]
 have gN : ∀ S A tl, (X7 h n p S A tl)[h.length]? = some (CN n) := fun S A tl => by simp [X7]
 have gS : ∀ S A tl, (X7 h n p S A tl)[(h ++ [CN n]).length]? = some (CS S) := fun S A tl => by simp [X7]
 have gE : ∀ S A tl, (X7 h n p S A tl)[(h ++ [CN n] ++ [CS (mT none)]).length]? = some ya := fun S A tl => by simp [X7]
 have sL : ∀ S A tl Y, (X7 h n p S A tl).set (h ++ [CN n] ++ [CS (mT none)] ++ [ya] ++ [PO p]).length Y = X7 h n p S Y tl := fun S A tl Y => by simp [X7, List.set_append]
 have sS : ∀ S A tl Y, (X7 h n p S A tl).set (h ++ [CN n]).length (CS Y) = X7 h n p Y A tl := fun S A tl Y => by simp [X7, List.set_append]
 have sE : ∀ S A tl, (X7 h n p S A tl).set (h ++ [CN n] ++ [CS (mT none)]).length ya = X7 h n p S A tl := fun S A tl => by simp [X7, List.set_append]
 obtain ⟨w, vs, body⟩ := p;apply ai Tryz.func30 U (Nb U) U U;(repeat' (first | apply ab | refine af U U ?_ | refine Wr 0 U U ?_ | (refine Wo 1 U ?_;refine Tc 1 U (Tg U (aa U U U U ‹_›) ?_) <;> refine Tf U U U (Tn ?_)) | (refine Wo 3 U ?_;refine Tc 1 U (Tg U (aa U U U U ‹_›) ?_) <;> refine Tn ?_) | apply ak | apply ae));apply qe
 case hg => rfl
 case hr => rfl
 case hlo => exact hloL
 case hK =>
  refine F7 h n _ ⟨w, vs, body⟩ hb k (by omega) (by omega) _ rfl ?_;intro k s m j hks hkM2 hbs;cases k with
  | zero => omega
  | succ k =>
  obtain ⟨op, nn, a, t, e⟩ := s;have hcp := fun H L => i6 k (.mk op nn a t e) (by omega) (by omega) H L
  cases hmn : (m == n) with
  | true =>
   have hy : iH n none m (.mk op nn a t e) = (false, some (.mk op nn a t e)) := by unfold iH; rw [if_pos hmn]
   rw [hy];refine kn (gL _ _ _) hloL rfl rfl ?_;(repeat' (first | apply ab | refine Wr 4 U U ?_ | refine Wr 5 U U ?_));refine ⟨_, gL _ _ _, rfl, ?_⟩;generalize hHx : List.set _ _ (ap.loop _) = Hx;have hH2 := hHx.symm.trans (sL _ _ _ _);have hg1 : Hx[h.length]? = some (CN n) := by rw [hH2]; exact gN _ _ _
   have hg2 : Hx[(h ++ [CN n]).length]? = some (CS (mT none)) := by rw [hH2]; exact gS _ _ _
   have hg3 : (Hx.set (h ++ [CN n]).length (CS (ig (.mk op nn a t e))))[(h ++ [CN n] ++ [CS (mT none)]).length]? = some ya := by rw [hH2, sS]; exact gE _ _ _
   have hcp1 := hcp Hx h.length;have hH3 := congrArg (fun H : aj => (H.set (h ++ [CN n]).length (CS (ig (.mk op nn a t e)))).set (h ++ [CN n] ++ [CS (mT none)]).length ya) hH2;dsimp only at hH3;rw [sS, sE] at hH3;clear hHx hcp;(repeat' (first | apply ab | refine ah U U ?_ | (refine Wo 6 U ?_;refine Tc 1 U (Tg U (aA U U U ‹_› U U) ?_) <;> refine Tt U U ‹_› (Tn ?_)) | (refine Wo 7 U ?_;refine Tc 1 U (Tg U (aa U U U U ‹_›) ?_) <;> refine Tg U (aM U U U U ‹_› ⟨by assumption, U, U, Nb U⟩) ?_ <;> refine Tg U (aM U U U U ‹_› ⟨by assumption, U, U, Nb U⟩) ?_ <;> refine Tn ?_) | apply ae | apply am));exact ⟨_, (congrArg (fun H : aj => H[_]?) hH3).trans (gL _ _ _), (congrArg (fun H : aj => (AV.bool false, H)) ((congrArg (fun H : aj => List.set H _ _) hH3).trans (sL _ _ _ _))).symm⟩
  | false =>
   have hy : iH n none m (.mk op nn a t e) = (true, none) := by unfold iH; rw [if_neg (by rw [hmn]; simp)]
   rw [hy];refine kn (gL _ _ _) hloL rfl rfl ?_;(repeat' (first | apply ab | refine Wr 4 U U ?_ | refine Wr 5 U U ?_));refine ⟨_, gL _ _ _, rfl, ?_⟩;generalize hHx : List.set _ _ (ap.loop _) = Hx;have hH2 := hHx.symm.trans (sL _ _ _ _);have hg1 : Hx[h.length]? = some (CN n) := by rw [hH2]; exact gN _ _ _
   clear hHx;(repeat' (first | apply ab | refine af U U ?_ | (refine Wo 6 U ?_;refine Tc 1 U (Tg U (aA U U U ‹_› U U) ?_) <;> refine Tf U U ‹_› (Tn ?_)) | apply ak | apply ae));exact ⟨_, (congrArg (fun H : aj => H[_]?) hH2).trans (gL _ _ _), (congrArg (fun H : aj => (AV.bool true, H)) ((congrArg (fun H : aj => List.set H _ _) hH2).trans (sL _ _ _ _))).symm⟩
 case hl => exact gL _ _ _
 case hst => exact wZ _ rfl _
 case k =>
  dsimp only;generalize (bR (iH n) body none 0).2.2 = zz;generalize AT ⟨w, vs, body⟩ n = r;cases r with
  | some s =>
   obtain ⟨op, nn, a, t, e⟩ := s;generalize hHx : List.set _ _ ap.dead = Hx;have hH2 := hHx.symm.trans (sL _ _ _ _);have hr2 : Hx[(h ++ [CN n]).length]? = some (CS (ig (.mk op nn a t e))) := by rw [hH2]; exact gS _ _ _
   have hr3 : Hx[(h ++ [CN n] ++ [CS (mT none)]).length]? = some ya := by rw [hH2]; exact gE _ _ _
   clear hHx;exact ⟨.inl rfl, ec (a9 (bU rfl rfl hr2 rfl rfl) (a9 (bU rfl rfl hr3 rfl rfl) rfl)) rfl⟩
  | none =>
   generalize hHx : List.set _ _ ap.dead = Hx;have hH2 := hHx.symm.trans (sL _ _ _ _);have hg2 : Hx[(h ++ [CN n]).length]? = some (CS (mT none)) := by rw [hH2]; exact gS _ _ _
   have hg3 : (Hx.set (h ++ [CN n]).length (CS (mT none)))[(h ++ [CN n] ++ [CS (mT none)]).length]? = some ya := by rw [hH2, sS]; exact gE _ _ _
   have hr2 : ((Hx.set (h ++ [CN n]).length (CS (mT none))).set (h ++ [CN n] ++ [CS (mT none)]).length (.cells 34 [.int .i64 1]))[(h ++ [CN n]).length]? = some (CS (mT none)) := by
    rw [hH2, sS, List.getElem?_set_ne (by first | (simp; done) | (simp; omega))]; exact gS _ _ _
   have hr3 : ((Hx.set (h ++ [CN n]).length (CS (mT none))).set (h ++ [CN n] ++ [CS (mT none)]).length (.cells 34 [.int .i64 1]))[(h ++ [CN n] ++ [CS (mT none)]).length]? = some (.cells 34 [.int .i64 1]) := by
    rw [hH2, sS, List.getElem?_set_self (by first | (simp [X7]; done) | (simp [X7]; omega))]
   clear hHx;(repeat' (first | apply ab | (refine Wo 8 U ?_;refine Tc 1 U (Tg U (aM U U U U ‹_› ⟨by assumption, U, U, Nb U⟩) ?_) <;> refine Tg U (aM U U U U ‹_› ⟨by assumption, U, U, Nb U⟩) ?_ <;> refine Tn ?_) | apply am));exact ⟨.inl rfl, ec (a9 (bU rfl rfl hr2 rfl rfl) (a9 (bU rfl rfl hr3 rfl rfl) rfl)) rfl⟩
end Go.Proofs.YtelobnllkhnpaaaGreat.L
namespace Go.Proofs.YtelobnllkhnpaaaGreat.E
def frF (f r : Nat) : List Nat := match Nat.beq f 7 && Nat.beq r 23 with
 | true => [19]
 | false => []
def Ep : dO := { ba with fr := frF }
end Go.Proofs.YtelobnllkhnpaaaGreat.E
namespace Go.Proofs.YtelobnllkhnpaaaGreat.L
theorem F8 (r : ol) (low : Int) (at_ st : List Int) (m lo : Nat) (hlo : lo <= r.L17) (hat : at_.length <= 1000) : xR (Cs r low at_ st) m lo 30010 where
 frame := by
  rintro b (x : Bool × List aF) h O h' ⟨h1, h2, h3, h4⟩ hl hO;exact ⟨h1, ol.fix_keep h2 fun i hi => hO i (ol.more_base h4 (by
   rcases hi with e | e | e | e
   ·exact .inl e
   ·exact .inr (.inl e)
   ·exact .inr (.inr (.inl e))
   ·exact .inr (.inr (.inr (.inl e))))), by rw [hO r.L17 (ol.more_base h4 (.inr (.inr (.inr (.inr (.inl rfl))))))]; exact h3, ol.more_keep h4 fun i hi _ => hO i hi⟩
 mono := by
  rintro b b' (x : Bool × List aF) h O ⟨h1, h2⟩ hb;exact ⟨by omega, h2⟩
 rng := by
  rintro b (x : Bool × List aF) h O i ⟨h1, ⟨f1, f2, f3, f4⟩, h3, h4⟩ hi;have hb : r.L18 < h.length -> r.base i -> i < h.length := fun h18 e => by
   rcases e with e | e | e | e | e | e
   ·rw [e]; exact aV f1
   ·rw [e]; exact aV f2
   ·rw [e]; exact aV f3
   ·rw [e]; exact aV f4
   ·rw [e]; exact aV h3
   ·rw [e]; exact h18
  rcases h4 with ⟨_, q1, q2⟩ | ⟨id, _, _, q2, q3, q4⟩
  ·exact hb (aV q1) ((q2 i).1 hi)
  ·rcases (q4 i).1 hi with e | e
   ·exact hb (aV q2) e
   ·rw [e]; exact aV q3
 run := by
  rintro k b (x : Bool × List aF) H O id lv ar n s ⟨h1, h2, h3, h4⟩ hg hnO hlv hB har hk hbs hvm hloH;obtain ⟨op, nn, a, t, e⟩ := s;rw [iy] at hk;rw [kP] at hbs;rw [mc] at hvm;obtain ⟨⟨ha1, ha2⟩, _⟩ := hbs;obtain ⟨k, rfl⟩ : ∃ k', k = k' + 1 := ⟨k - 1, by omega⟩
  by_cases o3 : op = 3
  ·obtain ⟨a0, rfl⟩ := hvm.2.2.1 (.inr (.inr o3))
   have hm := bX [a0] 0 a0 rfl;exact Eo r low at_ st m lo hlo hat k b x H O id lv ar n nn op a0 t e o3 h1 h2 h3 h4 hg hnO hlv hB (by omega) (by omega) ha2.1 hvm.1.1 hloH
  ·have hu : pi low at_ st x n (.mk op nn a t e) lv ar = x := by unfold pi; dsimp only; rw [if_neg o3]
   have c3 : (op != 3) = true := by simpa using o3
   refine ⟨H, O, ?_, ?_, Fr.refl H O⟩
   ·show call Tryz.prog ba (k + 1) lo (.func 33) ([.int .i64 n, .agg (ig (.mk op nn a t e)), .sl id 1 0 m, .int .i64 ar] ++ (Cs r low at_ st).caps) H = some (.tup [], H)
    apply ai Tryz.func33 U (Nb U) U U;(repeat' (first | apply ab | refine ah U U ?_ | refine Wr 0 U U ?_ | (refine Wo 1 U ?_;refine Tc 2 U (Tt U U ‹_› (Tn ?_))) | apply am));exact ⟨.inl rfl, rfl⟩
   ·show (pi low at_ st x n (.mk op nn a t e) lv ar).2.length + b <= 90000 /\ r.fix low at_ st H /\ H[r.L17]? = some (.cells 4 [.bool (pi low at_ st x n (.mk op nn a t e) lv ar).1]) /\ r.more (pi low at_ st x n (.mk op nn a t e) lv ar).2 H O
    rw [hu];exact ⟨by omega, h2, h3, h4⟩
def z8 (p : bp) (low : Int) (at_ : List Int) (x : Bool × List aF) (n : Int) (s : ay) (lv : List Int) (ar : Int) : Bool × List aF :=
 match s with
 | .mk op nn a _ _ => if op = 3 then
   (
    if jk at_ n = true then (x.1 && (aW ar nn && !eM p (wd a)), if aW nn low = true then x.2 ++ [F0 (wd a)] else x.2)
    else (x.1 && aW (be ar (gB lv (wd a))) nn, x.2))
  else x
theorem Hn {p : bp} (hN : bu p.body <= 600) {l : List Int} (hl : ∀ v, v ∈ l ↔ ∃ k, (k, v) ∈ wc p) (low : Int) (at_ : List Int) : pi low at_ l = z8 p low at_ := by
 funext x n s lv ar;obtain ⟨op, nn, a, t, e⟩ := s;unfold pi z8;dsimp only;rw [zZ hN hl]
def gH (p : bp) (low : Int) (at_ : List Int) : Bool × List aF := (lI bT fg (z8 p low at_) p.body (bd p) 0 (true, []) 0).1
def yb (p : bp) (low : Int) (xs : List aF) : List AV × Int := pj p.width p.vars low (bd p) (cO p) xs
def F9 (p : bp) (low : Int) (at_ : List Int) : AV :=
 if (gH p low at_).1 = true then .tup [.agg (yb p low (gH p low at_).2).1, .bool ((yb p low (gH p low at_).2).2 == 0), .int .i64 (yb p low (gH p low at_).2).2]
 else .tup [.agg zC, .bool false, .int .i64 0]
def gd (p : bp) : Option Int -> List Int -> Bool
 | _, [] => true
 | pv, x :: r => (match AT p x with | none => false | some s => !(kD s != 3)) && (match pv with | none => true | some y => !decide (x <= y)) && gd p (some x) r
def z9 (p : bp) (low : Int) (at_ : List Int) : AV := if gd p none at_ = true then F9 p low at_ else .tup [.agg zC, .bool false, .int .i64 1]
theorem Aa (l : List Int) (m : Nat) (h : l.length = m) : cv 1 m (ic l) = ag l := by subst h; exact ik l
theorem yc {s : St} {t id sz len T : Nat} {xs : List AV} {rows : List (List AV)} (hl : Go.Ev.look s.env t = some (.v (.sl id sz 0 len))) (hh : s.heap[id]? = some (.cells T xs)) (hc : s.lo <= id /\ 0 + len * sz = xs.length /\ xs.all bh = true /\ cv sz len xs = rows) :
  b7 [t] s = { s with env := (t, .v (.vs sz rows)) :: s.env, heap := s.heap.set id .dead } := by
 obtain ⟨c1, c2, c3, c4⟩ := hc;rw [b7, b7];unfold jW;rw [hl];dsimp only;rw [hh];dsimp only;rw [if_pos ⟨c1, c2, c3⟩, List.drop_zero, c4]
def mg : ay -> List aF
 | .mk _ _ a _ _ => a
def Ho : ay -> Int
 | .mk _ nn _ _ _ => nn
def Er (a : aF) : aF := .mk 13 0 0 [vX 0 a, vX 1 a]
def Ct (n : Int) (L : List (Int × ay)) : Option ay := (L.find? (fun y => y.1 == n)).map Prod.snd
theorem Ga (n : Int) (A B : List (Int × ay)) : Ct n (A ++ B) = match Ct n A with | some s => some s | none => Ct n B := by
 unfold Ct;rw [List.find?_append];cases A.find? fun y => y.1 == n <;> rfl
theorem sK (n m : Int) (s : ay) (L : List (Int × ay)) : Ct n ((m, s) :: L) = if (m == n) = true then some s else Ct n L := by
 unfold Ct;rw [List.find?_cons];dsimp only;cases (m == n) <;> rfl
def Gu (n : Int) (W : Bool × Option ay × Int) (L : List (Int × ay)) (m : Int) : Prop :=
 W.2.1 = Ct n L /\ W.1 = (Ct n L).isNone /\ (Ct n L = none -> W = (true, none, m))
theorem AU {n : Int} {T : Bool × Option ay × Int} {X Y : List (Int × ay)} {m1 m2 : Int} (h1 : Gu n T X m1) {F : Bool × Option ay × Int} (h2 : Gu n F Y m2) {G : Option ay -> Int -> Bool × Option ay × Int} (hG : G none m1 = F) :
  Gu n (if T.1 = true then G T.2.1 T.2.2 else T) (X ++ Y) m2 := by
 obtain ⟨a1, a2, a3⟩ := h1;unfold Gu;rw [Ga];cases hx : Ct n X with
 | some r =>
  rw [hx] at a1 a2;rw [if_neg (by rw [a2]; simp)];exact ⟨a1, a2, fun h => by cases h⟩
 | none =>
  rw [a3 hx, if_pos rfl];dsimp only;rw [hG];exact h2
mutual
theorem Es (n : Int) : ∀ (s : ay) (m : Int), 0 <= m -> m + jw s < 1000000 -> Gu n (iQ (iH n) s none m) (th s m) (m + rF s)
 | .mk op nn a t e, m, h0, h1 => by
  rw [jw] at h1;have hst := d6 t;have hse := d6 e;have q2 : cW t 0 = fD t := by rw [eP t 0 (by omega) (by omega)]; omega
  have ht := oc n t (m + 1) (by omega) (by omega);have he := oc n e (m + 1 + fD t) (by omega) (by omega);rw [iQ, th, rF, eo (n := m + 1) (by omega) (by omega), show m + 1 - 1 = m by omega, eo (n := m) (by omega) (by omega), q2, eo (n := m + 1 + _) (by omega) (by omega), show m + ((1 + fD t + fD e : Nat) : Int) = m + 1 + fD t + fD e by omega]
  by_cases hm : (m == n) = true
  ·have hy : iH n none m (.mk op nn a t e) = (false, some (.mk op nn a t e)) := by unfold iH; rw [if_pos hm]
   rw [hy, if_neg (by simp)];unfold Gu;rw [sK, if_pos hm];exact ⟨rfl, rfl, fun h => by cases h⟩
  ·have hy : iH n none m (.mk op nn a t e) = (true, none) := by unfold iH; rw [if_neg hm]
   rw [hy, if_pos rfl];have := AU ht he (G := fun x j => bR (iH n) e x j) rfl;unfold Gu at this ⊢;rw [sK, if_neg hm];exact this
theorem oc (n : Int) : ∀ (l : List ay) (m : Int), 0 <= m -> m + bu l < 1000000 -> Gu n (bR (iH n) l none m) (i7 l m) (m + fD l)
 | [], m, h0, h1 => by
  rw [bR, i7, fD];exact ⟨rfl, rfl, fun _ => by simp⟩
 | s :: l, m, h0, h1 => by
  rw [bu] at h1;have hs := mG s;have h1' := Es n s m h0 (by omega);have h2' := oc n l (m + rF s) (by omega) (by omega);rw [bR, i7, fD, iT s m h0 (by omega), show m + ((rF s + fD l : Nat) : Int) = m + rF s + fD l by omega]
  exact AU h1' h2' (G := fun x j => bR (iH n) l x j) rfl
end
theorem AW (n : Int) : ∀ (L : List (Int × ay)) (m : Int), (∀ (j : Nat) x, L[j]? = some x -> x.1 = m + j) -> Ct n L = if m <= n then (L[(n - m).toNat]?).map Prod.snd else none
 | [], m, _ => by simp [Ct]
 | (a, s) :: L, m, h => by
  have ha : a = m := by simpa using h 0 (a, s) rfl
  have ih := AW n L (m + 1) (fun j x hx => by have := h (j + 1) x (by simpa using hx); omega);subst ha;rw [sK, ih]
  by_cases hn : a = n
  ·subst hn; simp
  ·rw [if_neg (by simpa using hn)]
   by_cases hl : a <= n
   ·rw [if_pos (by omega), if_pos hl, show (n - a).toNat = (n - (a + 1)).toNat + 1 by omega, List.getElem?_cons_succ]
   ·rw [if_neg (by omega), if_neg hl]
theorem Et {p : bp} (hN : bu p.body <= 600) (x : Int) : AT p x = if 0 <= x then ((every p)[x.toNat]?).map Prod.snd else none := by
 have h1 := (oc x p.body 0 (by omega) (by omega)).1;have h2 := AW x (every p) 0 (fun j y hy => (ph p.body 0 (by omega) (by omega)).2 j y hy);rw [show x - 0 = x by omega] at h2
 unfold AT;rw [h1];exact h2
theorem Gb {p : bp} (hN : bu p.body <= 600) (x : Int) : kO (every p) x = (match AT p x with | none => false | some s => !(kD s != 3)) := by
 rw [Et hN];unfold kO
 by_cases h0 : 0 <= x
 ·rw [if_pos h0, decide_eq_false (show ¬ x < 0 by omega)]
  rcases Nat.lt_or_ge x.toNat (every p).length with h | h
  ·rw [decide_eq_false (show ¬ x >= ((every p).length : Int) by omega), List.getElem?_eq_getElem h]
   rfl
  ·rw [List.getElem?_eq_none h]
   simp
 ·rw [if_neg h0, decide_eq_true (show x < 0 by omega)]
  simp
theorem qp {p : bp} (hN : bu p.body <= 600) : ∀ (l : List Int) (pv : Option Int), gd p pv l = fH (every p) pv l
 | [], pv => by cases pv <;> rfl
 | x :: l, pv => by
  have h1 : fH (every p) pv (x :: l) = (kO (every p) x && (match (generalizing := false) pv with | none => true | some y => !decide (x <= y)) && fH (every p) (some x) l) := rfl;have h2 : gd p pv (x :: l) = ((match AT p x with | none => false | some s => !(kD s != 3)) && (match (generalizing := false) pv with | none => true | some y => !decide (x <= y)) && gd p (some x) l) := rfl;rw [h1, h2, Gb hN, qp hN l]
theorem Ib {p : bp} (hN : bu p.body <= 600) (x : Int) (s : ay) (h : AT p x = some s) : 0 <= x /\ x < 600 := by
 rw [Et hN] at h;have hl := kC p.body 0
 by_cases h0 : 0 <= x
 ·rw [if_pos h0] at h
  rcases Nat.lt_or_ge x.toNat (every p).length with h' | h'
  ·have e : every p = i7 p.body 0 := rfl
   rw [e] at h';omega
  ·rw [List.getElem?_eq_none h'] at h; cases h
 ·rw [if_neg h0] at h; cases h
theorem v4 {L : List (Int × ay)} {x : Int} (h : kO L x = true) : 0 <= x /\ x < L.length /\ ∃ y, L[x.toNat]? = some y /\ kD y.2 = 3 := by
 unfold kO at h;simp only [Bool.and_eq_true, Bool.not_eq_true', decide_eq_false_iff_not] at h;obtain ⟨⟨h1, h2⟩, h3⟩ := h;refine ⟨by omega, by omega, ?_⟩
 cases hy : L[x.toNat]? with
 | none => rw [hy] at h3; cases h3
 | some y => rw [hy] at h3; exact ⟨y, rfl, by simpa using h3⟩
theorem uK (L : List (Int × ay)) : ∀ (l : List Int) (y : Int), 0 <= y -> y < L.length -> fH L (some y) l = true -> y + l.length < L.length
 | [], y, h0, h1, _ => by simpa using h1
 | x :: l, y, h0, h1, h => by
  have h2 : fH L (some y) (x :: l) = (kO L x && !decide (x <= y) && fH L (some x) l) := rfl;rw [h2] at h;simp only [Bool.and_eq_true, Bool.not_eq_true', decide_eq_false_iff_not] at h;obtain ⟨a1, a2, _⟩ := v4 h.1.1;have := uK L l x a1 a2 h.2;rw [List.length_cons]; omega
theorem Eu {p : bp} {l : List Int} (hN : bu p.body <= 600) (h : jU p l = true) : l.length <= 600 := by
 have hl : (every p).length <= bu p.body := kC p.body 0;cases l with
 | nil => simp
 | cons x l =>
  have h2 : jU p (x :: l) = (kO (every p) x && true && fH (every p) (some x) l) := rfl;rw [h2] at h;simp only [Bool.and_eq_true, Bool.and_true] at h;obtain ⟨a1, a2, _⟩ := v4 h.1;have := uK (every p) l x a1 a2 h.2;rw [List.length_cons]; omega
theorem uL (L : List (Int × ay)) : ∀ (l : List Int) (pv : Option Int), fH L pv l = true -> ∀ x, x ∈ l -> kO L x = true
 | [], _, _, x, hx => by cases hx
 | z :: l, pv, h, x, hx => by
  have h2 : fH L pv (z :: l) = (kO L z && (match (generalizing := false) pv with | none => true | some y => !decide (z <= y)) && fH L (some z) l) := rfl;rw [h2] at h;simp only [Bool.and_eq_true] at h;rcases List.mem_cons.1 hx with rfl | hx
  ·exact h.1.1
  ·exact uL L l _ h.2 x hx
section
variable {pt : List Int -> Int -> ay -> List Int} {og : List Int -> List aF -> Int}
mutual
theorem Hp : ∀ (s : ay) (lv : List Int) (ar n : Int) (p : Pl), p ∈ nG pt og s lv ar n -> (p.1, p.2.1) ∈ th s n
 | .mk op nn a t e, lv, ar, n, p, hp => by
  rw [nG] at hp;rw [th]
  split at hp
  ·rcases List.mem_cons.1 hp with rfl | hp
   ·exact List.mem_cons_self ..
   ·refine List.mem_cons_of_mem _ (List.mem_append.2 ?_)
    rcases List.mem_append.1 hp with hp | hp
    ·exact .inl (mR t _ _ _ p hp)
    ·exact .inr (mR e _ _ _ p hp)
  ·split at hp
   ·rcases List.mem_cons.1 hp with rfl | hp
    ·exact List.mem_cons_self ..
    ·exact List.mem_cons_of_mem _ (List.mem_append.2 (.inl (mR t _ _ _ p hp)))
   ·rw [List.mem_singleton] at hp
    subst hp;exact List.mem_cons_self ..
theorem mR : ∀ (l : List ay) (lv : List Int) (ar n : Int) (p : Pl), p ∈ iV pt og l lv ar n -> (p.1, p.2.1) ∈ i7 l n
 | [], lv, ar, n, p, hp => by rw [iV] at hp; cases hp
 | s :: l, lv, ar, n, p, hp => by
  rw [iV] at hp;rw [i7];rcases List.mem_append.1 hp with hp | hp
  ·exact List.mem_append.2 (.inl (Hp s _ _ _ p hp))
  ·exact List.mem_append.2 (.inr (mR l _ _ _ p hp))
end
mutual
theorem Hq {m : Nat} (H : Mv pt og m) : ∀ (s : ay) (lv : List Int) (ar n : Int), mc m s -> lv.length = m -> bf lv -> cb ar -> ∀ p, p ∈ nG pt og s lv ar n -> bf p.2.2.1
 | .mk op nn a t e, lv, ar, n, hv, hl, hB, har, p, hp => by
  obtain ⟨q1, q2⟩ := fF H (.mk op nn a t e) lv ar hl hB har hv;rw [mc] at hv;rw [nG] at hp
  split at hp
  ·rcases List.mem_cons.1 hp with rfl | hp
   ·exact hB
   ·rcases List.mem_append.1 hp with hp | hp
    ·exact pm H t lv _ _ hv.2.2.2.1 hl hB (bC har (H.og lv a hB)) p hp
    ·exact pm H e lv _ _ hv.2.2.2.2 hl hB (bC har (H.og lv a hB)) p hp
  ·split at hp
   ·rcases List.mem_cons.1 hp with rfl | hp
    ·exact q2
    ·exact pm H t _ _ _ hv.2.2.2.1 q1 q2 (bC har (H.og _ a q2)) p hp
   ·rw [List.mem_singleton] at hp
    rw [hp];exact hB
theorem pm {m : Nat} (H : Mv pt og m) : ∀ (l : List ay) (lv : List Int) (ar n : Int), xi m l -> lv.length = m -> bf lv -> cb ar -> ∀ p, p ∈ iV pt og l lv ar n -> bf p.2.2.1
 | [], lv, ar, n, _, _, _, _, p, hp => by rw [iV] at hp; cases hp
 | s :: l, lv, ar, n, hv, hl, hB, har, p, hp => by
  obtain ⟨q1, q2⟩ := fF H s lv ar hl hB har hv.1;rw [iV] at hp;rcases List.mem_append.1 hp with hp | hp
  ·exact Hq H s lv ar n hv.1 hl hB har p hp
  ·exact pm H l _ ar _ hv.2 q1 q2 har p hp
end
def Ew (l : List Pl) : Nat := (l.map (fun p => cQ (mg p.2.1))).sum
theorem AX (a b : List Pl) : Ew (a ++ b) = Ew a + Ew b := by unfold Ew; rw [List.map_append, List.sum_append]
theorem od (a : Pl) (b : List Pl) : Ew (a :: b) = cQ (mg a.2.1) + Ew b := rfl
mutual
theorem Ic : ∀ (s : ay) (lv : List Int) (ar n : Int), Ew (nG pt og s lv ar n) <= iy s
 | .mk op nn a t e, lv, ar, n => by
  rw [nG, iy];have ha : mg (.mk op nn a t e) = a := rfl;have h0 : Ew [] = 0 := rfl
  split
  ·rw [od, AX, ha]
   have := yd t lv (be ar (og lv a)) (IntKind.i64.wrap (n + 1));have := yd e lv (be ar (og lv a)) (IntKind.i64.wrap (IntKind.i64.wrap (n + 1) + cW t 0));omega
  ·split
   ·rw [od, ha]
    have := yd t (gK pt og (.mk op nn a t e) lv ar) (be ar (og (gK pt og (.mk op nn a t e) lv ar) a)) (IntKind.i64.wrap (n + 1));omega
   ·rw [od, ha]
    omega
theorem yd : ∀ (l : List ay) (lv : List Int) (ar n : Int), Ew (iV pt og l lv ar n) <= bA l
 | [], lv, ar, n => by rw [iV]; exact Nat.zero_le _
 | s :: l, lv, ar, n => by
  rw [iV, AX, bA];have := Ic s lv ar n;have := yd l (gK pt og s lv ar) ar (jj s n);omega
end
end
mutual
theorem Gc {w : Int} {vs : List bk} : ∀ (s : ay) (n : Int), dT w vs s = true -> ∀ y, y ∈ th s n -> dT w vs y.2 = true
 | .mk op nn a t e, n, hr, y, hy => by
  have hr0 := hr;rw [dT] at hr;simp only [Bool.and_eq_true] at hr;rw [th] at hy;rcases List.mem_cons.1 hy with rfl | hy
  ·exact hr0
  ·rcases List.mem_append.1 hy with hy | hy
   ·exact oe t _ hr.1.1.2 y hy
   ·exact oe e _ hr.1.2 y hy
theorem oe {w : Int} {vs : List bk} : ∀ (l : List ay) (n : Int), ce w vs l = true -> ∀ y, y ∈ i7 l n -> dT w vs y.2 = true
 | [], n, _, y, hy => by rw [i7] at hy; cases hy
 | s :: l, n, hr, y, hy => by
  rw [ce, Bool.and_eq_true] at hr;rw [i7] at hy;rcases List.mem_append.1 hy with hy | hy
  ·exact Gc s _ hr.1 y hy
  ·exact oe l _ hr.2 y hy
end
def Id (p : bp) (at_ : List Int) (x : Pl) : Bool := match x with
 | (n, .mk op nn a _ _, lv, ar) => if op = 3 then (if jk at_ n = true then aW ar nn && !eM p (wd a) else aW (be ar (gB lv (wd a))) nn) else true
def Ie (low : Int) (at_ : List Int) (x : Pl) : List aF := match x with
 | (n, .mk op nn a _ _, _, _) => if op = 3 then (if jk at_ n = true then (if aW nn low = true then [F0 (wd a)] else []) else []) else []
theorem Hr (p : bp) (low : Int) (at_ : List Int) (b : Bool) (xs : List aF) (x : Pl) : zx (z8 p low at_) (b, xs) x = (b && Id p at_ x, xs ++ Ie low at_ x) := by
 obtain ⟨n, ⟨op, nn, a, t, e⟩, lv, ar⟩ := x;unfold zx z8 Id Ie;dsimp only
 split
 ·split
  ·split <;> simp
  ·simp
 ·simp
theorem Gv (p : bp) (low : Int) (at_ : List Int) : ∀ (l : List Pl) (b : Bool) (xs : List aF), l.foldl (zx (z8 p low at_)) (b, xs) = (b && l.all (Id p at_), xs ++ l.flatMap (Ie low at_))
 | [], b, xs => by simp
 | x :: l, b, xs => by
  rw [List.foldl_cons, Hr, Gv p low at_ l, List.all_cons, List.flatMap_cons, Bool.and_assoc, List.append_assoc]
def okR (p : bp) (at_ : List Int) (x : Pl) : Bool := !jk at_ x.1 || (aW x.2.2.2 (Ho x.2.1) && !eM p (wd (mg x.2.1)))
def ER (low : Int) (at_ : List Int) (x : Pl) : List aF := if jk at_ x.1 = true then (if aW (Ho x.2.1) low = true then [Er (wd (mg x.2.1))] else []) else []
def Ip (at_ : List Int) (x : Pl) : Bool := match x with
 | (n, .mk op nn a _ _, lv, ar) => if op = 3 then aW (be ar (bz lv 0 a)) nn || jk at_ n else true
def If (r : List AV) : Int := match r with
 | .int _ n :: _ => n
 | _ => 0
theorem Ey (at_ : List Int) {l : List Pl} {fl : List (Int × Int × Int)} (h : l.flatMap ek = fl.map HC) : fl.all (fun x => jk at_ x.1) = l.all (Ip at_) := by
 have h1 : (fl.map HC).all (fun r => jk at_ (If r)) = fl.all (fun x => jk at_ x.1) := by rw [List.all_map]; rfl
 rw [<- h1, <- h, List.all_flatMap];congr 1;funext x;obtain ⟨n, ⟨op, nn, a, t, e⟩, lv, ar⟩ := x;unfold ek Ip;dsimp only
 split
 ·unfold ep
  cases aW (be ar (bz lv 0 a)) nn
  ·simp [If]
  ·simp
 ·rfl
def Ig (p : bp) (at_ : List Int) (x : Pl) : Prop :=
 (kD x.2.1 = 3 -> ∃ a0 c0, mg x.2.1 = [a0] /\ df p.width p.vars c0 a0 = true) /\ (jk at_ x.1 = true -> kD x.2.1 = 3) /\ bf x.2.2.1
theorem Ez {p : bp} {low : Int} {at_ : List Int} {x : Pl} (h : Ig p at_ x) : Id p at_ x = (Ip at_ x && okR p at_ x) /\ Ie low at_ x = ER low at_ x := by
 obtain ⟨n, ⟨op, nn, a, t, e⟩, lv, ar⟩ := x;obtain ⟨h1, h2, h3⟩ := h;have h1' : op = 3 -> ∃ a0 c0, a = [a0] /\ df p.width p.vars c0 a0 = true := h1;have h2' : jk at_ n = true -> op = 3 := h2;have h3' : bf lv := h3;have hr : okR p at_ (n, .mk op nn a t e, lv, ar) = (!jk at_ n || (aW ar nn && !eM p (wd a))) := rfl;have hm : ER low at_ (n, .mk op nn a t e, lv, ar) = if jk at_ n = true then (if aW nn low = true then [Er (wd a)] else []) else [] := rfl
 rw [hr, hm];unfold Id Ip Ie;dsimp only
 by_cases ho : op = 3
 ·rw [if_pos ho, if_pos ho, if_pos ho]
  obtain ⟨a0, c0, rfl, hf⟩ := h1' ho;have ha : wd [a0] = a0 := rfl;have hof : bz lv 0 [a0] = gB lv a0 := by rw [bz, bz, nE (fa h3' a0)]
  have hx : F0 a0 = Er a0 := by unfold F0 Er; rw [z6 0 a0 hf, z6 1 a0 hf]
  rw [ha, hof, hx];refine ⟨?_, rfl⟩;cases jk at_ n <;> simp
 ·rw [if_neg ho, if_neg ho, if_neg ho]
  have : jk at_ n = false := by
   cases hb : jk at_ n with
   | false => rfl
   | true => exact absurd (h2' hb) ho
  rw [this];exact ⟨rfl, rfl⟩
theorem uM {α : Type} {f g : α -> Bool} : ∀ {l : List α}, (∀ x, x ∈ l -> f x = g x) -> l.all f = l.all g
 | [], _ => rfl
 | x :: l, h => by rw [List.all_cons, List.all_cons, h x (List.mem_cons_self ..), uM fun y hy => h y (List.mem_cons_of_mem _ hy)]
theorem mh {α β : Type} {f g : α -> List β} : ∀ {l : List α}, (∀ x, x ∈ l -> f x = g x) -> l.flatMap f = l.flatMap g
 | [], _ => rfl
 | x :: l, h => by rw [List.flatMap_cons, List.flatMap_cons, h x (List.mem_cons_self ..), mh fun y hy => h y (List.mem_cons_of_mem _ hy)]
theorem AY {α : Type} (f g : α -> Bool) : ∀ l : List α, l.all (fun x => f x && g x) = (l.all f && l.all g)
 | [] => rfl
 | x :: l => by
  rw [List.all_cons, List.all_cons, List.all_cons, AY f g l];cases f x <;> cases g x <;> simp
theorem EA {p : bp} (hP : iF p = true) (hS : bt p = true) : iV bT fg p.body (bd p) 0 0 = gY p := rL p.body (bd p) 0 0 (bV hP) (cq p) (eR hP hS) cm
theorem AZ {p : bp} (hP : iF p = true) (hS : bt p = true) : cO p = kI p := rK p.body (bd p) 0 (bV hP) (cq p) (eR hP hS) cm
theorem A0 {p : bp} (hP : iF p = true) {x : Pl} (hx : x ∈ gY p) (h3 : kD x.2.1 = 3) : ∃ a0, mg x.2.1 = [a0] /\ df p.width p.vars 1 a0 = true := by
 have hev := mR p.body (bd p) 0 0 x hx;have hrow := oe p.body 0 (bV hP) _ hev;have hvm := mH _ hrow;obtain ⟨n, ⟨op, nn, a, t, e⟩, lv, ar⟩ := x;have h3' : op = 3 := h3;have hrow' : dT p.width p.vars (.mk op nn a t e) = true := hrow;have hvm' : mc p.vars.length (.mk op nn a t e) := hvm;rw [mc] at hvm';rw [dT] at hrow';simp only [Bool.and_eq_true] at hrow';obtain ⟨a0, rfl⟩ := hvm'.2.2.1 (.inr (.inr h3'));refine ⟨a0, rfl, ?_⟩;have := hrow'.2;simp only [List.all_cons, List.all_nil, Bool.and_true] at this;rw [vr] at this;simp only [Bool.and_eq_true] at this;exact this.2
theorem EB {p : bp} (hN : bu p.body <= 600) {at_ : List Int} (hA : jU p at_ = true) {x : Pl} (hx : x ∈ gY p) (hi : jk at_ x.1 = true) : kD x.2.1 = 3 := by
 have hev : (x.1, x.2.1) ∈ every p := mR p.body (bd p) 0 0 x hx;obtain ⟨h0, h1, y, hy, h3⟩ := v4 (uL (every p) at_ none hA x.1 (qo.1 hi));obtain ⟨j, hj⟩ := List.mem_iff_getElem?.1 hev;have hn := (ph p.body 0 (by omega) (by omega)).2 j _ hj;dsimp only at hn;have hjn : x.1.toNat = j := by omega
 rw [hjn, hj] at hy;injection hy with hy;rw [<- hy] at h3;exact h3
theorem ye {p : bp} (hP : iF p = true) (hS : bt p = true) (hN : bu p.body <= 600) {at_ : List Int} (hA : jU p at_ = true) : ∀ x, x ∈ gY p -> Ig p at_ x := fun x hx =>
 ⟨fun h3 => by obtain ⟨a0, h1, h2⟩ := A0 hP hx h3; exact ⟨a0, 1, h1, h2⟩, fun hi => EB hN hA hx hi,
  pm (dQ p.vars p.vars.length) p.body (bd p) 0 0 (dE _ (bV hP)) (cq p) (eR hP hS) cm x hx⟩
theorem A1 {p : bp} (low : Int) (hP : iF p = true) (hS : bt p = true) (hN : bu p.body <= 600) {at_ : List Int} (hA : jU p at_ = true) {fl : List (Int × Int × Int)} (hfl : (gY p).flatMap ek = fl.map HC) :
  gH p low at_ = (fl.all (fun x => jk at_ x.1) && (gY p).all (okR p at_), (gY p).flatMap (ER low at_)) := by
 have hn := ye hP hS hN hA;unfold gH;rw [oT (z8 p low at_) p.body (bd p) 0 _ 0 (bV hP) (by omega) (by omega)];dsimp only;rw [EA hP hS, Gv, Ey at_ hfl, uM (fun x hx => (Ez (low := low) (hn x hx)).1), mh (fun x hx => (Ez (low := low) (hn x hx)).2), AY]
 rfl
theorem Ih (a : aF) : cM (Er a) = 2 * cM a + 2 := by
 unfold Er;rw [cM, cQ, cQ, cQ, Ej, Ej]; omega
theorem Gd (a b : aF) : cM (cG a b) = cM a + cM b + 2 := by
 unfold cG;rw [cM, cQ, cQ, cQ]; omega
theorem A3 : ∀ (xs : List aF) (e : aF), cM (xs.foldl cG e) = cM e + (xs.map (fun x => cM x + 2)).sum
 | [], e => by simp
 | x :: xs, e => by
  rw [List.foldl_cons, A3 xs, Gd, List.map_cons, List.sum_cons]; omega
theorem A4 : ∀ (xs : List aF) (e : aF), dP e -> (∀ x, x ∈ xs -> dP x) -> dP (xs.foldl cG e)
 | [], e, he, _ => he
 | x :: xs, e, he, hx => by
  rw [List.foldl_cons];refine A4 xs _ ?_ (fun y hy => hx y (List.mem_cons_of_mem _ hy));unfold cG;simp only [dP, jg];exact ⟨by simp, he, hx x (List.mem_cons_self ..), trivial⟩
theorem Gw (low : Int) {at_ : List Int} : ∀ (l : List Pl), (∀ x, x ∈ l -> jk at_ x.1 = true -> ∃ a0, mg x.2.1 = [a0]) -> ((l.flatMap (ER low at_)).map (fun x => cM x + 2)).sum <= 2 * Ew l + 4 * l.length
 | [], _ => by simp
 | x :: l, h => by
  have ih := Gw low (at_ := at_) l (fun y hy => h y (List.mem_cons_of_mem _ hy));have hx := h x (List.mem_cons_self ..);rw [List.flatMap_cons, List.map_append, List.sum_append, od, List.length_cons];have : ((ER low at_ x).map (fun x => cM x + 2)).sum <= 2 * cQ (mg x.2.1) + 4 := by
   unfold ER;cases hi : jk at_ x.1 with
   | false => simp
   | true =>
    rw [if_pos rfl];obtain ⟨a0, ha⟩ := hx hi;rw [ha];have h2 : cQ [a0] = cM a0 + 1 := rfl;have h3 : wd [a0] = a0 := rfl;rw [h2, h3]
    split
    ·simp only [List.map_cons, List.map_nil, List.sum_cons, List.sum_nil, Ih]; omega
    ·simp
  omega
theorem EC {p : bp} (low : Int) (hP : iF p = true) (hS : bt p = true) (hN : bu p.body <= 600) (hK : bA p.body <= 6100) (hb : lB p) {at_ : List Int} (hA : jU p at_ = true) (hh : cM (bx p.vars low (bd p)) <= 2000) (hB : dP (bx p.vars low (bd p))) :
  cM (gz p.vars low (bd p) (gH p low at_).2) <= 17000 /\ dP (gz p.vars low (bd p) (gH p low at_).2) := by
 obtain ⟨fl, hfl⟩ := pd (gY p);rw [A1 low hP hS hN hA hfl];dsimp only;have hn := ye hP hS hN hA;have hone : ∀ x, x ∈ gY p -> jk at_ x.1 = true -> ∃ a0, mg x.2.1 = [a0] := fun x hx hi => by
  obtain ⟨h1, h2, _⟩ := hn x hx;obtain ⟨a0, _, h3, _⟩ := h1 (h2 hi);exact ⟨a0, h3⟩
 have hW := Gw low (gY p) hone;have hW2 : Ew (gY p) <= bA p.body := yd p.body (bd p) 0 0;have hl : (gY p).length <= bu p.body := nN (cX p.vars) dG p.body (bd p) 0 0;have hok := sm (K := bA p.body) (dQ p.vars p.vars.length) p.body (bd p) 0 0 (Nat.le_refl _) hb.2.2 (dE _ (bV hP)) (cq p) (eR hP hS) cm;unfold gz;refine ⟨by rw [A3]; omega, A4 _ _ hB fun y hy => ?_⟩
 obtain ⟨x, hx, hy⟩ := List.mem_flatMap.1 hy;have hxo := hok x hx;unfold ER at hy;cases hi : jk at_ x.1 with
 | false => rw [hi, if_neg (by simp)] at hy; cases hy
 | true =>
  rw [hi, if_pos rfl] at hy;obtain ⟨a0, ha⟩ := hone x hx hi;rw [ha] at hy
  split at hy
  ·rw [List.mem_singleton] at hy
   subst hy;obtain ⟨n, ⟨op, nn, a, t, e⟩, lv, ar⟩ := x;have ha' : a = [a0] := ha;subst ha';obtain ⟨_, _, o3, _⟩ := hxo;have h3 : dP (wd [a0]) := o3.1;unfold Er;simp only [dP, jg];exact ⟨by simp, El 0 _ h3, El 1 _ h3, trivial⟩
  ·cases hy
mutual
theorem sM {w : Nat} {vs : List bk} (hc : ∀ n : Int, 0 <= n -> n < vs.length -> 1 <= aI vs n) {s s' : List Int} : ∀ e : aF, df w vs 1 e = true -> (∀ v : Nat, v < vs.length -> yu v e = true -> agr vs v s s') -> aY w vs [s] e = aY w vs [s'] e
 | .mk op n c es, h, hr => by
  rw [df, Bool.and_eq_true] at h;have ih := uO hc es h.2 (fun v hv hv2 => hr v hv (by rw [yu, hv2, Bool.or_true]));rw [aY, aY, ih];unfold nM
  by_cases o1 : op = 1
  ·rcases jH h.1 with ⟨o, _⟩ | ⟨_, n0, n1, c0, c1, _⟩ | ⟨o, _⟩ | ⟨o, _⟩ | ⟨_, o, _⟩
   ·omega
   ·have hcc : c = 0 := by omega
    subst hcc;rw [if_neg (by omega), if_pos o1, if_neg (by omega), if_pos o1];show s.getD _ 0 = s'.getD _ 0;have hn : ((n.toNat : Nat) : Int) = n := Int.toNat_of_nonneg n0;have hag := hr n.toNat (by omega) (by rw [yu, hn, o1]; simp);obtain ⟨g1, g2⟩ := rS (i := (cr w vs [s'] es).getD 0 0) n0 n1 (hc n n0 n1);exact hag _ g1 g2
   ·omega
   ·omega
   ·exact absurd o1 o
  ·simp only [if_neg o1]
theorem uO {w : Nat} {vs : List bk} (hc : ∀ n : Int, 0 <= n -> n < vs.length -> 1 <= aI vs n) {s s' : List Int} : ∀ es : List aF, db w vs 1 es = true -> (∀ v : Nat, v < vs.length -> kB v es = true -> agr vs v s s') -> cr w vs [s] es = cr w vs [s'] es
 | [], _, _ => by rw [cr, cr]
 | e :: es, h, hr => by
  rw [db, Bool.and_eq_true] at h;rw [cr, cr, sM hc e h.1 (fun v hv hv2 => hr v hv (by rw [kB, hv2, Bool.true_or])), uO hc es h.2 (fun v hv hv2 => hr v hv (by rw [kB, hv2, Bool.or_true]))]
end
mutual
theorem v5 {w : Nat} {vs : List bk} {s1 s2 s : List Int} {c0 : Int} (hs : [s1, s2].getD c0.toNat [] = s) : ∀ e : aF, df w vs 1 e = true -> aY w vs [s1, s2] (vX c0 e) = aY w vs [s] e
 | .mk op n c es, h => by
  rw [df, Bool.and_eq_true] at h;rw [vX, aY, aY, yf hs es h.2];unfold nM
  by_cases o1 : op = 1
  ·rcases jH h.1 with ⟨o, _⟩ | ⟨_, n0, n1, k0, k1, _⟩ | ⟨o, _⟩ | ⟨o, _⟩ | ⟨_, o, _⟩
   ·omega
   ·have hcc : c = 0 := by omega
    subst hcc;subst o1;have z : ¬ ((1 : Int) = 0) := by omega
    simp only [if_neg z, beq_self_eq_true, if_true, hs]
    rfl
   ·omega
   ·omega
   ·exact absurd o1 o
  ·simp only [if_neg o1]
theorem yf {w : Nat} {vs : List bk} {s1 s2 s : List Int} {c0 : Int} (hs : [s1, s2].getD c0.toNat [] = s) : ∀ es : List aF, db w vs 1 es = true -> cr w vs [s1, s2] (gZ c0 es) = cr w vs [s] es
 | [], _ => by rw [gZ, cr, cr]
 | e :: es, h => by
  rw [db, Bool.and_eq_true] at h;rw [gZ, cr, cr, v5 hs e h.1, yf hs es h.2]
end
mutual
theorem ED {lv : List Int} (hb : bf lv) {v : Nat} : ∀ e : aF, yu v e = true -> eK (lv.getD v 0) (gB lv e)
 | .mk op n _ es, h => by
  rw [yu, Bool.or_eq_true, Bool.and_eq_true, beq_iff_eq, beq_iff_eq] at h;rw [gB];rcases h with ⟨o, hn⟩ | h
  ·rw [if_pos o, hn, Int.toNat_natCast]
   exact qn hb es (aJ hb v)
  ·split
   ·exact v6 hb es (aJ hb _) h
   ·exact v6 hb es cm h
theorem v6 {lv : List Int} (hb : bf lv) {v : Nat} : ∀ (es : List aF) {a : Int}, cb a -> kB v es = true -> eK (lv.getD v 0) (bz lv a es)
 | [], a, _, h => by rw [kB] at h; cases h
 | e :: es, a, ha, h => by
  rw [kB, Bool.or_eq_true] at h;rw [bz];have hB := bC ha (fa hb e);rcases h with h | h
  ·exact a8 (aJ hb v) hB (cn hb es hB) (a8 (aJ hb v) (fa hb e) hB (ED hb e h) (fd ha (fa hb e))) (qn hb es hB)
  ·exact v6 hb es hB h
end
def A5 (x : Int) : Prop := x = 0 \/ x = 1
theorem A6 (b : Bool) : A5 (fe b) := by cases b <;> simp [A5, fe]
theorem A7 (b : Bool) : fe b ≠ 0 ↔ b = true := by cases b <;> simp [fe]
theorem Gx {w : Nat} (h1 : 1 <= w) (h8 : w <= 8) {a b : Int} (ha : A5 a) (hb : A5 b) : A5 (nI 7 w a b) /\ (nI 7 w a b ≠ 0 ↔ a ≠ 0 /\ b ≠ 0) := by
 have hw : w = 1 \/ w = 2 \/ w = 3 \/ w = 4 \/ w = 5 \/ w = 6 \/ w = 7 \/ w = 8 := by omega
 have key : nI 7 w a b = a * b := by
  rcases hw with rfl | rfl | rfl | rfl | rfl | rfl | rfl | rfl <;> rcases ha with rfl | rfl <;> rcases hb with rfl | rfl <;> decide
 rw [key];rcases ha with rfl | rfl <;> rcases hb with rfl | rfl <;> simp [A5]
section
variable {w : Nat} {vs : List bk} (H : Hd w vs) (s1 s2 : List Int)
theorem oh (a b : aF) : aY w vs [s1, s2] (cG a b) = nI 7 w (aY w vs [s1, s2] a) (aY w vs [s1, s2] b) := by
 unfold cG;rw [aY, cr, cr, cr]
 rfl
theorem EE (a b : aF) (n c : Int) : aY w vs [s1, s2] (.mk 13 n c [a, b]) = fe (aY w vs [s1, s2] a == aY w vs [s1, s2] b) := by
 rw [aY, cr, cr, cr]
 rfl
def Tr (acc : Option aF) (P : Prop) : Prop := match acc with
 | none => P
 | some e => A5 (aY w vs [s1, s2] e) /\ (aY w vs [s1, s2] e ≠ 0 ↔ P)
theorem uP {acc : Option aF} {P Q : Prop} (h : P ↔ Q) (t : Tr (w := w) (vs := vs) s1 s2 acc P) : Tr (w := w) (vs := vs) s1 s2 acc Q := by
 cases acc with
 | none => exact h.1 t
 | some e => exact ⟨t.1, t.2.trans h⟩
include H
theorem yg {i j : Nat} (hi : i < vs.length) (hj : (j : Int) < aI vs i) (c : Int) : aY w vs [s1, s2] (iW i j (aI vs i) c) = ([s1, s2].getD c.toNat []).getD (bW vs i + j) 0 := by
 have hc := H.at (n := (i : Int)) (by omega) (by omega);unfold iW;rw [aY];unfold nM;rw [if_neg (by omega), if_pos rfl];congr 1;unfold cz;rw [Int.toNat_natCast]
 by_cases h1 : aI vs i > 1
 ·rw [decide_eq_true h1, if_pos rfl, cr, cr]
  unfold cE;rw [aY];unfold nM;rw [if_pos rfl];show _ + (j : Int).toNat % _ = _;rw [Int.toNat_natCast, Nat.mod_eq_of_lt (by omega)]
 ·rw [decide_eq_false h1, if_neg (by simp), cr]
  show _ + (0 : Int).toNat % _ = _;have : j = 0 := by omega
  subst this;simp
theorem Hs {i j : Nat} (hi : i < vs.length) (hj : (j : Int) < aI vs i) {acc : Option aF} {P : Prop} (t : Tr (w := w) (vs := vs) s1 s2 acc P) : Tr (w := w) (vs := vs) s1 s2 (EO i (aI vs i) acc j) (P /\ s1.getD (bW vs i + j) 0 = s2.getD (bW vs i + j) 0) := by
 have he : aY w vs [s1, s2] (yr i j (aI vs i)) = fe (s1.getD (bW vs i + j) 0 == s2.getD (bW vs i + j) 0) := by
  unfold yr;rw [EE, yg H s1 s2 hi hj, yg H s1 s2 hi hj]
  rfl
 have hB : A5 (aY w vs [s1, s2] (yr i j (aI vs i))) := by rw [he]; exact A6 _
 have hN : aY w vs [s1, s2] (yr i j (aI vs i)) ≠ 0 ↔ s1.getD (bW vs i + j) 0 = s2.getD (bW vs i + j) 0 := by rw [he, A7, beq_iff_eq]
 unfold EO;cases acc with
 | none => exact ⟨hB, hN.trans ⟨fun h => ⟨t, h⟩, fun h => h.2⟩⟩
 | some a =>
  obtain ⟨t1, t2⟩ := t;obtain ⟨a1, a2⟩ := Gx H.w1 H.w8 t1 hB;refine ⟨by show A5 (aY w vs [s1, s2] (cG _ _)); rw [oh]; exact a1, ?_⟩
  show aY w vs [s1, s2] (cG _ _) ≠ 0 ↔ _;rw [oh, a2, t2, hN]
theorem A8 {i : Nat} (hi : i < vs.length) : ∀ (ws : List Nat) {acc : Option aF} {P : Prop}, (∀ j, j ∈ ws -> (j : Int) < aI vs i) -> Tr (w := w) (vs := vs) s1 s2 acc P -> Tr (w := w) (vs := vs) s1 s2 (ws.foldl (EO i (aI vs i)) acc) (P /\ ∀ j, j ∈ ws -> s1.getD (bW vs i + j) 0 = s2.getD (bW vs i + j) 0)
 | [], acc, P, _, t => uP s1 s2 ⟨fun h => ⟨h, fun j hj => by cases hj⟩, fun h => h.1⟩ t
 | j :: ws, acc, P, hw, t => by
  rw [List.foldl_cons];refine uP s1 s2 ?_ (A8 hi ws (fun j' hj' => hw j' (List.mem_cons_of_mem _ hj')) (Hs H s1 s2 hi (hw j (List.mem_cons_self ..)) t));constructor
  ·rintro ⟨⟨h1, h2⟩, h3⟩
   refine ⟨h1, fun j' hj' => ?_⟩
   rcases List.mem_cons.1 hj' with rfl | hj'
   ·exact h2
   ·exact h3 j' hj'
  ·rintro ⟨h1, h2⟩
   exact ⟨⟨h1, h2 j (List.mem_cons_self ..)⟩, fun j' hj' => h2 j' (List.mem_cons_of_mem _ hj')⟩
theorem EF (g : Nat -> Bool) : ∀ (l : List bk) (i : Nat) {acc : Option aF} {P : Prop}, l = vs.drop i -> Tr (w := w) (vs := vs) s1 s2 acc P -> Tr (w := w) (vs := vs) s1 s2 (sU g l i acc) (P /\ ∀ v, i <= v -> v < vs.length -> g v = true -> agr vs v s1 s2)
 | [], i, acc, P, hl, t => by
  rw [sU];have : vs.length <= i := by have := congrArg List.length hl; simp at this; omega
  exact uP s1 s2 ⟨fun h => ⟨h, fun v h1 h2 => by omega⟩, fun h => h.1⟩ t
 | x :: l, i, acc, P, hl, t => by
  have hi : i < vs.length := by have := congrArg List.length hl; simp at this; omega
  have hx : vs[i]? = some x := by
   have := congrArg (fun z => z[0]?) hl;simp at this;exact this.symm
  have hl2 : l = vs.drop (i + 1) := by
   have := congrArg List.tail hl;simpa using this
  have hcx : aI vs i = x.cells := by unfold aI; rw [Int.toNat_natCast, hx]
  have hcb := H.at (n := (i : Int)) (by omega) (by omega);rw [sU];have step : Tr (w := w) (vs := vs) s1 s2 (if g i = true then (List.range x.cells.toNat).foldl (EO i x.cells) acc else acc) (P /\ (g i = true -> agr vs i s1 s2)) := by
   split
   ·rename_i hg
    rw [<- hcx];refine uP s1 s2 ?_ (A8 H s1 s2 hi (List.range (aI vs i).toNat) (fun j hj => by have := List.mem_range.1 hj; omega) t);have hs := fc hi;constructor
    ·rintro ⟨h1, h2⟩
     refine ⟨h1, fun _ j j1 j2 => ?_⟩
     have := h2 (j - bW vs i) (List.mem_range.2 (by omega));rw [show bW vs i + (j - bW vs i) = j by omega] at this
     exact this
    ·rintro ⟨h1, h2⟩
     refine ⟨h1, fun j hj => h2 hg _ (by omega) ?_⟩
     have := List.mem_range.1 hj;omega
   ·rename_i hg
    exact uP s1 s2 ⟨fun h => ⟨h, fun h2 => absurd h2 hg⟩, fun h => h.1⟩ t
  refine uP s1 s2 ?_ (EF g l (i + 1) hl2 step);constructor
  ·rintro ⟨⟨h1, h2⟩, h3⟩
   refine ⟨h1, fun v h4 h5 h6 => ?_⟩
   rcases Nat.eq_or_lt_of_le h4 with rfl | h4
   ·exact h2 h6
   ·exact h3 v h4 h5 h6
  ·rintro ⟨h1, h2⟩
   exact ⟨⟨h1, h2 i (Nat.le_refl _) hi⟩, fun v h4 h5 h6 => h2 v (by omega) h5 h6⟩
theorem lP (low : Int) (l : List Int) : A5 (aY w vs [s1, s2] (bx vs low l)) /\ (aY w vs [s1, s2] (bx vs low l) ≠ 0 ↔ ∀ v, v < vs.length -> aW (l.getD v 0) low = true -> agr vs v s1 s2) := by
 have h := EF H s1 s2 (AE l low) vs 0 (acc := none) (P := True) rfl trivial;unfold bx;cases ha : sU (AE l low) vs 0 none with
 | none =>
  rw [ha] at h;have e : aY w vs [s1, s2] ((none : Option aF).getD (cE 1)) = 1 := rfl;rw [e];exact ⟨.inr rfl, fun _ v hv hg => h.2 v (by omega) hv hg, fun _ => by omega⟩
 | some e =>
  rw [ha] at h;exact ⟨h.1, h.2.trans ⟨fun h2 v hv hg => h2.2 v (by omega) hv hg, fun h2 => ⟨trivial, fun v _ hv hg => h2 v hv hg⟩⟩⟩
theorem Ht (low : Int) (l : List Int) (xs : List aF) (hx : ∀ x, x ∈ xs -> A5 (aY w vs [s1, s2] x)) : aY w vs [s1, s2] (gz vs low l xs) ≠ 0 -> (∀ v, v < vs.length -> aW (l.getD v 0) low = true -> agr vs v s1 s2) /\ ∀ x, x ∈ xs -> aY w vs [s1, s2] x ≠ 0 := by
 have key : ∀ (xs : List aF) (e : aF), A5 (aY w vs [s1, s2] e) -> (∀ x, x ∈ xs -> A5 (aY w vs [s1, s2] x)) -> aY w vs [s1, s2] (xs.foldl cG e) ≠ 0 -> aY w vs [s1, s2] e ≠ 0 /\ ∀ x, x ∈ xs -> aY w vs [s1, s2] x ≠ 0 := by
  intro xs
  induction xs with
  | nil => exact fun e _ _ h => ⟨h, fun x hx => by cases hx⟩
  | cons y ys ih =>
   intro e he hys h;rw [List.foldl_cons] at h;obtain ⟨a1, a2⟩ := Gx H.w1 H.w8 he (hys y (List.mem_cons_self ..));obtain ⟨h1, h2⟩ := ih (cG e y) (by rw [oh]; exact a1) (fun x hx => hys x (List.mem_cons_of_mem _ hx)) h;rw [oh, a2] at h1;refine ⟨h1.1, fun x hx => ?_⟩
   rcases List.mem_cons.1 hx with rfl | hx
   ·exact h1.2
   ·exact h2 x hx
 obtain ⟨g1, g2⟩ := lP H s1 s2 low l;intro h;obtain ⟨k1, k2⟩ := key xs _ g1 hx h;exact ⟨g2.1 k1, k2⟩
end
mutual
theorem Ii {w : Int} {vs : List bk} : ∀ (s : ay) (n : Int), dT w vs s = true -> s8 s = true -> ∀ y, y ∈ th s n -> kD y.2 = 3 -> EQ (Ho y.2)
 | .mk op nn a t e, n, hr, hl, y, hy, h3 => by
  rw [dT] at hr;simp only [Bool.and_eq_true] at hr;obtain ⟨⟨⟨hh, ht⟩, he⟩, _⟩ := hr;rw [s8] at hl;simp only [Bool.and_eq_true, Bool.not_eq_true'] at hl;obtain ⟨⟨l1, l2⟩, l3⟩ := hl;rw [th] at hy;rcases List.mem_cons.1 hy with rfl | hy
  ·have h3' : op = 3 := h3
   subst h3';have := uJ hh;simp at l1;show 0 <= nn /\ nn < 16;omega
  ·rcases List.mem_append.1 hy with hy | hy
   ·exact A9 t _ ht l2 y hy h3
   ·exact A9 e _ he l3 y hy h3
theorem A9 {w : Int} {vs : List bk} : ∀ (l : List ay) (n : Int), ce w vs l = true -> dL l = true -> ∀ y, y ∈ i7 l n -> kD y.2 = 3 -> EQ (Ho y.2)
 | [], n, _, _, y, hy, _ => by rw [i7] at hy; cases hy
 | s :: l, n, hr, hl, y, hy, h3 => by
  rw [ce, Bool.and_eq_true] at hr;rw [dL, Bool.and_eq_true] at hl;rw [i7] at hy;rcases List.mem_append.1 hy with hy | hy
  ·exact Ii s _ hr.1 hl.1 y hy h3
  ·exact A9 l _ hr.2 hl.2 y hy h3
end
section
variable {pt : List Int -> Int -> ay -> List Int} {og : List Int -> List aF -> Int}
mutual
theorem Hu {m : Nat} (H : Mv pt og m) : ∀ (s : ay) (lv : List Int) (ar n : Int), mc m s -> lv.length = m -> bf lv -> cb ar -> ∀ p, p ∈ nG pt og s lv ar n -> cb p.2.2.2
 | .mk op nn a t e, lv, ar, n, hv, hl, hB, har, p, hp => by
  obtain ⟨q1, q2⟩ := fF H (.mk op nn a t e) lv ar hl hB har hv;rw [mc] at hv;rw [nG] at hp
  split at hp
  ·rcases List.mem_cons.1 hp with rfl | hp
   ·exact har
   ·rcases List.mem_append.1 hp with hp | hp
    ·exact sN H t lv _ _ hv.2.2.2.1 hl hB (bC har (H.og lv a hB)) p hp
    ·exact sN H e lv _ _ hv.2.2.2.2 hl hB (bC har (H.og lv a hB)) p hp
  ·split at hp
   ·rcases List.mem_cons.1 hp with rfl | hp
    ·exact har
    ·exact sN H t _ _ _ hv.2.2.2.1 q1 q2 (bC har (H.og _ a q2)) p hp
   ·rw [List.mem_singleton] at hp
    rw [hp];exact har
theorem sN {m : Nat} (H : Mv pt og m) : ∀ (l : List ay) (lv : List Int) (ar n : Int), xi m l -> lv.length = m -> bf lv -> cb ar -> ∀ p, p ∈ iV pt og l lv ar n -> cb p.2.2.2
 | [], lv, ar, n, _, _, _, _, p, hp => by rw [iV] at hp; cases hp
 | s :: l, lv, ar, n, hv, hl, hB, har, p, hp => by
  obtain ⟨q1, q2⟩ := fF H s lv ar hl hB har hv.1;rw [iV] at hp;rcases List.mem_append.1 hp with hp | hp
  ·exact Hu H s lv ar n hv.1 hl hB har p hp
  ·exact sN H l _ ar _ hv.2 q1 q2 har p hp
end
end
mutual
theorem Hv {tg : Int -> Prop} : ∀ (s : ay) (n : Int), (∀ y, y ∈ th s n -> (kD y.2 = 0 \/ kD y.2 = 4) -> tg (Ho y.2)) -> Hg tg s
 | .mk op nn a t e, n, h => by
  rw [th] at h;rw [Hg];exact ⟨h _ (List.mem_cons_self ..), v7 t _ fun y hy => h y (List.mem_cons_of_mem _ (List.mem_append.2 (.inl hy))), v7 e _ fun y hy => h y (List.mem_cons_of_mem _ (List.mem_append.2 (.inr hy)))⟩
theorem v7 {tg : Int -> Prop} : ∀ (l : List ay) (n : Int), (∀ y, y ∈ i7 l n -> (kD y.2 = 0 \/ kD y.2 = 4) -> tg (Ho y.2)) -> Hh tg l
 | [], n, h => trivial
 | s :: l, n, h => by
  rw [i7] at h;exact ⟨Hv s n fun y hy => h y (List.mem_append.2 (.inl hy)), v7 l _ fun y hy => h y (List.mem_append.2 (.inr hy))⟩
end
def Iq (p : bp) (v : Int) : Prop := (0 <= v /\ v < p.vars.length) /\ ∃ y, y ∈ every p /\ (kD y.2 = 0 \/ kD y.2 = 4) /\ Ho y.2 = v
def tj (p : bp) (s0 s : List Int) : Prop := ∀ v : Nat, v < p.vars.length -> ¬ Iq p v -> agr p.vars v s0 s
theorem Ij {p : bp} (hP : iF p = true) : Hh (Iq p) p.body := by
 refine v7 p.body 0 fun y hy ho => ⟨?_, y, hy, ho, rfl⟩
 have := mH _ (oe p.body 0 (bV hP) y hy);obtain ⟨n, ⟨op, nn, a, t, e⟩⟩ := y;rw [mc] at this;exact this.2.1 ho
def Ba (p : bp) (low : Int) (J1 J2 : List Int -> Prop) : Prop := ∀ q, q ∈ gY p -> Cl (gy p.width.toNat p.vars) low J1 J2 q
theorem yh {p : bp} (hP : iF p = true) (hS : bt p = true) (H : pQ p) {low : Int} (h0 : 0 <= low) (h1 : low <= 15) {see : Int -> Bool} (hsee : ∀ n, cb n -> see n = true -> eK n low) {s1 s2 : List Int} (hl : s1.length = s2.length)
  {y1 y2 : il} (r1 : iZ (gy p.width.toNat p.vars) p.vars p.body (s1, []) y1) (r2 : iZ (gy p.width.toNat p.vars) p.vars p.body (s2, []) y2) (hpl : Ba p low (tj p s1) (tj p s2)) (hag : ∀ v, v < p.vars.length -> eK ((bd p).getD v 0) low -> agr p.vars v s1 s2) :
  fR see y1.2 = fR see y2.2 /\ ∀ v, v < p.vars.length -> eK ((kI p).getD v 0) low -> agr p.vars v y1.1 y2.1 := by
 have hlow : cb low := by unfold cb; omega
 have hcells : ∀ n : Int, 0 <= n -> n < p.vars.length -> 1 <= aI p.vars n := fun n n0 n1 => (H.hd.at n0 n1).1
 have hI : ∀ s0 s n i x, Iq p n -> tj p s0 s -> tj p s0 (s.set (cz p.vars n i) x) := fun s0 s n i x ht hu v hv hn => by
  have hne : v ≠ n.toNat := fun e => hn (by
   have : ((v : Nat) : Int) = n := by have := ht.1.1; omega
   rw [this]; exact ht)
  exact ga (hu v hv hn) (lK ht.1.1 ht.1.2 (hcells n ht.1.1 ht.1.2) hne _ _)
 have N : NI (gy p.width.toNat p.vars) p.width p.vars low see (Iq p) (tj p s1) (tj p s2) := {
  hlow := hlow
  l16 := fun x hx h => by
   have h2 := FJ (bC hx mb) hlow h;have h3 := zw mb hx;rw [jA] at h3;omega
  len := H.hd.len
  cells := hcells
  see := hsee
  val := fun lv e he hll hB hle t1 t2 hagr => by
   rw [<- H.w] at he;unfold ks at he;simp only [Bool.and_eq_true] at he;exact sM hcells e he.2 fun v hv hr => hagr v hv (a8 (aJ hB v) (fa hB e) hlow (ED hB e hr) hle)
  I1 := hI s1
  I2 := hI s2 }
 have hun : ∀ s0, tj p s0 s0 := fun s0 v _ _ => lj _ _ _
 have := H5 N p.body 0 (bV hP) (dE _ (bV hP)) (Ij hP) (cq p) (eR hP hS) cm hpl r1 r2 (hun s1) (hun s2) ⟨hl, hag, rfl⟩;exact ⟨this.seen, this.agr⟩
theorem Bc {p : bp} (hP : iF p = true) (hS : bt p = true) {n op nn : Int} {a : List aF} {t e : List ay} {lv : List Int} {ar : Int} (hx : (n, .mk op nn a t e, lv, ar) ∈ gY p) (h3 : op = 3) : EQ nn /\ bf lv /\ cb ar := by
 have hlow : dL p.body = true := by unfold bt at hS; simp only [Bool.and_eq_true] at hS; exact hS.2
 have hv := dE _ (bV hP);refine ⟨A9 p.body 0 (bV hP) hlow _ (mR p.body (bd p) 0 0 _ hx) h3, ?_, ?_⟩
 ·exact pm (dQ p.vars p.vars.length) p.body (bd p) 0 0 hv (cq p) (eR hP hS) cm _ hx
 ·exact sN (dQ p.vars p.vars.length) p.body (bd p) 0 0 hv (cq p) (eR hP hS) cm _ hx
theorem uQ {p : bp} (hP : iF p = true) (hS : bt p = true) {low : Int} {J1 J2 : List Int -> Prop} {q : Pl} (hq : q ∈ gY p) (h : ek q = []) : Cl (gy p.width.toNat p.vars) low J1 J2 q := by
 obtain ⟨n, ⟨op, nn, a, t, e⟩, lv, ar⟩ := q;intro h3;obtain ⟨g1, g2, g3⟩ := Bc hP hS hq h3;unfold ek at h;dsimp only at h;rw [if_pos h3, jP (bC g3 (cn g2 a cm)) g1.B] at h;have b := bC g3 (cn g2 a cm);exact ⟨g1.B, a8 g3 b g1.B (iD g3 (cn g2 a cm)) h, .inl (a8 (cn g2 a cm) b g1.B (fd g3 (cn g2 a cm)) h)⟩
theorem pT {p : bp} (hP : iF p = true) (hS : bt p = true) (H : pQ p) {low : Int} (h0 : 0 <= low) (h1 : low <= 15) {see : Int -> Bool} (hsee : ∀ n, cb n -> see n = true -> eK n low) {s1 s2 : List Int} (hl : s1.length = s2.length)
  {y1 y2 : il} (r1 : iZ (gy p.width.toNat p.vars) p.vars p.body (s1, []) y1) (r2 : iZ (gy p.width.toNat p.vars) p.vars p.body (s2, []) y2) (hfl : (gY p).flatMap ek = []) (hpre : aY p.width.toNat p.vars [s1, s2] (bx p.vars low (bd p)) ≠ 0) :
  fR see y1.2 = fR see y2.2 /\ aY p.width.toNat p.vars [y1.1, y2.1] (bx p.vars low (kI p)) ≠ 0 := by
 have hlow : cb low := by unfold cb; omega
 have hlast : bf (kI p) := (cK (dQ p.vars p.vars.length) p.body (bd p) 0 (cq p) (eR hP hS) cm (dE _ (bV hP))).2;obtain ⟨g1, g2⟩ := yh hP hS H h0 h1 hsee hl r1 r2 (fun q hq => uQ hP hS hq (List.flatMap_eq_nil_iff.1 hfl q hq)) (fun v hv hle => (lP H.hd s1 s2 low (bd p)).2.1 hpre v hv ((dF (aJ (eR hP hS) v) hlow).2 hle));exact ⟨g1, (lP H.hd y1.1 y2.1 low (kI p)).2.2 fun v hv hw => g2 v hv ((dF (aJ hlast v) hlow).1 hw)⟩
theorem yi {p : bp} (hP : iF p = true) (hS : bt p = true) (H : pQ p) {low : Int} (h0 : 0 <= low) (h1 : low <= 15) {see : Int -> Bool} (hsee : ∀ n, cb n -> see n = true -> eK n low) {s1 s2 : List Int} (hl : s1.length = s2.length)
  {y1 y2 : il} (r1 : iZ (gy p.width.toNat p.vars) p.vars p.body (s1, []) y1) (r2 : iZ (gy p.width.toNat p.vars) p.vars p.body (s2, []) y2) (hfl : eE (bd p) p.body 0 0 = []) (hpre : aY p.width.toNat p.vars [s1, s2] (bx p.vars low (bd p)) ≠ 0) :
  fR see y1.2 = fR see y2.2 /\ aY p.width.toNat p.vars [y1.1, y2.1] (bx p.vars low (bd p)) ≠ 0 := by
 have hlow : cb low := by unfold cb; omega
 have hlB := eR hP hS;have hlast : bf (kI p) := (cK (dQ p.vars p.vars.length) p.body (bd p) 0 (cq p) hlB cm (dE _ (bV hP))).2;obtain ⟨m1, m2⟩ := zW hP hS hfl;obtain ⟨g1, g2⟩ := pT hP hS H h0 h1 hsee hl r1 r2 m2 hpre;refine ⟨g1, (lP H.hd y1.1 y2.1 low (bd p)).2.2 fun v hv hw => (lP H.hd y1.1 y2.1 low (kI p)).2.1 g2 v hv ?_⟩
 rw [dF (aJ hlast v) hlow];exact a8 (aJ hlast v) (aJ hlB v) hlow (m1.2 v) ((dF (aJ hlB v) hlow).1 hw)
theorem sO {p : bp} (hP : iF p = true) (hS : bt p = true) (hN : bu p.body <= 600) (H : pQ p) {low : Int} (h0 : 0 <= low) (h1 : low <= 15) {see : Int -> Bool} (hsee : ∀ n, cb n -> see n = true -> eK n low) {s1 s2 : List Int} (hl : s1.length = s2.length)
  {y1 y2 : il} (r1 : iZ (gy p.width.toNat p.vars) p.vars p.body (s1, []) y1) (r2 : iZ (gy p.width.toNat p.vars) p.vars p.body (s2, []) y2) {at_ : List Int} (hA : jU p at_ = true) (hx : (gH p low at_).1 = true) (hpre : aY p.width.toNat p.vars [s1, s2] (gz p.vars low (bd p) (gH p low at_).2) ≠ 0) :
  fR see y1.2 = fR see y2.2 /\ aY p.width.toNat p.vars [y1.1, y2.1] (bx p.vars low (cO p)) ≠ 0 := by
 have hlow : cb low := by unfold cb; omega
 have hlB := eR hP hS;have hlast : bf (kI p) := (cK (dQ p.vars p.vars.length) p.body (bd p) 0 (cq p) hlB cm (dE _ (bV hP))).2;obtain ⟨fl, hfl⟩ := pd (gY p);rw [A1 low hP hS hN hA hfl] at hx hpre;dsimp only at hx hpre;rw [Ey at_ hfl, Bool.and_eq_true, List.all_eq_true, List.all_eq_true] at hx;obtain ⟨hx1, hx2⟩ := hx;have hcells : ∀ n : Int, 0 <= n -> n < p.vars.length -> 1 <= aI p.vars n := fun n n0 n1 => (H.hd.at n0 n1).1
 have hrel : ∀ {n op nn : Int} {a : List aF} {t e : List ay} {lv : List Int} {ar : Int}, (n, ay.mk op nn a t e, lv, ar) ∈ gY p -> jk at_ n = true -> aW nn low = true -> ∃ a0, a = [a0] /\ df p.width.toNat p.vars 1 a0 = true /\ Er a0 ∈ (gY p).flatMap (ER low at_) := fun {n op nn a t e lv ar} hm hi hw => by
  have h3 := EB hN hA hm hi;obtain ⟨a0, e1, e2⟩ := A0 hP hm h3;have e1' : a = [a0] := e1;subst e1';refine ⟨a0, rfl, by rw [H.w]; exact e2, List.mem_flatMap.2 ⟨_, hm, ?_⟩⟩
  show Er a0 ∈ if jk at_ n = true then (if aW nn low = true then [Er (wd [a0])] else []) else []
  rw [if_pos hi, if_pos hw];exact List.mem_cons_self ..
 have hval : ∀ (a0 : aF) (z1 z2 : List Int), aY p.width.toNat p.vars [z1, z2] (Er a0) = fe (aY p.width.toNat p.vars [z1, z2] (vX 0 a0) == aY p.width.toNat p.vars [z1, z2] (vX 1 a0)) := fun a0 z1 z2 => EE z1 z2 _ _ _ _
 have hB01 : ∀ x, x ∈ (gY p).flatMap (ER low at_) -> A5 (aY p.width.toNat p.vars [s1, s2] x) := fun x hx => by
  obtain ⟨q, _, hq⟩ := List.mem_flatMap.1 hx;unfold ER at hq
  split at hq
  ·split at hq
   ·rw [List.mem_singleton] at hq
    subst hq;rw [hval]; exact A6 _
   ·cases hq
  ·cases hq
 obtain ⟨hp1, hp2⟩ := Ht H.hd s1 s2 low (bd p) _ hB01 hpre;have hgood : Ba p low (tj p s1) (tj p s2) := fun q hq => by
  have hf := hx1 q hq;have hr := hx2 q hq;obtain ⟨n, ⟨op, nn, a, t, e⟩, lv, ar⟩ := q
  by_cases hi : jk at_ n = true
  ·intro h3
   obtain ⟨g1, g2, g3⟩ := Bc hP hS hq h3;have hr' : (!jk at_ n || (aW ar nn && !eM p (wd a))) = true := hr;rw [hi] at hr';simp only [Bool.not_true, Bool.false_or, Bool.and_eq_true, Bool.not_eq_true'] at hr';refine ⟨g1.B, (dF g3 g1.B).1 hr'.1, .inr fun hle t1 t2 j1 j2 => ?_⟩
   obtain ⟨a0, rfl, e2, e3⟩ := hrel hq hi ((dF g1.B hlow).2 hle);have hne := hp2 _ e3;rw [hval, A7, beq_iff_eq, v5 (s := s1) rfl a0 e2, v5 (s := s2) rfl a0 e2] at hne;have hun : ∀ {s0 t0 : List Int}, tj p s0 t0 -> aY p.width.toNat p.vars [s0] a0 = aY p.width.toNat p.vars [t0] a0 := fun {s0 t0} hu => sM hcells a0 e2 fun v hv hrv => hu v hv fun ht => by
    obtain ⟨_, y, hy, ho, hn⟩ := ht;have hch : eM p a0 = true := by
     unfold eM;rw [List.any_eq_true];refine ⟨y, hy, ?_⟩;obtain ⟨m, ⟨o2, n2, a2, b2, c2⟩⟩ := y;have hn' : n2 = v := hn;subst hn';show ((o2 == 0 || o2 == 4) && yu _ a0) = true;have ho' : o2 = 0 \/ o2 = 4 := ho;rw [hrv];simp [ho']
    have : eM p a0 = false := hr'.2;rw [hch] at this;cases this
   show gy p.width.toNat p.vars t1 a0 = gy p.width.toNat p.vars t2 a0;unfold gy;rw [<- hun j1, <- hun j2, hne]
  ·refine uQ hP hS hq ?_
   have hf' : (if op = 3 then aW (be ar (bz lv 0 a)) nn || jk at_ n else true) = true := hf;unfold ek;dsimp only
   by_cases h3 : op = 3
   ·rw [if_pos h3] at hf' ⊢
    rw [show jk at_ n = false by simpa using hi, Bool.or_false] at hf'
    unfold ep;rw [if_pos hf']
   ·rw [if_neg h3]
 obtain ⟨g1, g2⟩ := yh hP hS H h0 h1 hsee hl r1 r2 hgood (fun v hv hle => hp1 v hv ((dF (aJ hlB v) hlow).2 hle));rw [AZ hP hS];exact ⟨g1, (lP H.hd y1.1 y2.1 low (kI p)).2.2 fun v hv hw => g2 v hv ((dF (aJ hlast v) hlow).1 hw)⟩
def ouS (h : aj) (l : List Int) (v : AV) (i : Int) (_ : Unit) : St :=
 {env := [(1, .v (.vs 1 (ag l))), (5, .v v), (6, .v (.int .i64 i))], loc := [], heap := h, inRound := false, lo := h.length }
def gA (l : List Int) (i : Nat) : Option Int := if i = 0 then none else l[i - 1]?
theorem EG (p : bp) (l : List Int) (k : Nat) (hk : bA p.body + l.length + 40 <= k) (hl : l.length < 9223372036854775808) (hN : bu p.body <= 600) (hb : lB p) (h : aj) (lo : Nat) : call Tryz.prog ba (k + 1) lo (.func 9) [.agg (bY p), .vs 1 (ag l)] h = some (.bool (jU p l), h) := by
 have hE := Cr p (k - 1) (by omega) hN hb h h.length;rw [show k - 1 + 1 = k by omega] at hE
 have hlen := kC p.body 0;unfold jU;have hL : every p = i7 p.body 0 := rfl;generalize every p = L at hE hL ⊢;rw [<- hL] at hlen;obtain ⟨w, vs, body⟩ := p;dsimp only at hlen hN hk;have hv : ∃ V, bg 6 (L.map bF) = V /\ ((L = [] /\ V = .nils) \/ V = .vs 6 (L.map bF)) := by
  cases L with
  | nil => exact ⟨_, rfl, .inl ⟨rfl, rfl⟩⟩
  | cons x L => exact ⟨_, rfl, .inr rfl⟩
 obtain ⟨V, hV, hVc⟩ := hv;rw [hV] at hE;have hVc' : V = .nils \/ V = .vs 6 (L.map bF) := by rcases hVc with ⟨_, h⟩ | h <;> simp [h]
 rcases hVc with ⟨hL0, rfl⟩ | rfl
 ·subst hL0
  apply ai Tryz.func9 U (Nb U) U U;(repeat' (first | apply ab | refine Wr 0 U U ?_ | (refine Wo 1 U ?_;refine Tc 1 U (Tg U (aa U U U U ‹_›) ?_) <;> refine Tc 1 U (Tn ?_)) | refine Wr 2 U U ?_ | apply ae));apply cg (S := ouS h l .nils) (l := l) (a0 := ()) (fun rest _ => rest = l) (by omega) (by omega) rfl rfl
  ·intro i x rest a hi hd hil hJ
   have hrow := fG hi;have hlt := nJ hil;have hz : fH [] none (x :: rest) = false := by
    rw [fH];unfold kO
    by_cases h0 : x < 0
    ·simp [h0]
    ·have h1 : x >= (0 : Int) := by omega
     simp [h1]
   rw [hJ] at hz;rw [hz];cases c1 : decide (x < 0) with
   | true =>
    (repeat' (first | apply ab | refine ah U U ?_ | (refine Wo 3 U ?_;refine Tc 3 U (Tt U U ‹_› (Tn ?_))) | (refine Wd 5 [0,0,3,7,15,31,63,63,255,511,63,1087,4095,8191,16383,32767,32767,32767,229375,491519,1048575,2097151,4194303,8388607,16777215,33554431,67108863,134217727,268435455,536870911,1073741823,1073741823,4294967295,8589934591,1073741823,1073741823,35433480191,121332826111,258771779583,549755813887,1099511627775,2199023255551] U U (by decide +kernel) ?_;refine Uf U U U (Uf U U U (Uo U (aq U U U U U ‹_›) ?_)) <;> refine Uo U U (Ut U U ‹_› (Uo U U (Uk U (Uk U (Uk U (Uk U (Uk U (Uk U (Uk U (Uo U U (Uo U U (Uk U (Uk U (Uk U (Uk U (Uk U (Uk U (Uk U (Uk U (Uk U (Uk U (Uo U U (Uo U U (Uk U (Uk U (Uk U (Uk U (Uk U (Uk U (Uk U (Uk U (Uk U (Uk U (Uk U (Uk U (Uk U (Uk U (Uo U U (Un ?_)))))))))))))))))))))))))))))))))))))))) | refine Wr 6 U U ?_ | apply ak | apply ae | apply am));exact ⟨.inl rfl, rfl⟩
   | false =>
    have c2 : decide (x >= (0 : Int)) = true := by
     have := of_decide_eq_false c1;exact decide_eq_true (by omega)
    (repeat' (first | apply ab | refine ah U U ?_ | (refine Wo 3 U ?_;refine Tc 3 U (Tt U U ‹_› (Tn ?_))) | (refine Wd 5 [0,0,3,7,15,31,63,63,255,511,63,1087,4095,8191,16383,32767,32767,32767,229375,491519,1048575,2097151,4194303,8388607,16777215,33554431,67108863,134217727,268435455,536870911,1073741823,1073741823,4294967295,8589934591,1073741823,1073741823,35433480191,121332826111,258771779583,549755813887,1099511627775,2199023255551] U U (by decide +kernel) ?_;refine Uf U U U (Uf U U U (Uo U (aq U U U U U ‹_›) ?_)) <;> refine Uo U U (Uu U U ‹_› (Uo U U (Uf U U U (Uf U U U (Uf U (aq U U U U U ‹_›) U ?_))))) <;> refine Uf U U U (Uf U U U (Uf U U U (Ut U U ‹_› (Uo U U (Uo U U (Uk U (Uk U (Uk U (Uk U (Uk U (Uk U (Uk U (Uk U (Uk U (Uk U (Uo U U (Uo U U (Uk U (Uk U (Uk U (Uk U (Uk U (Uk U (Uk U (Uk U (Uk U (Uk U (Uk U (Uk U (Uk U (Uk U (Uo U U (Un ?_)))))))))))))))))))))))))))))))))) | refine Wr 6 U U ?_ | apply ak | apply ae | apply am));exact ⟨.inl rfl, rfl⟩
  ·intro a hJ
   have hlt := nK (l := l);subst hJ;(repeat' (first | apply ab | refine af U U ?_ | (refine Wo 3 U ?_;refine Tc 3 U (Tf U U U (Tn ?_))) | refine Wr 7 U U ?_ | apply am | apply aC));exact ⟨.inl rfl, rfl⟩
 ·apply ai Tryz.func9 U (Nb U) U U
  (repeat' (first | apply ab | refine Wr 0 U U ?_ | (refine Wo 1 U ?_;refine Tc 1 U (Tg U (aa U U U U ‹_›) ?_) <;> refine Tc 1 U (Tn ?_)) | refine Wr 2 U U ?_ | apply ae));apply aS (S := ouS h l (.vs 6 (L.map bF))) (l := l) (a0 := ()) (fun i rest _ => fH L (gA l i) rest = fH L none l) (by omega) (by omega) rfl rfl
  ·intro i x rest a hi hd hil hJ
   have hrow := fG hi;have hlt := nJ hil;have hst : fH L (gA l i) (x :: rest) = (kO L x && (match gA l i with | none => true | some y => !decide (x <= y)) && fH L (some x) rest) := rfl;rw [hst] at hJ;have hnext : gA l (i + 1) = some x := by unfold gA; rw [if_neg (by omega), Nat.add_sub_cancel]; exact hi
   have hcL : ((L.map bF).length : Int) = (L.length : Int) := by rw [List.length_map]
   cases c1 : decide (x < 0) with
   | true =>
    have hz : kO L x = false := by unfold kO; rw [c1]; rfl
    rw [hz] at hJ;(repeat' (first | apply ab | refine ah U U ?_ | (refine Wo 3 U ?_;refine Tc 3 U (Tt U U ‹_› (Tn ?_))) | (refine Wd 5 [0,0,3,7,15,31,63,63,255,511,63,1087,4095,8191,16383,32767,32767,32767,229375,491519,1048575,2097151,4194303,8388607,16777215,33554431,67108863,134217727,268435455,536870911,1073741823,1073741823,4294967295,8589934591,1073741823,1073741823,35433480191,121332826111,258771779583,549755813887,1099511627775,2199023255551] U U (by decide +kernel) ?_;refine Uf U U U (Uf U U U (Uo U (aq U U U U U ‹_›) ?_)) <;> refine Uo U U (Ut U U ‹_› (Uo U U (Uk U (Uk U (Uk U (Uk U (Uk U (Uk U (Uk U (Uo U U (Uo U U (Uk U (Uk U (Uk U (Uk U (Uk U (Uk U (Uk U (Uk U (Uk U (Uk U (Uo U U (Uo U U (Uk U (Uk U (Uk U (Uk U (Uk U (Uk U (Uk U (Uk U (Uk U (Uk U (Uk U (Uk U (Uk U (Uk U (Uo U U (Un ?_)))))))))))))))))))))))))))))))))))))))) | refine Wr 6 U U ?_ | apply ak | apply ae | apply am))
    exact ⟨.inl rfl, Eq.trans (b := some (AV.bool _, _)) rfl (by rw [<- hJ]; rfl)⟩
   | false =>
    cases c2 : decide (x >= (L.length : Int)) with
    | true =>
     have hz : kO L x = false := by unfold kO; rw [c1, c2]; rfl
     rw [hz] at hJ;have c2' : decide (x >= ((L.map bF).length : Int)) = true := by rw [hcL]; exact c2
     (repeat' (first | apply ab | refine ah U U ?_ | (refine Wo 3 U ?_;refine Tc 3 U (Tt U U ‹_› (Tn ?_))) | (refine Wd 5 [0,0,3,7,15,31,63,63,255,511,63,1087,4095,8191,16383,32767,32767,32767,229375,491519,1048575,2097151,4194303,8388607,16777215,33554431,67108863,134217727,268435455,536870911,1073741823,1073741823,4294967295,8589934591,1073741823,1073741823,35433480191,121332826111,258771779583,549755813887,1099511627775,2199023255551] U U (by decide +kernel) ?_;refine Uf U U U (Uf U U U (Uo U (aq U U U U U ‹_›) ?_)) <;> refine Uo U U (Uu U U ‹_› (Uo U U (Uf U U U (Uf U U U (Uf U (aq U U U U U ‹_›) U ?_))))) <;> refine Uf U U U (Uf U U U (Uf U U U (Ut U U ‹_› (Uo U U (Uo U U (Uk U (Uk U (Uk U (Uk U (Uk U (Uk U (Uk U (Uk U (Uk U (Uk U (Uo U U (Uo U U (Uk U (Uk U (Uk U (Uk U (Uk U (Uk U (Uk U (Uk U (Uk U (Uk U (Uk U (Uk U (Uk U (Uk U (Uo U U (Un ?_)))))))))))))))))))))))))))))))))) | refine Wr 6 U U ?_ | apply ak | apply ae | apply am));exact ⟨.inl rfl, Eq.trans (b := some (AV.bool _, _)) rfl (by rw [<- hJ]; rfl)⟩
    | false =>
     have c2' : decide (x >= ((L.map bF).length : Int)) = false := by rw [hcL]; exact c2
     have x0 : 0 <= x := by have := of_decide_eq_false c1; omega
     have x1 : x.toNat < L.length := by have := of_decide_eq_false c2; omega
     obtain ⟨y, hy⟩ : ∃ y, L[x.toNat]? = some y := ⟨_, List.getElem?_eq_getElem x1⟩;obtain ⟨m, ⟨op, nn, ar, t, el⟩⟩ := y;have hrow2 : 0 <= x /\ (L.map bF)[x.toNat]? = some (bF (m, .mk op nn ar t el)) := ⟨x0, by rw [List.getElem?_map, hy]; rfl⟩
     have hz : kO L x = !(op != 3) := by unfold kO; rw [c1, c2, hy]; rfl
     rw [hz] at hJ;cases c3 : (op != 3) with
     | true =>
      rw [c3] at hJ;(repeat' (first | apply ab | refine ah U U ?_ | (refine Wo 3 U ?_;refine Tc 3 U (Tt U U ‹_› (Tn ?_))) | (refine Wd 5 [0,0,3,7,15,31,63,63,255,511,63,1087,4095,8191,16383,32767,32767,32767,229375,491519,1048575,2097151,4194303,8388607,16777215,33554431,67108863,134217727,268435455,536870911,1073741823,1073741823,4294967295,8589934591,1073741823,1073741823,35433480191,121332826111,258771779583,549755813887,1099511627775,2199023255551] U U (by decide +kernel) ?_;refine Uf U U U (Uf U U U (Uo U (aq U U U U U ‹_›) ?_)) <;> refine Uo U U (Uu U U ‹_› (Uo U U (Uf U U U (Uf U U U (Uf U (aq U U U U U ‹_›) U ?_))))) <;> refine Uf U U U (Uf U U U (Uf U U U (Uu U U ‹_› (Uo U U (Uo U U (Uf U U U (Uf U U U (Uf U U U (Uf U (aq U U U U U ‹_›) U ?_))))))))) <;> refine Uf U U U (Uo U (bq U U U U U ‹_›) ?_) <;> refine Uo U U (Uo U U (Uo U U (Ut U U ‹_› (Uo U U (Uo U U (Uk U (Uk U (Uk U (Uk U (Uk U (Uk U (Uk U (Uk U (Uk U (Uk U (Uk U (Uk U (Uk U (Uk U (Uo U U (Un ?_)))))))))))))))))))))) | refine Wr 6 U U ?_ | apply ak | apply ae | apply am))
      exact ⟨.inl rfl, Eq.trans (b := some (AV.bool _, _)) rfl (by rw [<- hJ]; rfl)⟩
     | false =>
      rw [c3] at hJ;cases i with
      | zero =>
       have hp : gA l 0 = none := rfl;rw [hp] at hJ;(repeat' (first | apply ab | refine ah U U ?_ | refine af U U ?_ | (refine Wo 3 U ?_;refine Tc 3 U (Tt U U ‹_› (Tn ?_))) | refine Wr 4 U U ?_ | (refine Wd 5 [0,0,3,7,15,31,63,63,255,511,63,1087,4095,8191,16383,32767,32767,32767,229375,491519,1048575,2097151,4194303,8388607,16777215,33554431,67108863,134217727,268435455,536870911,1073741823,1073741823,4294967295,8589934591,1073741823,1073741823,35433480191,121332826111,258771779583,549755813887,1099511627775,2199023255551] U U (by decide +kernel) ?_;refine Uf U U U (Uf U U U (Uo U (aq U U U U U ‹_›) ?_)) <;> refine Uo U U (Uu U U ‹_› (Uo U U (Uf U U U (Uf U U U (Uf U (aq U U U U U ‹_›) U ?_))))) <;> refine Uf U U U (Uf U U U (Uf U U U (Uu U U ‹_› (Uo U U (Uo U U (Uf U U U (Uf U U U (Uf U U U (Uf U (aq U U U U U ‹_›) U ?_))))))))) <;> refine Uf U U U (Uo U (bq U U U U U ‹_›) ?_) <;> refine Uo U U (Uo U U (Uo U U (Uu U U ‹_› (Uo U U (Uo U U (Uo U U (Uu U U U (Uo U U (Uk U (Uk U (Uk U (Uk U (Uk U (Uk U (Uk U (Uk U (Uk U (Uk U (Uo U U (Uo U U (Un ?_)))))))))))))))))))))) | apply ak | apply ae))
       exact ⟨(), rfl, by rw [hnext]; simpa using hJ⟩
      | succ i =>
       obtain ⟨z, hz⟩ : ∃ z, l[i]? = some z := ⟨_, List.getElem?_eq_getElem (show i < l.length by omega)⟩;have hp : gA l (i + 1) = some z := by unfold gA; rw [if_neg (by omega), Nat.add_sub_cancel]; exact hz
       rw [hp] at hJ;dsimp only at hJ;have hw : IntKind.i64.wrap (((i + 1 : Nat) : Int) - 1) = (i : Int) := by rw [wrap_i64 (by omega) (by omega)]; omega
       have hrow3 : 0 <= IntKind.i64.wrap (((i + 1 : Nat) : Int) - 1) /\ (ag l)[(IntKind.i64.wrap (((i + 1 : Nat) : Int) - 1)).toNat]? = some [.int .i64 z] := by
        rw [hw]; exact ⟨by omega, by simpa using fG hz⟩
       have ci : decide (((i + 1 : Nat) : Int) > 0) = true := decide_eq_true (by omega);cases c5 : decide (x <= z) with
       | true =>
        rw [c5] at hJ;(repeat' (first | apply ab | refine ah U U ?_ | (refine Wo 3 U ?_;refine Tc 3 U (Tt U U ‹_› (Tn ?_))) | (refine Wd 5 [0,0,3,7,15,31,63,63,255,511,63,1087,4095,8191,16383,32767,32767,32767,229375,491519,1048575,2097151,4194303,8388607,16777215,33554431,67108863,134217727,268435455,536870911,1073741823,1073741823,4294967295,8589934591,1073741823,1073741823,35433480191,121332826111,258771779583,549755813887,1099511627775,2199023255551] U U (by decide +kernel) ?_;refine Uf U U U (Uf U U U (Uo U (aq U U U U U ‹_›) ?_)) <;> refine Uo U U (Uu U U ‹_› (Uo U U (Uf U U U (Uf U U U (Uf U (aq U U U U U ‹_›) U ?_))))) <;> refine Uf U U U (Uf U U U (Uf U U U (Uu U U ‹_› (Uo U U (Uo U U (Uf U U U (Uf U U U (Uf U U U (Uf U (aq U U U U U ‹_›) U ?_))))))))) <;> refine Uf U U U (Uo U (bq U U U U U ‹_›) ?_) <;> refine Uo U U (Uo U U (Uo U U (Uu U U ‹_› (Uo U U (Uo U U (Uo U U (Ut U U ‹_› (Uo U U (Uf U U U (Uf U U U (Uf U (aq U U U U U ‹_›) U ?_))))))))))) <;> refine Uf U U U (Uf U U U (Uf U U U (Uf U U U (Uf U (bq U U U U U ‹_›) U ?_)))) <;> refine Uf U U U (Ut U U ‹_› (Uo U U (Uo U U (Un ?_))))) | refine Wr 6 U U ?_ | apply ak | apply ae | apply am))
        exact ⟨.inl rfl, Eq.trans (b := some (AV.bool _, _)) rfl (by rw [<- hJ]; rfl)⟩
       | false =>
        rw [c5] at hJ;(repeat' (first | apply ab | refine ah U U ?_ | refine af U U ?_ | (refine Wo 3 U ?_;refine Tc 3 U (Tt U U ‹_› (Tn ?_))) | refine Wr 4 U U ?_ | (refine Wd 5 [0,0,3,7,15,31,63,63,255,511,63,1087,4095,8191,16383,32767,32767,32767,229375,491519,1048575,2097151,4194303,8388607,16777215,33554431,67108863,134217727,268435455,536870911,1073741823,1073741823,4294967295,8589934591,1073741823,1073741823,35433480191,121332826111,258771779583,549755813887,1099511627775,2199023255551] U U (by decide +kernel) ?_;refine Uf U U U (Uf U U U (Uo U (aq U U U U U ‹_›) ?_)) <;> refine Uo U U (Uu U U ‹_› (Uo U U (Uf U U U (Uf U U U (Uf U (aq U U U U U ‹_›) U ?_))))) <;> refine Uf U U U (Uf U U U (Uf U U U (Uu U U ‹_› (Uo U U (Uo U U (Uf U U U (Uf U U U (Uf U U U (Uf U (aq U U U U U ‹_›) U ?_))))))))) <;> refine Uf U U U (Uo U (bq U U U U U ‹_›) ?_) <;> refine Uo U U (Uo U U (Uo U U (Uu U U ‹_› (Uo U U (Uo U U (Uo U U (Ut U U ‹_› (Uo U U (Uf U U U (Uf U U U (Uf U (aq U U U U U ‹_›) U ?_))))))))))) <;> refine Uf U U U (Uf U U U (Uf U U U (Uf U U U (Uf U (bq U U U U U ‹_›) U ?_)))) <;> refine Uf U U U (Uu U U ‹_› (Uo U U (Uo U U (Un ?_))))) | apply ak | apply ae))
        exact ⟨(), rfl, by rw [hnext]; simpa using hJ⟩
  ·intro a hJ
   have hlt := nK (l := l);(repeat' (first | apply ab | refine af U U ?_ | (refine Wo 3 U ?_;refine Tc 3 U (Tf U U ‹_› (Tn ?_))) | refine Wr 7 U U ?_ | apply am | apply aC));exact ⟨.inl rfl, Eq.trans (b := some (AV.bool _, _)) rfl (by rw [<- hJ]; rfl)⟩
end Go.Proofs.YtelobnllkhnpaaaGreat.L
