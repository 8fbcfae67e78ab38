/- Releases: level.Released, walked. -/
import Derived.Test.YtelobnllkhnpaaaGreatK8
import Derived.ChangeShapes
set_option linter.unusedVariables false
set_option linter.unusedSimpArgs false
set_option maxHeartbeats 40000000
set_option maxRecDepth 1000000
open Go Go.Proofs Go.Ev Go.Proofs.YtelobnllkhnpaaaGreat.E
namespace Go.Proofs.YtelobnllkhnpaaaGreat.L
theorem v8 : kX Tryz.prog = true /\ Tryz.prog.follows .mixedOrders = true /\ ∀ t, t ∈ ba.eqs -> uU Tryz.prog t := by
 have := sound.ok;unfold wC at this;simp only [Bool.and_eq_true] at this;exact ⟨this.1.1, this.1.2, fun t ht => wB (List.all_eq_true.1 this.2 t ht)⟩
theorem hypF (k : Nat) : qb Tryz.prog Ep (call Tryz.prog ba k) := ⟨sound.tab, v8.2.2, sound.all k⟩
abbrev CA (l : List Int) : ap := .cells 26 [.vs 1 (ag l)]
abbrev Ik (x : AV) : ap := .cells 76 [x]
def Il : List AV := [.int .i64 0, .int .i64 0, .int .i64 0, .int .i64 0, .nils, .int .i64 0, .int .i64 0, .int .i64 0, .nils, .int .i64 0, .int .i64 0]
def EH (h : aj) (p : bp) (low : Int) (at_ : List Int) (n : Int) : St :=
 {env := [(3, .p 3 0), (4, .v (.hp h.length 1 0)), (5, .v (.hp (h ++ [CN low]).length 1 0)), (6, .p 6 0), (35, .v (.vs 1 (ag at_))), (36, .v (.int .i64 (ag at_).length)), (37, .v (.int .i64 n))],
  loc := [(3, bY p), (6, Il)], heap := h ++ [CN low] ++ [CA at_], inRound := false, lo := h.length }
abbrev H2 (h : aj) (low : Int) (at_ : List Int) : aj := h ++ [CN low] ++ [CA at_]
abbrev v9 (h : aj) (low : Int) (at_ : List Int) : aj := ((H2 h low at_ ++ [ap.map []]) ++ [Ik .nilm]).set (H2 h low at_ ++ [ap.map []]).length (Ik (.mp (H2 h low at_).length))
theorem yj : ∀ (xs : List aF) (e : aF), xs.length + cM e <= cM (xs.foldl cG e)
 | [], e => by simp
 | x :: xs, e => by
  have := yj xs (cG e x);rw [List.foldl_cons, List.length_cons];have h2 : cM e + 1 <= cM (cG e x) := by simp only [cG, cM, cQ]; omega
  omega
theorem yk (vs : List bk) (low : Int) (l : List Int) (xs : List aF) : xs.length <= cM (gz vs low l xs) := by
 have := yj xs (bx vs low l);unfold gz;omega
theorem yl (p : bp) (low : Int) (at_ : List Int) (hP : iF p = true) (hS : bt p = true) (hN : bu p.body <= 600) (hsk : bA p.body <= 6100) (hb : lB p) (hl1 : decide (low < 0) = false) (hl2 : decide (low > 15) = false) (hal : at_.length < 9223372036854775808)
  (hats : gd p none at_ = true -> at_.length <= 1000) (hatB : ∀ x s, AT p x = some s -> 0 <= x /\ x < 600) (hX1 : gd p none at_ = true -> cM (gz p.vars low (bd p) (gH p low at_).2) <= 50000) (hX2 : gd p none at_ = true -> dP (gz p.vars low (bd p) (gH p low at_).2))
  (hX3 : cM (bx p.vars low (cO p)) <= 2000) (hX4 : dP (bx p.vars low (cO p))) (hvc : ∀ v, v ∈ p.vars -> 1 <= v.cells /\ v.cells <= 8) (hX5 : cM (bx p.vars low (bd p)) <= 2000) (h : aj) (lo : Nat) :
  lC Tryz.prog lo 7 [.agg (bY p), .int .i64 low, .vs 1 (ag at_)] h (z9 p low at_) h := by
 have hH := hypF 60000;have hD := pJ v8.2.1 hH;have hF := gR hH;obtain ⟨_, hv1, hv2⟩ := fC hP;have hvm := dE _ (bV hP);have hB := eR hP hS;have hf : cx p = 0 := by unfold cx; rw [hP, hS]; rfl
 have hchk := oQ p hN;rw [hf] at hchk;have hok : sT p = true := by
  unfold s9 at hchk;cases hh : sT p with
  | true => rfl
  | false => rw [hh] at hchk; simp at hchk
 have hC := eg p 59999 (by omega) hb (H2 h low at_) h.length;rw [hchk] at hC;have hAt := fun x => Hm p x hok (by omega) 59999 (by omega) (by omega) hb (H2 h low at_) h.length
 have hr : z9 p low at_ = if gd p none at_ = true then F9 p low at_ else .tup [.agg zC, .bool false, .int .i64 1] := rfl
 have hloA : h.length <= (h ++ [CN low]).length := by simp
 have gC4 : (H2 h low at_)[h.length]? = some (CN low) := by simp [H2]
 have gC5 : (H2 h low at_)[(h ++ [CN low]).length]? = some (CA at_) := by simp [H2]
 have rest : gd p none at_ = true -> ∀ (n : Int), fZ Tryz.prog Tryz.f7.ntmps
   (match Tryz.f7.body with
    | some (.seq _ (.seq _ (.seq _ (.seq _ y)))) => y
    | _ => .skip) { EH h p low at_ n with env := (38, .v (.bool false)) :: (EH h p low at_ n).env } (fun e s1 => (e = .ret \/ e = .normal) /\ iw Ep Tryz.f7 7 h s1 = some (z9 p low at_, h)) := by
  intro hall n;rw [if_pos hall] at hr;have hatl := hats hall;have hx1 := hX1 hall;have hx2 := hX2 hall;have hlast : (cO p).length = p.vars.length := (cK (vK p.vars.length) p.body (bd p) 0 (cq p) hB cm hvm).1;have hlevl := cq p;have hne := vE (p := p) hv1;have hL := fun H L => mE p 59999 (by omega) (by omega) H L
  rw [vD hne] at hL;have hlo13 : h.length <= (H2 h low at_ ++ [ap.map []]).length := by first | (simp [H2]; done) | (simp [H2]; omega)
  have g13 : ((H2 h low at_ ++ [ap.map []]) ++ [Ik .nilm])[(H2 h low at_ ++ [ap.map []]).length]? = some (Ik .nilm) := by simp
  have hl13 : (v9 h low at_).length = h.length + 4 := by simp [v9, H2]
  obtain ⟨tail, hT⟩ := xY p hb hok (by omega) 59999 (by omega) (by omega) (v9 h low at_) h.length (by omega);have k4 : ∀ l, ((v9 h low at_ ++ [ap.map (em (wc p))] ++ tail).set (H2 h low at_).length (.map (cZ l)))[h.length]? = some (CN low) := fun l => by
   rw [List.getElem?_set_ne (by first | (simp [H2]; done) | (simp [H2]; omega))]; simp [v9, H2, List.getElem?_append, List.getElem?_set]
  have k5 : ∀ l, ((v9 h low at_ ++ [ap.map (em (wc p))] ++ tail).set (H2 h low at_).length (.map (cZ l)))[(h ++ [CN low]).length]? = some (CA at_) := fun l => by
   rw [List.getElem?_set_ne (by simp [H2])]; simp [v9, H2, List.getElem?_append, List.getElem?_set]
  have kS : ∀ l, ((v9 h low at_ ++ [ap.map (em (wc p))] ++ tail).set (H2 h low at_).length (.map (cZ l)))[(H2 h low at_).length]? = some (.map (cZ l)) := fun l => by
   rw [List.getElem?_set_self (by simp [H2])]
  have k14 : ∀ l, ((v9 h low at_ ++ [ap.map (em (wc p))] ++ tail).set (H2 h low at_).length (.map (cZ l)))[(H2 h low at_ ++ [ap.map []]).length]? = some (Ik (.mp (H2 h low at_).length)) := fun l => by
   rw [List.getElem?_set_ne (by simp)]; simp [v9, H2, List.getElem?_append, List.getElem?_set]
  have kl : ∀ l, h.length + 4 <= ((v9 h low at_ ++ [ap.map (em (wc p))] ++ tail).set (H2 h low at_).length (.map (cZ l))).length := fun l => by rw [List.length_set, List.length_append, List.length_append, hl13]; omega
  have qM : (v9 h low at_ ++ [ap.map (em (wc p))] ++ tail)[(v9 h low at_).length]? = some (.map (np (wc p))) := by
   rw [List.getElem?_append_left (by simp), List.getElem?_append_right (Nat.le_refl _)]; simp [em, np]
  have qS : (v9 h low at_ ++ [ap.map (em (wc p))] ++ tail)[(H2 h low at_).length]? = some (.map (cZ [])) := by
   simp [v9, H2, List.getElem?_append, List.getElem?_set, cZ]
  have hXq : ∀ l, (∀ v, v ∈ l ↔ ∃ k, (k, v) ∈ wc p) -> (lI bT fg (pi low at_ l) p.body (bd p) 0 (true, []) 0).1 = gH p low at_ := fun l hl => by rw [Hn hN hl]; rfl
  have hsc := d6 p.body;have hrT : F9 p low at_ = if (gH p low at_).1 = true then .tup [.agg (yb p low (gH p low at_).2).1, .bool ((yb p low (gH p low at_).2).2 == 0), .int .i64 (yb p low (gH p low at_).2).2] else .tup [.agg zC, .bool false, .int .i64 0] := rfl
  rw [hrT] at hr;have hclD : ∀ xs, yb p low xs = pj p.width p.vars low (bd p) (cO p) xs := fun _ => rfl
  have hAllR := fun (r : ol) l (hlo : h.length <= r.L17) G (hG : h.length <= G.length) hSB => AM p (Cs r low at_ l) h.length 30010 (F8 r low at_ l p.vars.length h.length hlo hatl) 59999 (by omega) hb hv1 hv2 hvm hB (true, []) G hG r.base 0 hSB
  have hClP := fun H L => rP p.width p.vars p.body low (bd p) (cO p) 59999 (by omega) (by omega) (fun v hv => by have := hvc v hv; omega) hlevl hlast (by omega) (by omega) (xm p.vars low (bd p)).2 hX4 H L
  have hClM := fun xs jd e1 e2 e3 e4 H L => z7 p.width p.vars p.body low (bd p) (cO p) xs jd 59999 (by omega) (by omega) (fun v hv => by have := hvc v hv; omega) hlevl hlast e1 (by omega) e2 hX4 e3 e4 H L
  have hic : (ic (cO p)).length = p.vars.length := by rw [fE, hlast]
  have hch := Aa (cO p) p.vars.length hlast;have his := jz (cO p);have hmvl : fb bT fg p.body (bd p) 0 = cO p := rfl;clear hAt hC hats hX1 hX2 hatB hchk;have hl2' : (H2 h low at_).length = h.length + 2 := by simp [H2]
  have hne2 : (H2 h low at_).length ≠ (v9 h low at_).length := by rw [hl13, hl2']; omega
  have hloS : h.length <= (H2 h low at_).length := by rw [hl2']; omega
  obtain ⟨w, vs, body⟩ := p;refine fZ.then (f := 7) (fuel := 60000) hH hD hF (by decide +kernel) ?_;(repeat' (refine Wo 13 U ?_;refine Tc 2 U (Tg U (aM U U U U ‹_› ⟨by assumption, U, U, Nb U⟩) ?_) <;> refine Tn ?_));refine .inl ⟨rfl, ?_⟩;refine fZ.set (f := 7) (LV := [3, 4, 5, 6, 14]) hH rfl ⟨rfl, rfl, rfl⟩ ⟨rfl, rfl, rfl⟩ ⟨rfl, rfl, rfl⟩ ⟨rfl, rfl, rfl⟩ ⟨rfl, rfl, rfl⟩ ⟨rfl, rfl, rfl⟩ ⟨rfl, rfl, rfl⟩ ⟨rfl, rfl, rfl⟩ ⟨rfl, rfl, rfl⟩ (by decide +kernel) rfl rfl rfl rfl rfl rfl rfl (fun _ => rfl) ?_;refine aK rfl (ev rfl ?_);refine aK rfl (ev (aa rfl rfl rfl rfl hT) ?_);refine Au ⟨[(3, .p 3 0), (4, .v (.hp h.length 1 0)), (5, .v (.hp (h ++ [CN low]).length 1 0)), (6, .p 6 0), (14, .v (.hp (H2 h low at_ ++ [ap.map []]).length 1 0))], (v9 h low at_).length, (H2 h low at_).length, wc ⟨w, vs, body⟩, rfl, rfl, qM, qS, hne2, hloS, fun l => aA rfl rfl rfl (k14 l) rfl rfl, fun l hl => ?_⟩
  have hXl := hXq l hl;have k4 := k4 l;have k5 := k5 l;have kS := kS l;have k14 := k14 l;have kl := kl l;show fZ _ _ _ { env := [(3, .p 3 0), (4, .v (.hp h.length 1 0)), (5, .v (.hp (h ++ [CN low]).length 1 0)), (6, .p 6 0), (14, .v (.hp (H2 h low at_ ++ [ap.map []]).length 1 0))], loc := [(3, bY ⟨w, vs, body⟩), (6, Il)], heap := (v9 h low at_ ++ [ap.map (em (wc ⟨w, vs, body⟩))] ++ tail).set (H2 h low at_).length (.map (cZ l)), inRound := false, lo := h.length } _;generalize (v9 h low at_ ++ [ap.map (em (wc ⟨w, vs, body⟩))] ++ tail).set (H2 h low at_).length (.map (cZ l)) = G at k4 k5 kS k14 kl ⊢;refine fZ.of (f := 7) (fuel := 60000) hH hD hF (by decide +kernel) ?_;have hloG : h.length <= G.length := by omega
  have g17 : (G ++ [ap.cells 4 [.bool false]])[G.length]? = some (.cells 4 [.bool false]) := by simp
  generalize hH18 : (G ++ [ap.cells 4 [.bool false]]).set G.length (.cells 4 [.bool true]) = H18;have hl18 : H18.length = G.length + 1 := by rw [<- hH18]; simp
  have e18 : ∀ i, i < G.length -> H18[i]? = G[i]? := fun i hi => by rw [<- hH18, List.getElem?_set_ne (by omega), List.getElem?_append_left hi]
  have f17 : H18[G.length]? = some (.cells 4 [.bool true]) := by rw [<- hH18, List.getElem?_set_self (by simp)]
  have hr14 : (H2 h low at_ ++ [ap.map []]).length = h.length + 3 := by rw [List.length_append, hl2']; rfl
  have hr5 : (h ++ [CN low]).length = h.length + 1 := by simp
  let r : ol := { i4 := h.length, i5 := (h ++ [CN low]).length, iS := (H2 h low at_).length, i14 := (H2 h low at_ ++ [ap.map []]).length, L17 := G.length, L18 := H18.length, o1 := by omega, o2 := by omega, o3 := by omega, o4 := by omega, o5 := by omega }
  have e19 : ∀ i, i < H18.length -> (H18 ++ [ap.cells 29 [.nils]])[i]? = H18[i]? := fun i hi => List.getElem?_append_left hi
  have hSB : (Cs r low at_ l).B (fD body + 0) (true, []) (H18 ++ [ap.cells 29 [.nils]]) r.base := by
   refine ⟨by dsimp only; simp only [List.length_nil]; dsimp only at hsc hN; omega, ⟨?_, ?_, ?_, ?_⟩, ?_, .inl ⟨rfl, ?_, fun i => Iff.rfl⟩⟩
   ·show (H18 ++ [ap.cells 29 [.nils]])[h.length]? = _
    rw [e19 _ (by omega), e18 _ (by omega)]; exact k4
   ·show (H18 ++ [ap.cells 29 [.nils]])[(h ++ [CN low]).length]? = _
    rw [e19 _ (by omega), e18 _ (by omega)]; exact k5
   ·show (H18 ++ [ap.cells 29 [.nils]])[(H2 h low at_).length]? = _
    rw [e19 _ (by omega), e18 _ (by omega)]; exact kS
   ·show (H18 ++ [ap.cells 29 [.nils]])[(H2 h low at_ ++ [ap.map []]).length]? = _
    rw [e19 _ (by omega), e18 _ (by omega)]; exact k14
   ·show (H18 ++ [ap.cells 29 [.nils]])[G.length]? = _
    rw [e19 _ (by omega)]; exact f17
   ·show (H18 ++ [ap.cells 29 [.nils]])[H18.length]? = _
    simp
  obtain ⟨out, c1, id, O', p1, p2, p3, p4, p5, p6⟩ := hAllR r l hloG (H18 ++ [ap.cells 29 [.nils]]) (by rw [List.length_append]; omega) hSB;obtain ⟨ov, HZ⟩ := out;dsimp only at p1 p2 p3 p4 p6;subst p1;have c1' : call Tryz.prog ba 60000 h.length (.func 32) [.agg (bY ⟨w, vs, body⟩), .fn (.func 33) [.hp (h ++ [CN low]).length 1 0, .hp G.length 1 0, .hp (H2 h low at_ ++ [ap.map []]).length 1 0, .hp h.length 1 0, .hp H18.length 1 0]] (H18 ++ [ap.cells 29 [.nils]]) = some (.sl id 1 0 vs.length, HZ) := c1;have p3' : (Cs r low at_ l).B 0 (gH ⟨w, vs, body⟩ low at_) HZ O' := by rw [<- hXl]; exact p3
  obtain ⟨b1, bfx, b17, bm⟩ := p3';have z17 : HZ[G.length]? = some (.cells 4 [.bool (gH ⟨w, vs, body⟩ low at_).1]) := b17;have hidl : h.length <= id := by rw [List.length_append] at p6; omega
  have p2' : HZ[id]? = some (.cells 3 (ic (cO ⟨w, vs, body⟩))) := p2;clear c1 p3 hSB hAllR p2;cases hbl : (gH ⟨w, vs, body⟩ low at_).1 with
  | false =>
   rw [hbl] at z17 hr;rw [if_neg (by simp)] at hr;clear hXl hXq hClP hClM hL bm b17;subst hH18;(repeat' (first | apply ab | refine ah U U ?_ | (refine Wo 18 U ?_;refine Tc 1 U (Tg U (aM U U U U ‹_› ⟨by assumption, U, U, Nb U⟩) ?_) <;> refine Tn ?_) | refine Wr 19 U U ?_ | (refine Wo 20 U ?_;refine Tc 2 U (Tg U (aa U U U U ‹_›) ?_) <;> refine Tc 1 U (Tn ?_)) | (refine Wo 21 U ?_;refine Tf U (aA U U U ‹_› U U) U ?_ <;> refine Tc 1 U (Tn ?_)) | refine Wr 22 U U ?_ | apply am));exact ⟨.inl rfl, Eq.trans (b := some (.tup [.agg zC, .bool false, .int .i64 0], h)) rfl (by rw [hr])⟩
  | true =>
   rw [hbl] at z17 hr;rw [if_pos rfl] at hr;have hdl : (HZ.set id ap.dead).length = HZ.length := by simp
   have hLd := hL (HZ.set id .dead) (HZ.set id .dead).length;generalize hxs : (gH ⟨w, vs, body⟩ low at_).2 = xs at hr bm hx1 hx2 b1;have hx1' : cM (gz vs low (bd ⟨w, vs, body⟩) xs) <= 50000 := hx1;have hx2' : dP (gz vs low (bd ⟨w, vs, body⟩) xs) := hx2;have bm0 := bm;have hcl : ∃ V, (HZ.set id ap.dead)[H18.length]? = some (.cells 29 [V]) /\ call Tryz.prog ba 60000 (HZ.set id ap.dead).length (.func 40) [.agg (bY ⟨w, vs, body⟩), .int .i64 low, .vs 1 (ag (bd ⟨w, vs, body⟩)), .vs 1 (ag (cO ⟨w, vs, body⟩)), V] (HZ.set id ap.dead) =
     some (.tup [.agg (pj w vs low (bd ⟨w, vs, body⟩) (cO ⟨w, vs, body⟩) xs).1, .int .i64 (pj w vs low (bd ⟨w, vs, body⟩) (cO ⟨w, vs, body⟩) xs).2], HZ.set id ap.dead) := by
    have nb : ∀ i, O' i -> id ≠ i := fun i hi e => p5 (e ▸ hi)
    have q18 : O' H18.length := ol.more_base bm (.inr (.inr (.inr (.inr (.inr rfl)))));rcases bm with ⟨q0, q1, q2⟩ | ⟨jd, q0, q1, q2, q3, q4⟩
    ·subst q0
     exact ⟨.nils, by rw [List.getElem?_set_ne (nb _ q18)]; exact q1, hClP _ _⟩
    ·exact ⟨_, by rw [List.getElem?_set_ne (nb _ q18)]; exact q2, hClM xs jd (by show cM (gz vs low (bd ⟨w, vs, body⟩) xs) + 60 <= 59999; omega) hx2' (by have := yk vs low (bd ⟨w, vs, body⟩) xs; omega) (by have := yk vs low (bd ⟨w, vs, body⟩) xs; omega) _ _ (by rw [List.getElem?_set_ne (nb _ ((q4 jd).2 (.inr rfl)))]; exact q3)⟩
   have v0 : (HZ.set id ap.dead)[h.length]? = some (CN low) := by
    rw [List.getElem?_set_ne (fun (e : id = h.length) => p5 (by rw [e]; exact ol.more_base bm0 (.inl rfl)))]; exact bfx.1
   obtain ⟨V, v1, v2⟩ := hcl;have v20 : (HZ.set id ap.dead ++ [ap.cells 33 [.int .i64 0, .int .i64 0, .int .i64 0, .int .i64 0, .nils, .int .i64 0, .int .i64 0, .int .i64 0, .nils, .int .i64 0, .int .i64 0]])[(HZ.set id ap.dead).length]? = some (.cells 33 [.int .i64 0, .int .i64 0, .int .i64 0, .int .i64 0, .nils, .int .i64 0, .int .i64 0, .int .i64 0, .nils, .int .i64 0, .int .i64 0]) := by simp
   have v21 : h.length <= (HZ.set id ap.dead).length := by
    have : id < HZ.length := aV p2';rw [hdl]; omega
   rw [hclD] at hr;have hfc : h.length <= id /\ 0 + vs.length * 1 = (ic (cO ⟨w, vs, body⟩)).length /\ (ic (cO ⟨w, vs, body⟩)).all bh = true /\ cv 1 vs.length (ic (cO ⟨w, vs, body⟩)) = ag (cO ⟨w, vs, body⟩) := ⟨hidl, by rw [hic]; dsimp only; omega, his, hch⟩
   have htwo : pj w vs low (bd ⟨w, vs, body⟩) (cO ⟨w, vs, body⟩) xs = (zC, 2) \/ pj w vs low (bd ⟨w, vs, body⟩) (cO ⟨w, vs, body⟩) xs = (pY 2 (gz vs low (bd ⟨w, vs, body⟩) xs) (bx vs low (cO ⟨w, vs, body⟩)) low 1, 0) := by
    unfold pj
    split
    ·exact .inl rfl
    ·exact .inr rfl
   dsimp only at hr;clear hXl hXq hClP hClM hL bm bm0 bfx b17 hx1 hx2 b1 hx1' hx2';subst hH18;rcases htwo with e | e
   ·rw [e] at v2 hr
    clear e;generalize cO ⟨w, vs, body⟩ = M at *;have v22 : ((HZ.set id ap.dead ++ [ap.cells 33 [.int .i64 0, .int .i64 0, .int .i64 0, .int .i64 0, .nils, .int .i64 0, .int .i64 0, .int .i64 0, .nils, .int .i64 0, .int .i64 0]]).set (HZ.set id ap.dead).length (.cells 33 (zC)))[(HZ.set id ap.dead).length]? = some (.cells 33 (zC)) := by simp
    (repeat' (first | apply ab | refine af U U ?_ | (refine Wo 18 U ?_;refine Tc 1 U (Tg U (aM U U U U ‹_› ⟨by assumption, U, U, Nb U⟩) ?_) <;> refine Tn ?_) | refine Wr 19 U U ?_ | (refine Wo 20 U ?_;refine Tc 2 U (Tg U (aa U U U U ‹_›) ?_) <;> refine Tc 1 U (Tn ?_)) | (refine Wo 21 U ?_;refine Tt U (aA U U U ‹_› U U) U ?_ <;> refine Tc 1 U (Tn ?_)) | (refine Av (id := 23) (bs := [0, 0, 0, 4, 0, 0, 63, 127, 255, 255, 0, 1535, 4095]) (by first | assumption | exact yc U ‹_› ‹_›) U (by decide +kernel) (by decide +kernel) ?_ <;> refine Uf U U U (Uf U (aA U U U ‹_› U U) U ?_) <;> refine Uf U U U (Uf U (aa U U U U ‹_›) U ?_) <;> refine Uf U U U (Uf U (aA U U U ‹_› U U) U ?_) <;> refine Uf U (aa U U U U ‹_›) U ?_ <;> refine Uf U U U (Uf U U U (Uf U U U ?_)) <;> (refine aP U ?_; refine ew (by decide +kernel) U U U U U ?_) <;> (refine aP U ?_; refine fy (by decide +kernel) U (aM U U U U ‹_› ⟨by assumption, U, U, Nb U⟩) ?_) <;> refine Uo U U (Un ?_)) | (refine Wo 24 U ?_;refine Tg U (aA U U U ‹_› U U) ?_ <;> refine Tc 1 U (Tf U U U (Tc 4 U (Tn ?_)))) | apply ak | apply am));exact ⟨.inl rfl, Eq.trans (b := some (AV.tup [.agg zC, .bool false, .int .i64 2], h)) rfl (by rw [hr]; rfl)⟩
   ·rw [e] at v2 hr
    clear e;generalize gz vs low (bd ⟨w, vs, body⟩) xs = E1 at v2 hr;generalize bx vs low (cO ⟨w, vs, body⟩) = E2 at v2 hr;obtain ⟨b1o, b1n, b1c, b1s⟩ := E1;obtain ⟨b2o, b2n, b2c, b2s⟩ := E2;have v22 : ((HZ.set id ap.dead ++ [ap.cells 33 [.int .i64 0, .int .i64 0, .int .i64 0, .int .i64 0, .nils, .int .i64 0, .int .i64 0, .int .i64 0, .nils, .int .i64 0, .int .i64 0]]).set (HZ.set id ap.dead).length (.cells 33 (pY 2 (.mk b1o b1n b1c b1s) (.mk b2o b2n b2c b2s) low 1)))[(HZ.set id ap.dead).length]? = some (.cells 33 (pY 2 (.mk b1o b1n b1c b1s) (.mk b2o b2n b2c b2s) low 1)) := by simp
    (repeat' (first | apply ab | refine af U U ?_ | (refine Wo 18 U ?_;refine Tc 1 U (Tg U (aM U U U U ‹_› ⟨by assumption, U, U, Nb U⟩) ?_) <;> refine Tn ?_) | refine Wr 19 U U ?_ | (refine Wo 20 U ?_;refine Tc 2 U (Tg U (aa U U U U ‹_›) ?_) <;> refine Tc 1 U (Tn ?_)) | (refine Wo 21 U ?_;refine Tt U (aA U U U ‹_› U U) U ?_ <;> refine Tc 1 U (Tn ?_)) | (refine Av (id := 23) (bs := [0, 0, 0, 4, 0, 0, 63, 127, 255, 255, 0, 1535, 4095]) (by first | assumption | exact yc U ‹_› ‹_›) U (by decide +kernel) (by decide +kernel) ?_ <;> refine Uf U U U (Uf U (aA U U U ‹_› U U) U ?_) <;> refine Uf U U U (Uf U (aa U U U U ‹_›) U ?_) <;> refine Uf U U U (Uf U (aA U U U ‹_› U U) U ?_) <;> refine Uf U (aa U U U U ‹_›) U ?_ <;> refine Uf U U U (Uf U U U (Uf U U U ?_)) <;> (refine aP U ?_; refine ew (by decide +kernel) U U U U U ?_) <;> (refine aP U ?_; refine fy (by decide +kernel) U (aM U U U U ‹_› ⟨by assumption, U, U, Nb U⟩) ?_) <;> refine Uo U U (Un ?_)) | (refine Wo 24 U ?_;refine Tg U (aA U U U ‹_› U U) ?_ <;> refine Tc 1 U (Tt U U U (Tc 4 U (Tn ?_)))) | apply ak | apply am));exact ⟨.inl rfl, Eq.trans (b := some (AV.tup [.agg (pY 2 (.mk b1o b1n b1c b1s) (.mk b2o b2n b2c b2s) low 1), .bool true, .int .i64 0], h)) rfl (by rw [hr]; rfl)⟩
 have hfin : (fun e s1 => (e = Ex.ret \/ e = .normal) /\ iw Ep Tryz.f7 7 h s1 = some (z9 p low at_, h)) = (fun e s1 => (e = Ex.ret \/ e = .normal) /\ iw Ep Tryz.f7 7 h s1 = some (z9 p low at_, h)) := rfl;clear hfin;obtain ⟨w, vs, body⟩ := p;refine fZ.call (C := Ep) sound.tab v8.1 Tryz.func7 rfl (Nat.le_of_ble_eq_true rfl) rfl ?_;refine fZ.then (f := 7) (fuel := 60000) hH hD hF (by decide +kernel) ?_;(repeat' refine Wr 0 U U ?_);refine .inl ⟨rfl, ?_⟩;refine fZ.then (f := 7) (fuel := 60000) hH hD hF (by decide +kernel) ?_;(repeat' (first | apply ab | refine af U U ?_ | (refine Wo 1 U ?_;refine Tc 1 U (Tg U (aa U U U U ‹_›) ?_) <;> refine Tc 1 U (Tn ?_)) | (refine Wo 2 U ?_;refine Tc 1 U (Tf U U U (Tn ?_))) | apply ak));refine .inl ⟨rfl, ?_⟩;refine fZ.then (f := 7) (fuel := 60000) hH hD hF (by decide +kernel) ?_;(repeat' (first | apply ab | refine af U U ?_ | (refine Wo 4 U ?_;refine Tg U (aA U U U ‹_› U U) ?_ <;> refine Tf U U ‹_› (Tc 1 U (Tg U (aA U U U ‹_› U U) ?_)) <;> refine Tf U U ‹_› (Tc 1 U (Tn ?_))) | apply ak));refine .inl ⟨rfl, ?_⟩;refine fZ.then (f := 7) (fuel := 60000) hH hD hF (by decide +kernel) ?_;(repeat' (first | apply ab | (refine Wo 6 U ?_;refine Tg U (aA U U U ‹_› U U) ?_ <;> refine Tc 2 U (Tn ?_)) | apply ae));apply vl (A := Int) (fun n => ∃ i : Nat, n = i /\ i <= at_.length /\ gd ⟨w, vs, body⟩ (gA at_ i) (at_.drop i) = gd ⟨w, vs, body⟩ none at_ /\ (i = 0 \/ ∃ y, at_[i - 1]? = some y /\ (i : Int) - 1 <= y /\ y < 600)) (EH h ⟨w, vs, body⟩ low at_) (fun n => 700 - n.toNat) (a0 := 0) (by omega) rfl ⟨0, rfl, by omega, rfl, .inl rfl⟩
 rintro n ⟨i, rfl, hi1, hi2, hi3⟩;rcases Nat.lt_or_ge i at_.length with hil | hil
 ·obtain ⟨x, hx⟩ : ∃ x, at_[i]? = some x := ⟨_, List.getElem?_eq_getElem hil⟩
  have hdr : at_.drop i = x :: at_.drop (i + 1) := by
   rw [List.drop_eq_getElem_cons hil];rw [List.getElem?_eq_getElem hil] at hx;injection hx with hx;rw [hx]
  rw [hdr] at hi2;have hi6 : (i : Int) <= 600 := by
   rcases hi3 with e | ⟨y, _, e1, e2⟩
   ·omega
   ·omega
  have hst : gd ⟨w, vs, body⟩ (gA at_ i) (x :: at_.drop (i + 1)) = ((match AT ⟨w, vs, body⟩ x with | none => false | some s => !(kD s != 3)) && (match gA at_ i with | none => true | some y => !decide (x <= y)) && gd ⟨w, vs, body⟩ (some x) (at_.drop (i + 1))) := rfl;rw [hst] at hi2;have hrow : 0 <= (i : Int) /\ (ag at_)[(i : Int).toNat]? = some [.int .i64 x] := ⟨by omega, by simpa using fG hx⟩
  have hlt : decide ((i : Int) < ((ag at_).length : Int)) = true := decide_eq_true (by rw [bw]; omega);have hAx := hAt x;have hnext : gA at_ (i + 1) = some x := by unfold gA; rw [if_neg (by omega), Nat.add_sub_cancel]; exact hx
  have hw : IntKind.i64.wrap ((i : Int) + 1) = ((i + 1 : Nat) : Int) := by rw [wrap_i64 (by omega) (by omega)]; omega
  cases hax : AT ⟨w, vs, body⟩ x with
  | none =>
   rw [hax] at hAx hi2;rw [show gd ⟨w, vs, body⟩ none at_ = false by rw [<- hi2]; rfl, if_neg (by simp)] at hr
   simp only [Option.isSome_none, Bool.false_eq_true, if_false] at hAx;clear hi2 hst rest;(repeat' (first | apply ab | refine ah U U ?_ | (refine Wo 7 U ?_;refine Tt U U ‹_› (Tn ?_)) | (refine Wo 8 U ?_;refine Tc 1 U (Tg U (bq U U U U U ‹_›) ?_) <;> refine Tg U U (Tc 2 U (Tn ?_))) | (refine Wo 9 U ?_;refine Tc 2 U (Tg U (aa U U U U ‹_›) ?_) <;> refine Tc 6 U (Tn ?_)) | (refine Wo 10 U ?_;refine Tc 1 U (Tt U U U (Tc 3 U (Tk U (Tc 3 U (Tk U (Tc 2 U (Tk U (Tc 2 U (Tk U (Tk U (Tk U (Tc 2 U (Tn ?_)))))))))))))) | refine Wr 11 U U ?_ | apply ak | apply ae | apply am))
   exact .inr ⟨by simp, .inl rfl, Eq.trans (b := some (.tup [.agg zC, .bool false, .int .i64 1], h)) rfl (by rw [hr])⟩
  | some s =>
   obtain ⟨hx0, hx6⟩ := hatB x s hax;rw [hax] at hAx hi2;obtain ⟨op, nn, a, t, e⟩ := s;have hop : (match (some (ay.mk op nn a t e) : Option ay) with | none => false | some s => !(kD s != 3)) = !(op != 3) := rfl;simp only [Option.isSome_some, if_true] at hAx;have hi2' : (!(op != 3) && (match gA at_ i with | none => true | some y => !decide (x <= y)) && gd ⟨w, vs, body⟩ (some x) (at_.drop (i + 1))) = gd ⟨w, vs, body⟩ none at_ := hi2;clear hi2 hop;cases c3 : (op != 3) with
   | true =>
    rw [c3] at hi2';rw [show gd ⟨w, vs, body⟩ none at_ = false by rw [<- hi2']; rfl, if_neg (by simp)] at hr
    clear hi2' hst rest;(repeat' (first | apply ab | refine ah U U ?_ | (refine Wo 7 U ?_;refine Tt U U ‹_› (Tn ?_)) | (refine Wo 8 U ?_;refine Tc 1 U (Tg U (bq U U U U U ‹_›) ?_) <;> refine Tg U U (Tc 2 U (Tn ?_))) | (refine Wo 9 U ?_;refine Tc 2 U (Tg U (aa U U U U ‹_›) ?_) <;> refine Tc 6 U (Tn ?_)) | (refine Wo 10 U ?_;refine Tc 1 U (Tf U U U (Tc 3 U (Tt U U ‹_› (Tc 3 U (Tk U (Tc 2 U (Tk U (Tc 2 U (Tk U (Tk U (Tk U (Tc 2 U (Tn ?_)))))))))))))) | refine Wr 11 U U ?_ | apply ak | apply ae | apply am))
    exact .inr ⟨by simp, .inl rfl, Eq.trans (b := some (.tup [.agg zC, .bool false, .int .i64 1], h)) rfl (by rw [hr])⟩
   | false =>
    rw [c3] at hi2';cases i with
    | zero =>
     have hp : gA at_ 0 = none := rfl;rw [hp] at hi2';have hi2'' : gd ⟨w, vs, body⟩ (some x) (at_.drop 1) = gd ⟨w, vs, body⟩ none at_ := by rw [<- hi2']; simp
     clear rest hi2' hst hr;(repeat' (first | apply ab | refine ah U U ?_ | refine af U U ?_ | (refine Wo 7 U ?_;refine Tt U U ‹_› (Tn ?_)) | (refine Wo 8 U ?_;refine Tc 1 U (Tg U (bq U U U U U ‹_›) ?_) <;> refine Tg U U (Tc 2 U (Tn ?_))) | (refine Wo 9 U ?_;refine Tc 2 U (Tg U (aa U U U U ‹_›) ?_) <;> refine Tc 6 U (Tn ?_)) | (refine Wo 10 U ?_;refine Tc 1 U (Tf U U U (Tc 3 U (Tf U U ‹_› (Tc 3 U (Tf U U U (Tc 2 U (Tk U (Tc 2 U (Tk U (Tk U (Tk U (Tc 2 U (Tn ?_)))))))))))))) | refine Wr 12 U U ?_ | apply ak | apply ae))
     exact ⟨IntKind.i64.wrap (((0 : Nat) : Int) + 1), rfl, ⟨1, hw, by omega, by rw [hnext]; exact hi2'', .inr ⟨x, by simpa using hx, by omega, hx6⟩⟩, by rw [hw]; simp⟩
    | succ i =>
     obtain ⟨z, hz⟩ : ∃ z, at_[i]? = some z := ⟨_, List.getElem?_eq_getElem (show i < at_.length by omega)⟩;have hp : gA at_ (i + 1) = some z := by unfold gA; rw [if_neg (by omega), Nat.add_sub_cancel]; exact hz
     rw [hp] at hi2';have hi2'' : (!false && !decide (x <= z) && gd ⟨w, vs, body⟩ (some x) (at_.drop (i + 1 + 1))) = gd ⟨w, vs, body⟩ none at_ := hi2';have hw1 : IntKind.i64.wrap (((i + 1 : Nat) : Int) - 1) = (i : Int) := by rw [wrap_i64 (by omega) (by omega)]; omega
     have hrow3 : 0 <= IntKind.i64.wrap (((i + 1 : Nat) : Int) - 1) /\ (ag at_)[(IntKind.i64.wrap (((i + 1 : Nat) : Int) - 1)).toNat]? = some [.int .i64 z] := by
      rw [hw1]; exact ⟨by omega, by simpa using fG hz⟩
     have ci : decide (((i + 1 : Nat) : Int) > 0) = true := decide_eq_true (by omega);have hzy : (i : Int) <= z := by
      rcases hi3 with e | ⟨y, e0, e1, e2⟩
      ·omega
      ·rw [Nat.add_sub_cancel, hz] at e0
       injection e0 with e0;omega
     clear hi2' hst;cases c5 : decide (x <= z) with
     | true =>
      rw [c5] at hi2'';rw [show gd ⟨w, vs, body⟩ none at_ = false by rw [<- hi2'']; rfl, if_neg (by simp)] at hr
      clear hi2'' rest;(repeat' (first | apply ab | refine ah U U ?_ | (refine Wo 7 U ?_;refine Tt U U ‹_› (Tn ?_)) | (refine Wo 8 U ?_;refine Tc 1 U (Tg U (bq U U U U U ‹_›) ?_) <;> refine Tg U U (Tc 2 U (Tn ?_))) | (refine Wo 9 U ?_;refine Tc 2 U (Tg U (aa U U U U ‹_›) ?_) <;> refine Tc 6 U (Tn ?_)) | (refine Wo 10 U ?_;refine Tc 1 U (Tf U U U (Tc 3 U (Tf U U ‹_› (Tc 3 U (Tt U U ‹_› (Tc 2 U (Tg U (aA U U U ‹_› U U) ?_))))))) <;> refine Tc 2 U (Tg U (bq U U U U U ‹_›) ?_) <;> refine Tg U U (Tt U U ‹_› (Tc 2 U (Tn ?_)))) | refine Wr 11 U U ?_ | apply ak | apply ae | apply am))
      exact .inr ⟨by simp, .inl rfl, Eq.trans (b := some (.tup [.agg zC, .bool false, .int .i64 1], h)) rfl (by rw [hr])⟩
     | false =>
      rw [c5] at hi2'';have hxz := of_decide_eq_false c5;have hi4 : gd ⟨w, vs, body⟩ (some x) (at_.drop (i + 1 + 1)) = gd ⟨w, vs, body⟩ none at_ := by rw [<- hi2'']; simp
      clear rest hi2'' hr;(repeat' (first | apply ab | refine ah U U ?_ | refine af U U ?_ | (refine Wo 7 U ?_;refine Tt U U ‹_› (Tn ?_)) | (refine Wo 8 U ?_;refine Tc 1 U (Tg U (bq U U U U U ‹_›) ?_) <;> refine Tg U U (Tc 2 U (Tn ?_))) | (refine Wo 9 U ?_;refine Tc 2 U (Tg U (aa U U U U ‹_›) ?_) <;> refine Tc 6 U (Tn ?_)) | (refine Wo 10 U ?_;refine Tc 1 U (Tf U U U (Tc 3 U (Tf U U ‹_› (Tc 3 U (Tt U U ‹_› (Tc 2 U (Tg U (aA U U U ‹_› U U) ?_))))))) <;> refine Tc 2 U (Tg U (bq U U U U U ‹_›) ?_) <;> refine Tg U U (Tf U U ‹_› (Tc 2 U (Tn ?_)))) | refine Wr 12 U U ?_ | apply ak | apply ae))
      exact ⟨IntKind.i64.wrap (((i + 1 : Nat) : Int) + 1), rfl, ⟨i + 1 + 1, hw, by omega, by rw [hnext]; exact hi4, .inr ⟨x, by simpa using hx, by omega, hx6⟩⟩, by rw [hw]; simp; omega⟩
 ·have hlt : decide ((i : Int) < ((ag at_).length : Int)) = false := decide_eq_false (by rw [bw]; omega)
  have hall : gd ⟨w, vs, body⟩ none at_ = true := by
   rw [<- hi2, List.drop_eq_nil_of_le hil]; rfl
  have hrest := rest hall (i : Int);clear rest hr hi2 hi3;(repeat' (first | apply ab | refine af U U ?_ | (refine Wo 7 U ?_;refine Tf U U ‹_› (Tn ?_)) | apply aC));exact .inl ⟨rfl, hrest⟩
end Go.Proofs.YtelobnllkhnpaaaGreat.L
namespace Go.Proofs.YtelobnllkhnpaaaGreat.E
end Go.Proofs.YtelobnllkhnpaaaGreat.E
namespace Go.Proofs.YtelobnllkhnpaaaGreat.L
def Ge (c : Int) : AV := .tup [.agg zC, .bool false, .int .i64 c]
theorem EI (p : bp) (low : Int) (at_ : List Int) (hN : bu p.body <= 600) (hf : cx p ≠ 0) (k : Nat) (hk : bA p.body + p.vars.length + 100 <= k) (hb : lB p) (h : aj) (lo : Nat) :
  call Tryz.prog ba (k + 1) lo (.func 7) [.agg (bY p), .int .i64 low, .vs 1 (ag at_)] h = some (Ge (cx p), h) := by
 have hC := eg p (k - 1) (by omega) hb (h ++ [ap.cells 3 [.int .i64 low]] ++ [ap.cells 26 [.vs 1 (ag at_)]]) h.length;rw [show k - 1 + 1 = k by omega, oQ p hN] at hC
 rcases gW p with ⟨h0, _, _⟩ | h1 | h1
 ·exact absurd h0 hf
 ·rw [h1] at hC ⊢
  obtain ⟨w, vs, body⟩ := p;apply ai Tryz.func7 U (Nb U) U U;(repeat' (first | apply ab | refine ah U U ?_ | refine Wr 0 U U ?_ | (refine Wo 1 U ?_;refine Tc 1 U (Tg U (aa U U U U ‹_›) ?_) <;> refine Tc 1 U (Tn ?_)) | (refine Wo 2 U ?_;refine Tc 1 U (Tt U U U (Tn ?_))) | refine Wr 3 U U ?_ | apply am));exact ⟨.inl rfl, rfl⟩
 ·rw [h1] at hC ⊢
  obtain ⟨w, vs, body⟩ := p;apply ai Tryz.func7 U (Nb U) U U;(repeat' (first | apply ab | refine ah U U ?_ | refine Wr 0 U U ?_ | (refine Wo 1 U ?_;refine Tc 1 U (Tg U (aa U U U U ‹_›) ?_) <;> refine Tc 1 U (Tn ?_)) | (refine Wo 2 U ?_;refine Tc 1 U (Tt U U U (Tn ?_))) | refine Wr 3 U U ?_ | apply am));exact ⟨.inl rfl, rfl⟩
theorem EJ (p : bp) (low : Int) (at_ : List Int) (hN : bu p.body <= 600) (hf : cx p = 0) (hl : td low = true) (k : Nat) (hk : bA p.body + p.vars.length + 100 <= k) (hb : lB p) (h : aj) (lo : Nat) :
  call Tryz.prog ba (k + 1) lo (.func 7) [.agg (bY p), .int .i64 low, .vs 1 (ag at_)] h = some (Ge 1, h) := by
 have hC := eg p (k - 1) (by omega) hb (h ++ [ap.cells 3 [.int .i64 low]] ++ [ap.cells 26 [.vs 1 (ag at_)]]) h.length;have g4 : (h ++ [ap.cells 3 [.int .i64 low]] ++ [ap.cells 26 [.vs 1 (ag at_)]])[h.length]? = some (.cells 3 [.int .i64 low]) := by simp
 rw [show k - 1 + 1 = k by omega, oQ p hN, hf] at hC
 unfold td at hl;obtain ⟨w, vs, body⟩ := p;cases h1 : decide (low < 0)
 ·rw [h1, Bool.false_or] at hl
  apply ai Tryz.func7 U (Nb U) U U;(repeat' (first | apply ab | refine ah U U ?_ | refine af U U ?_ | refine Wr 0 U U ?_ | (refine Wo 1 U ?_;refine Tc 1 U (Tg U (aa U U U U ‹_›) ?_) <;> refine Tc 1 U (Tn ?_)) | (refine Wo 2 U ?_;refine Tc 1 U (Tf U U U (Tn ?_))) | (refine Wo 4 U ?_;refine Tg U (aA U U U ‹_› U U) ?_ <;> refine Tf U U ‹_› (Tc 1 U (Tg U (aA U U U ‹_› U U) ?_)) <;> refine Tt U U ‹_› (Tc 1 U (Tn ?_))) | refine Wr 5 U U ?_ | apply ak | apply am));exact ⟨.inl rfl, rfl⟩
 ·clear hl
  apply ai Tryz.func7 U (Nb U) U U;(repeat' (first | apply ab | refine ah U U ?_ | refine af U U ?_ | refine Wr 0 U U ?_ | (refine Wo 1 U ?_;refine Tc 1 U (Tg U (aa U U U U ‹_›) ?_) <;> refine Tc 1 U (Tn ?_)) | (refine Wo 2 U ?_;refine Tc 1 U (Tf U U U (Tn ?_))) | (refine Wo 4 U ?_;refine Tg U (aA U U U ‹_› U U) ?_ <;> refine Tt U U ‹_› (Tc 1 U (Tk U (Tk U (Tc 1 U (Tn ?_)))))) | refine Wr 5 U U ?_ | apply ak | apply am));exact ⟨.inl rfl, rfl⟩
def Cu (p : bp) (low : Int) (at_ : List Int) : AV := if cx p ≠ 0 then Ge (cx p) else if td low = true then Ge 1 else z9 p low at_
theorem kE {p : bp} (hP : iF p = true) (low : Int) (l : List Int) : cM (bx p.vars low l) <= 1800 /\ dP (bx p.vars low l) := by
 obtain ⟨_, _, q2⟩ := fC hP;have ht := DC p.vars (nL hP);obtain ⟨b1, b2⟩ := xm p.vars low l;exact ⟨by omega, b2⟩
theorem sP (p : bp) (low : Int) (at_ : List Int) (hf : pL p.body 600 = true) (hb : lB p) (hal : at_.length < 9223372036854775808) (h : aj) (lo : Nat) :
  lC Tryz.prog lo 7 [.agg (bY p), .int .i64 low, .vs 1 (ag at_)] h (Cu p low at_) h := by
 have hK := zS hf;have hN : bu p.body <= 600 := by
  rw [ny _ _ (by omega) (by omega)] at hf;have := of_decide_eq_true hf;omega
 have hS := sound.all (bA p.body + p.vars.length + 100 + 1) lo (.func 7) [.agg (bY p), .int .i64 low, .vs 1 (ag at_)] h;unfold Cu
 by_cases hF : cx p = 0
 ·rw [if_neg (by simp [hF])]
  cases hL : td low with
  | true =>
   rw [if_pos rfl];exact hS _ _ (EJ p low at_ hN hF hL _ (Nat.le_refl _) hb h lo)
  | false =>
   rw [if_neg (by simp)];obtain ⟨hP, hSi⟩ : iF p = true /\ bt p = true := by
    rcases gW p with ⟨_, a, b⟩ | a | a
    ·exact ⟨a, b⟩
    ·omega
    ·omega
   unfold td at hL;rw [Bool.or_eq_false_iff] at hL;obtain ⟨c1, c2⟩ := kE hP low (bd p);obtain ⟨d1, d2⟩ := kE hP low (cO p);have hp : gd p none at_ = true -> cM (gz p.vars low (bd p) (gH p low at_).2) <= 17000 /\ dP (gz p.vars low (bd p) (gH p low at_).2) := fun ha => by
    rw [qp hN] at ha;exact EC low hP hSi hN hK hb ha (by omega) c2
   exact yl p low at_ hP hSi hN hK hb hL.1 hL.2 hal (fun ha => by rw [qp hN] at ha; have := Eu hN ha; omega) (Ib hN) (fun ha => by have := (hp ha).1; omega) (fun ha => (hp ha).2) (by omega) d2 (nL hP) (by omega) h lo
 ·rw [if_pos hF]
  exact hS _ _ (EI p low at_ hN hF _ (Nat.le_refl _) hb h lo)
theorem EK (w : Int) (vs : List bk) (low : Int) (l1 l2 : List Int) (xs : List aF) (hh : cV w vs = true) :
  ((ks w vs 2 (gz vs low l1 xs) && ks w vs 2 (bx vs low l2)) = true /\ pj w vs low l1 l2 xs = (pY 2 (gz vs low l1 xs) (bx vs low l2) low 1, 0)) \/
  ((ks w vs 2 (gz vs low l1 xs) && ks w vs 2 (bx vs low l2)) = false /\ pj w vs low l1 l2 xs = (zC, 2)) := by
 unfold pj;rw [ky _ _ _ hh, ky _ _ _ hh];cases ks w vs 2 (gz vs low l1 xs) <;> cases ks w vs 2 (bx vs low l2)
 ·exact .inr ⟨rfl, rfl⟩
 ·exact .inr ⟨rfl, rfl⟩
 ·exact .inr ⟨rfl, rfl⟩
 ·exact .inl ⟨rfl, rfl⟩
theorem Gf {low : Int} (h0 : 0 <= low) (h1 : low <= 15) : ∀ n, cb n -> nT low n = true -> eK n low := fun n hn h =>
 lG (Q := fun a b => nT b a = true -> be a b = b) (by decide +kernel) hn (show cb low by unfold cb; omega) h
theorem Hw {p : bp} (hP : iF p = true) : pQ p := by
 obtain ⟨q0, q1, q2⟩ := fC hP;obtain ⟨w1, w2⟩ := gV q0;exact ⟨⟨by omega, by omega, q2, nL hP⟩, by omega, q1⟩
theorem Ab {p : bp} {fuel : Nat} {low : Int} {pre post : aF} (hk : ∀ {s1 s2 : List Int}, s1.length = s2.length -> ∀ {y1 y2 : il}, iZ (gy p.width.toNat p.vars) p.vars p.body (s1, []) y1 -> iZ (gy p.width.toNat p.vars) p.vars p.body (s2, []) y2 -> aY p.width.toNat p.vars [s1, s2] pre ≠ 0 ->
   fR (nT low) y1.2 = fR (nT low) y2.2 /\ aY p.width.toNat p.vars [y1.1, y2.1] post ≠ 0) (x1 x2 : sV) (r1 r2 : Rv) (s1 : jN p x1) (s2 : jN p x2) (g1 : vV p fuel x1 r1) (g2 : vV p fuel x2 r2) : xM p low pre post x1.1 x2.1 r1 r2 :=
 fun hv e1 e2 => hk (by rw [s1.1.len, s2.1.len]) (AO g1.1 g1.2.1 e1) (AO g2.1 g2.2.1 e2) hv
theorem ym {p : bp} {l : List Int} (hl : l.length = p.vars.length) (hB : bf l) : tc p.vars l = true := by
 unfold tc;rw [decide_eq_true hl, Bool.true_and, Bool.not_eq_true', List.any_eq_false];intro x hx;have := hB x hx;unfold cb at this;unfold Du;simp only [Bool.or_eq_true, decide_eq_true_eq, not_or];omega
theorem Ac {p : bp} (hP : iF p = true) (hS : bt p = true) (hN : bu p.body <= 600) {low : Int} (h0 : 0 <= low) (h1 : low <= 15) {l1 l2 : List Int} (hl1 : l1.length = p.vars.length) (hl2 : l2.length = p.vars.length) (hB1 : bf l1) (hB2 : bf l2) :
  ((ks p.width p.vars 2 (bx p.vars low l1) = true /\ ks p.width p.vars 2 (bx p.vars low l2) = true) /\ oU p low l1 l2 = (pY 2 (bx p.vars low l1) (bx p.vars low l2) low 1, 0)) \/ oU p low l1 l2 = (zC, 2) := by
 have hf : cx p = 0 := by unfold cx; rw [hP, hS]; rfl
 have hc : s9 p = 0 := by rw [oQ p hN, hf]
 have hlo : td low = false := by
  unfold td;rw [decide_eq_false (by omega), decide_eq_false (by omega)]; rfl
 unfold oU;rw [hc, if_neg (by simp), hlo, ym hl1 hB1, ym hl2 hB2, if_neg (by simp), Fq _ _ _ _ _ (fC hP).1];cases q1 : ks p.width p.vars 2 (bx p.vars low l1) <;> cases q2 : ks p.width p.vars 2 (bx p.vars low l2)
 ·exact .inr rfl
 ·exact .inr rfl
 ·exact .inr rfl
 ·exact .inl ⟨⟨rfl, rfl⟩, rfl⟩
theorem qq {p : bp} (H : pQ p) {K : Nat} {e : aF} (h : ks p.width p.vars 2 e = true) (hB : dP e) (hK : cM e + 60 <= K) : DW p K e := by
 refine ⟨?_, hB, hK⟩;rw [H.w];unfold ks at h;simp only [Bool.and_eq_true] at h;exact h.2
theorem sQ {K : Nat} {v0 : List AV} {r0 : AV} {p : bp} (H : Pk p K) (hP : iF p = true) (hS : bt p = true) (hb : lB p) (hb6 : cH p <= 6) (fuel : Nat) (hf : fuel <= 60) {low : Int} (h0 : 0 <= low) (h1 : low <= 15) {l1 l2 : List Int} (hl1 : l1.length = p.vars.length) (hl2 : l2.length = p.vars.length) (hB1 : bf l1) (hB2 : bf l2)
  (hKl : bA p.body + p.vars.length + 5000 <= K) (hc : ∀ x1 x2 r1 r2, jN p x1 -> jN p x2 -> vV p fuel x1 r1 -> vV p fuel x2 r2 -> xM p low (bx p.vars low l1) (bx p.vars low l2) x1.1 x2.1 r1 r2) (k : Nat) (hk : 100100 <= k) (h : aj) (lo : Nat) :
  call Tryz.prog (bn K v0 r0) (k + 1) lo (.func 18) [.agg (bY p), .int .i64 fuel, .int .i64 low, .vs 1 (ag l1), .vs 1 (ag l2)] h = some (.bool true, h) := by
 have hN := H.hN;obtain ⟨a1, a2, a3⟩ := fC hP;obtain ⟨c1, c2⟩ := kE hP low l1;obtain ⟨d1, d2⟩ := kE hP low l2;have hC := dk (k := k) (v0 := v0) (r0 := r0) rfl rfl (rQ p low l1 l2 (K - 1) (by omega) hb (by omega) (by omega) (by omega) (by omega) h h.length (fun _ _ _ => by
  have := rP p.width p.vars p.body low l1 l2 (K - 2) (by omega) (by omega) (fun v hv => by have := nL hP v hv; omega) hl1 hl2 (by omega) (by omega) c2 d2 h h.length;rwa [show K - 2 + 1 = K - 1 by omega] at this)) (by omega)
 rw [show K - 1 + 1 = K by omega] at hC
 rcases Ac hP hS hN h0 h1 hl1 hl2 hB1 hB2 with ⟨⟨i1, i2⟩, e⟩ | e
 ·rw [e] at hC
  have hF := dk (k := k) (v0 := v0) (r0 := r0) rfl rfl (zD 2 (bx p.vars low l1) (bx p.vars low l2) low 1 600 (K - 1) (by omega) (by omega) c2 d2 h h.length) (by omega);have hsr := pM p (K - 2) (by omega) hb h h.length;rw [hS, show K - 2 + 1 = K - 1 by omega] at hsr
  have hI := dk (k := k) (v0 := v0) (r0 := r0) rfl rfl (DA p.width p.vars p.body (bx p.vars low l1) (bx p.vars low l2) low h0 h1 (K - 1) (by omega) (by omega) c2 d2 h h.length hsr) (by omega);rw [show K - 1 + 1 = K by omega, xq i1, xq i2] at hF
  rw [show K - 1 + 1 = K by omega, i1, i2] at hI
  obtain ⟨_, hL, x, b, rfl, hxb⟩ := xN (K := K) (v0 := v0) (r0 := r0) H hb6 fuel hf h0 h1 (qq H.hd i1 c2 (by omega)) (qq H.hd i2 d2 (by omega)) hc (k - 1) (by omega) h h.length;rw [show k - 1 + 1 = k by omega] at hL
  clear hc hsr e;generalize bx p.vars low l1 = e1 at *;generalize bx p.vars low l2 = e2 at *;obtain ⟨o1, n1, q1, t1⟩ := e1;obtain ⟨o2, n2, q2, t2⟩ := e2;obtain ⟨w, vs, body⟩ := p;dsimp only at *;rcases hxb with rfl | rfl
  ·cases x
   ·apply ai Tryz.func18 U (Nb U) U U
    (repeat' (first | apply ab | refine af U U ?_ | refine Wr 0 U U ?_ | (refine Wo 1 U ?_;refine Tc 4 U (Tg U (aa U U U U ‹_›) ?_) <;> refine Tc 6 U (Tn ?_)) | (refine Wo 2 U ?_;refine Tc 1 U (Tf U U U (Tc 2 U (Tt U (aa U U U U ‹_›) U ?_))) <;> refine Tc 5 U (Tt U (aa U U U U ‹_›) U ?_) <;> refine Tc 2 U (Tn ?_)) | (refine Wo 4 U ?_;refine Tc 3 U (Tg U (aa U U U U ‹_›) ?_) <;> refine Tc 2 U (Tf U U U (Tc 3 U (Tn ?_)))) | refine Wr 5 U U ?_ | apply ak | apply am));exact ⟨.inl rfl, rfl⟩
   ·apply ai Tryz.func18 U (Nb U) U U
    (repeat' (first | apply ab | refine af U U ?_ | refine Wr 0 U U ?_ | (refine Wo 1 U ?_;refine Tc 4 U (Tg U (aa U U U U ‹_›) ?_) <;> refine Tc 6 U (Tn ?_)) | (refine Wo 2 U ?_;refine Tc 1 U (Tf U U U (Tc 2 U (Tt U (aa U U U U ‹_›) U ?_))) <;> refine Tc 5 U (Tt U (aa U U U U ‹_›) U ?_) <;> refine Tc 2 U (Tn ?_)) | (refine Wo 4 U ?_;refine Tc 3 U (Tg U (aa U U U U ‹_›) ?_) <;> refine Tc 2 U (Tf U U U (Tc 3 U (Tn ?_)))) | refine Wr 5 U U ?_ | apply ak | apply am));exact ⟨.inl rfl, rfl⟩
  ·cases b
   ·apply ai Tryz.func18 U (Nb U) U U
    (repeat' (first | apply ab | refine af U U ?_ | refine Wr 0 U U ?_ | (refine Wo 1 U ?_;refine Tc 4 U (Tg U (aa U U U U ‹_›) ?_) <;> refine Tc 6 U (Tn ?_)) | (refine Wo 2 U ?_;refine Tc 1 U (Tf U U U (Tc 2 U (Tt U (aa U U U U ‹_›) U ?_))) <;> refine Tc 5 U (Tt U (aa U U U U ‹_›) U ?_) <;> refine Tc 2 U (Tn ?_)) | (refine Wo 4 U ?_;refine Tc 3 U (Tg U (aa U U U U ‹_›) ?_) <;> refine Tc 2 U (Tf U U U (Tc 3 U (Tn ?_)))) | refine Wr 5 U U ?_ | apply ak | apply am));exact ⟨.inl rfl, rfl⟩
   ·apply ai Tryz.func18 U (Nb U) U U
    (repeat' (first | apply ab | refine af U U ?_ | refine Wr 0 U U ?_ | (refine Wo 1 U ?_;refine Tc 4 U (Tg U (aa U U U U ‹_›) ?_) <;> refine Tc 6 U (Tn ?_)) | (refine Wo 2 U ?_;refine Tc 1 U (Tf U U U (Tc 2 U (Tt U (aa U U U U ‹_›) U ?_))) <;> refine Tc 5 U (Tt U (aa U U U U ‹_›) U ?_) <;> refine Tc 2 U (Tn ?_)) | (refine Wo 4 U ?_;refine Tc 3 U (Tg U (aa U U U U ‹_›) ?_) <;> refine Tc 2 U (Tt U U U (Tc 3 U (Tn ?_)))) | refine Wr 5 U U ?_ | apply ak | apply am));exact ⟨.inl rfl, rfl⟩
 ·rw [e] at hC
  clear hc e;obtain ⟨w, vs, body⟩ := p;dsimp only at *;apply ai Tryz.func18 U (Nb U) U U;(repeat' (first | apply ab | refine ah U U ?_ | refine Wr 0 U U ?_ | (refine Wo 1 U ?_;refine Tc 4 U (Tg U (aa U U U U ‹_›) ?_) <;> refine Tc 6 U (Tn ?_)) | (refine Wo 2 U ?_;refine Tc 1 U (Tt U U U (Tc 2 U (Tk U (Tc 5 U (Tk U (Tc 2 U (Tn ?_)))))))) | (refine Wo 3 U ?_;refine Tc 1 U (Tt U U U (Tc 1 U (Tn ?_)))) | apply am))
  exact ⟨.inl rfl, rfl⟩
theorem Ad {p : bp} (hP : iF p = true) (hS : bt p = true) (hN : bu p.body <= 600) (k : Nat) (hk : bA p.body + p.vars.length + 100 <= k) (hb : lB p) (h : aj) (lo : Nat) :
  call Tryz.prog ba (k + 1) lo (.func 15) [.agg (bY p)] h = some (.tup [bg 3 (eE (bd p) p.body 0 0), .int .i64 0], h) := by
 have hf : cx p = 0 := by unfold cx; rw [hP, hS]; rfl
 have := zu p hN k hk hb (fun _ => vJ (dE _ (bV hP))) h lo;unfold Dp at this;rw [hf, if_pos rfl, GV p (bd p) hP hN] at this;exact this
theorem yn (sz : Nat) (A : List (List AV)) : (A = [] /\ bg sz A = .nils) \/ (A ≠ [] /\ ∃ x xs, bg sz A = .vs sz (x :: xs) /\ (((x :: xs).length : Int) == 0) = false) := by
 cases A with
 | nil => exact .inl ⟨rfl, rfl⟩
 | cons x xs => exact .inr ⟨by simp, x, xs, rfl, by simp; omega⟩
theorem Cv (p : bp) (fuel low : Int) (at_ : List Int) (r0 : AV) (hr0 : Cu p low at_ = r0) (K : Nat) (hK : K = 2 * bA p.body + p.vars.length + at_.length + 30000) (k : Nat) (hk : 200000 <= k) (hb : lB p) (hal : at_.length < 9223372036854775808) (h : aj) (lo : Nat) :
  call Tryz.prog (bn K [.agg (bY p), .int .i64 low, .vs 1 (ag at_)] r0) (k + 1) lo (.func 4) [.agg (bY p), .int .i64 fuel, .int .i64 low, .vs 1 (ag at_)] h = some (.bool true, h) := by
 have hA := dk (k := k) (v0 := [.agg (bY p), .int .i64 low, .vs 1 (ag at_)]) (r0 := r0) rfl rfl (BQ K h.length h (by omega)) (by omega);have h1 := dk (k := k) (v0 := [.agg (bY p), .int .i64 low, .vs 1 (ag at_)]) (r0 := r0) rfl rfl (ub (K - 1) h h.length p.body (by omega) hb.2.1 hb.2.2 600) (by omega);rw [show K - 1 + 1 = K by omega] at h1
 cases hft : pL p.body 600 with
 | false =>
  rw [hft] at h1;clear hr0;obtain ⟨w, vs, body⟩ := p;apply ai Tryz.func4 U (Nb U) U U;(repeat' (first | apply ab | refine ah U U ?_ | refine Wr 0 U U ?_ | (refine Wo 1 U ?_;refine Tc 2 U (Tf U (aa U U U U ‹_›) U ?_) <;> refine Tc 3 U (Tk U (Tk U (Tc 3 U (Tk U (Tc 4 U (Tk U (Tk U (Tc 3 U (Tk U (Tc 3 U (Tk U (Tc 3 U (Tk U (Tc 3 U (Tk U (Tc 4 U (Tk U (Tc 2 U (Tn ?_)))))))))))))))))))) | (refine Wo 2 U ?_;refine Tt U (aa U U U U ‹_›) U ?_ <;> refine Tc 1 U (Tn ?_)) | apply am))
  all_goals exact ⟨.inl rfl, rfl⟩
 | true =>
 rw [hft] at h1;have hkk := zS hft;have hN : bu p.body <= 600 := by
  rw [ny _ _ (by omega) (by omega)] at hft;have := of_decide_eq_true hft;omega
 have hF := dk (k := k) (v0 := [.agg (bY p), .int .i64 low, .vs 1 (ag at_)]) (r0 := r0) rfl rfl (BL p (K - 1) (by omega) hb h h.length) (by omega);rw [show K - 1 + 1 = K by omega] at hF
 by_cases hf0 : cx p = 0
 case neg =>
  have hne : (cx p != 0) = true := by simpa using hf0
  clear hr0;generalize cx p = fI at *;obtain ⟨w, vs, body⟩ := p;apply ai Tryz.func4 U (Nb U) U U;(repeat' (first | apply ab | refine ah U U ?_ | refine Wr 0 U U ?_ | (refine Wo 1 U ?_;refine Tc 2 U (Tt U (aa U U U U ‹_›) U ?_) <;> refine Tc 3 U (Tg U (aa U U U U ‹_›) ?_) <;> refine Tt U U ‹_› (Tc 3 U (Tk U (Tc 4 U (Tk U (Tk U (Tc 3 U (Tk U (Tc 3 U (Tk U (Tc 3 U (Tk U (Tc 3 U (Tk U (Tc 4 U (Tk U (Tc 2 U (Tn ?_)))))))))))))))))) | (refine Wo 2 U ?_;refine Tt U (aa U U U U ‹_›) U ?_ <;> refine Tc 1 U (Tn ?_)) | apply am))
  all_goals exact ⟨.inl rfl, rfl⟩
 obtain ⟨hP, hSi⟩ : iF p = true /\ bt p = true := by
  rcases gW p with ⟨_, a, b⟩ | a | a
  ·exact ⟨a, b⟩
  ·omega
  ·omega
 rw [hf0] at hF;have HD := Hw hP;have hFew := dk (k := k) (v0 := [.agg (bY p), .int .i64 low, .vs 1 (ag at_)]) (r0 := r0) rfl rfl (AJ HD (K - 1) (by omega) h h.length) (by omega);rw [show K - 1 + 1 = K by omega] at hFew
 cases hfw : decide (cH p <= 60) with
 | false =>
  rw [hfw] at hFew;clear hr0;obtain ⟨w, vs, body⟩ := p;apply ai Tryz.func4 U (Nb U) U U;(repeat' (first | apply ab | refine ah U U ?_ | refine Wr 0 U U ?_ | (refine Wo 1 U ?_;refine Tc 2 U (Tt U (aa U U U U ‹_›) U ?_) <;> refine Tc 3 U (Tg U (aa U U U U ‹_›) ?_) <;> refine Tf U U U (Tc 3 U (Tf U (aa U U U U ‹_›) U ?_)) <;> refine Tc 4 U (Tk U (Tk U (Tc 3 U (Tk U (Tc 3 U (Tk U (Tc 3 U (Tk U (Tc 3 U (Tk U (Tc 4 U (Tk U (Tc 2 U (Tn ?_))))))))))))))) | (refine Wo 2 U ?_;refine Tt U (aa U U U U ‹_›) U ?_ <;> refine Tc 1 U (Tn ?_)) | apply am))
  all_goals exact ⟨.inl rfl, rfl⟩
 | true =>
 rw [hfw] at hFew;have hSp := dk (k := k) (v0 := [.agg (bY p), .int .i64 low, .vs 1 (ag at_)]) (r0 := r0) rfl rfl (uB HD (of_decide_eq_true hfw) (K - 1) (by omega) h h.length) (by omega);have hO := dk (k := k) (v0 := [.agg (bY p), .int .i64 low, .vs 1 (ag at_)]) (r0 := r0) rfl rfl (EG p at_ (K - 1) (by omega) hal hN hb h h.length) (by omega);rw [show K - 1 + 1 = K by omega] at hSp hO
 have bad : ((decide ((2 : Int) ^ cH p > 64) || decide (fuel < 0) || decide (fuel > 60) || decide (low < 0) || decide (low > 15) || !jU p at_) = true) -> call Tryz.prog (bn K [.agg (bY p), .int .i64 low, .vs 1 (ag at_)] r0) (k + 1) lo (.func 4) [.agg (bY p), .int .i64 fuel, .int .i64 low, .vs 1 (ag at_)] h = some (.bool true, h) := fun hbad => by
  clear hr0;generalize (2 : Int) ^ cH p = sp at *;generalize jU p at_ = ob at *;obtain ⟨w, vs, body⟩ := p;have hb' : decide (sp > 64) = true \/ (decide (sp > 64) = false /\ decide (fuel < 0) = true) \/ (decide (sp > 64) = false /\ decide (fuel < 0) = false /\ decide (fuel > 60) = true) \/ (decide (sp > 64) = false /\ decide (fuel < 0) = false /\ decide (fuel > 60) = false /\ decide (low < 0) = true) \/
    (decide (sp > 64) = false /\ decide (fuel < 0) = false /\ decide (fuel > 60) = false /\ decide (low < 0) = false /\ decide (low > 15) = true) \/ (decide (sp > 64) = false /\ decide (fuel < 0) = false /\ decide (fuel > 60) = false /\ decide (low < 0) = false /\ decide (low > 15) = false /\ ob = false) := by
   revert hbad;generalize decide (sp > 64) = b1;generalize decide (fuel < 0) = b2;generalize decide (fuel > 60) = b3;generalize decide (low < 0) = b4;generalize decide (low > 15) = b5;clear hO;cases b1 <;> cases b2 <;> cases b3 <;> cases b4 <;> cases b5 <;> cases ob <;> simp
  clear hbad;rcases hb' with c1 | ⟨c1, c2⟩ | ⟨c1, c2, c3⟩ | ⟨c1, c2, c3, c4⟩ | ⟨c1, c2, c3, c4, c5⟩ | ⟨c1, c2, c3, c4, c5, rfl⟩
  all_goals
   apply ai Tryz.func4 U (Nb U) U U;(repeat' (first | apply ab | refine ah U U ?_ | refine Wr 0 U U ?_ | (refine Wo 1 U ?_;refine Tc 2 U (Tt U (aa U U U U ‹_›) U ?_) <;> refine Tc 3 U (Tg U (aa U U U U ‹_›) ?_) <;> refine Tf U U U (Tc 3 U (Tt U (aa U U U U ‹_›) U ?_)) <;> refine Tc 4 U (Tg U (aa U U U U ‹_›) ?_) <;> (refine aK U ?_; first | refine bi U ‹_› ?_ | refine aT U ‹_› ?_) <;> refine Tc 3 U ?_ <;> (first | refine au U ?_ | (refine aK U ?_; first | refine bi U ‹_› ?_ | refine aT U ‹_› ?_)) <;> refine Tc 3 U ?_ <;> (first | refine au U ?_ | (refine aK U ?_; first | refine bi U ‹_› ?_ | refine aT U ‹_› ?_)) <;> refine Tc 3 U ?_ <;> (first | refine au U ?_ | (refine aK U ?_; first | refine bi U ‹_› ?_ | refine aT U ‹_› ?_)) <;> refine Tc 3 U ?_ <;> (first | refine au U ?_ | (refine aK U ?_; first | refine bi U ‹_› ?_ | refine aT U ‹_› ?_)) <;> refine Tc 4 U ?_ <;> (first | refine au U ?_ | (refine aK U ?_; refine aT (aa U U U U ‹_›) U ?_)) <;> refine Tc 2 U (Tn ?_)) | (refine Wo 2 U ?_;refine Tt U (aa U U U U ‹_›) U ?_ <;> refine Tc 1 U (Tn ?_)) | apply am))
   all_goals exact ⟨.inl rfl, rfl⟩
 cases hbad : (decide ((2 : Int) ^ cH p > 64) || decide (fuel < 0) || decide (fuel > 60) || decide (low < 0) || decide (low > 15) || !jU p at_) with
 | true => exact bad hbad
 | false =>
 clear bad;simp only [Bool.or_eq_false_iff] at hbad;obtain ⟨⟨⟨⟨⟨c1, c2⟩, c3⟩, c4⟩, c5⟩, c6⟩ := hbad;have hob : jU p at_ = true := by simpa using c6
 clear c6;rw [hob] at hO;have hb6 : cH p <= 6 := by
  have h64 := of_decide_eq_false c1;rcases Nat.lt_or_ge 6 (cH p) with hlt | hge
  ·exfalso
   have h7 : 2 ^ 7 <= 2 ^ cH p := Nat.pow_le_pow_right (by omega) hlt;have e : ((2 ^ cH p : Nat) : Int) = 2 ^ cH p := by simp
   omega
  ·exact hge
 have q2 := of_decide_eq_false c2;have q3 := of_decide_eq_false c3;have q4 := of_decide_eq_false c4;have q5 := of_decide_eq_false c5;obtain ⟨f, rfl⟩ : ∃ f : Nat, fuel = f := ⟨fuel.toNat, by omega⟩
 have l0 : 0 <= low := by omega
 have l1 : low <= 15 := by omega
 have HK : Pk p K := ⟨HD, by omega, by omega, hN, hb.2.2, bV hP⟩
 have hlB := eR hP hSi;have hll := cq p;have hlast := cK (dQ p.vars p.vars.length) p.body (bd p) 0 hll hlB cm (dE _ (bV hP));obtain ⟨_, hv1, hv2⟩ := fC hP;have hle := fun (n : Int) => Gf l0 l1 n
 have g1 := dk (k := k) (v0 := [.agg (bY p), .int .i64 low, .vs 1 (ag at_)]) (r0 := r0) rfl rfl (Ad hP hSi hN (K - 1) (by omega) hb h h.length) (by omega);have g2 := dk (k := k) (v0 := [.agg (bY p), .int .i64 low, .vs 1 (ag at_)]) (r0 := r0) rfl rfl (zV p hP hSi hN (K - 1) (by omega) hb h h.length) (by omega);have g4 := dk (k := k) (v0 := [.agg (bY p), .int .i64 low, .vs 1 (ag at_)]) (r0 := r0) rfl rfl (xa p (K - 1) (by omega) (by omega) h h.length) (by omega);rw [show K - 1 + 1 = K by omega] at g1 g2 g4
 have g3 := sP p low at_ hft hb hal h h.length;rw [hr0] at g3;have g3 := HS (K := K) (k := k) g3 (by omega);have hlv : bg 1 (ag (bd p)) = .vs 1 (ag (bd p)) := by
  cases hx : bd p with
  | nil => rw [hx] at hll; simp at hll; omega
  | cons x xs => rfl
 rw [hlv] at g4;have e2 : zU p = (gY p).flatMap ek := by
  unfold zU;rw [EA hP hSi]
 rw [e2, AZ hP hSi] at g2;have hH1 : eE (bd p) p.body 0 0 = [] -> call Tryz.prog (bn K [.agg (bY p), .int .i64 low, .vs 1 (ag at_)] r0) k h.length (.func 18) [.agg (bY p), .int .i64 f, .int .i64 low, .vs 1 (ag (bd p)), .vs 1 (ag (bd p))] h = some (.bool true, h) := fun he => by
  have := sQ (K := K) (v0 := [.agg (bY p), .int .i64 low, .vs 1 (ag at_)]) (r0 := r0) HK hP hSi hb hb6 f (by omega) l0 l1 hll hll hlB hlB (by omega) (Ab (fun {_ _} hl {_ _} r1 r2 hv => yi hP hSi HD l0 l1 hle hl r1 r2 he hv)) (k - 1) (by omega) h h.length;rw [show k - 1 + 1 = k by omega] at this
  exact this
 have hH2 : (gY p).flatMap ek = [] -> call Tryz.prog (bn K [.agg (bY p), .int .i64 low, .vs 1 (ag at_)] r0) k h.length (.func 18) [.agg (bY p), .int .i64 f, .int .i64 low, .vs 1 (ag (bd p)), .vs 1 (ag (kI p))] h = some (.bool true, h) := fun he => by
  have := sQ (K := K) (v0 := [.agg (bY p), .int .i64 low, .vs 1 (ag at_)]) (r0 := r0) HK hP hSi hb hb6 f (by omega) l0 l1 hll hlast.1 hlB hlast.2 (by omega) (Ab (fun {_ _} hl {_ _} r1 r2 hv => pT hP hSi HD l0 l1 hle hl r1 r2 he hv)) (k - 1) (by omega) h h.length;rw [show k - 1 + 1 = k by omega] at this
  exact this
 have hR : (∃ x e2, r0 = .tup [.agg (pY x e2 e2 0 0), .bool false, .int .i64 0]) \/ (∃ x e2, r0 = .tup [.agg (pY x e2 e2 0 0), .bool false, .int .i64 2]) \/ ∃ e1 e2 x b, r0 = .tup [.agg (pY 2 e1 e2 low 1), .bool true, .int .i64 0] /\ call Tryz.prog (bn K [.agg (bY p), .int .i64 low, .vs 1 (ag at_)] r0) k h.length (.func 19) [.agg (bY p), .int .i64 f, .agg (pY 2 e1 e2 low 1)] h = some (.tup [.agg [.bool x, .nils], .bool b], h) /\ (b = false \/ x = true) := by
  have hr := hr0;unfold Cu at hr;rw [if_neg (by simp [hf0]), if_neg (by unfold td; rw [c4, c5]; simp)] at hr;unfold z9 at hr;rw [qp hN, if_pos (show fH (every p) none at_ = true from hob)] at hr;unfold F9 at hr;cases hx : (gH p low at_).1 with
  | false =>
   rw [hx, if_neg (by simp)] at hr;exact .inl ⟨_, _, hr.symm⟩
  | true =>
   rw [hx, if_pos rfl] at hr;unfold yb at hr;rcases EK p.width p.vars low (bd p) (cO p) (gH p low at_).2 (fC hP).1 with ⟨hi, he⟩ | ⟨hi, he⟩
   ·rw [he] at hr
    rw [Bool.and_eq_true] at hi;obtain ⟨d1, d2⟩ := kE hP low (cO p);obtain ⟨_, d0⟩ := kE hP low (bd p);obtain ⟨d4, _⟩ := kE hP low (bd p);obtain ⟨x1, x2⟩ := EC low hP hSi hN hkk hb hob (by omega) d0;obtain ⟨_, hL, x, b, rfl, hxb⟩ := xN (K := K) (v0 := [.agg (bY p), .int .i64 low, .vs 1 (ag at_)]) (r0 := r0) HK hb6 f (by omega) l0 l1 (qq HD hi.1 x2 (by omega)) (qq HD hi.2 d2 (by omega)) (Ab (fun {_ _} hl {_ _} r1 r2 hv => sO hP hSi hN HD l0 l1 hle hl r1 r2 hob hx hv)) (k - 1) (by omega) h h.length;rw [show k - 1 + 1 = k by omega] at hL
    exact .inr (.inr ⟨_, _, x, b, hr.symm, hL, hxb⟩)
   ·rw [he] at hr
    exact .inr (.inl ⟨_, _, hr.symm⟩)
 clear hr0 hkk HK HD hlast hlB hll hle hob hlv e2 hv1 hv2 hb6 l0 l1 q2 q3 q4 q5 hf0;generalize eE (bd p) p.body 0 0 = A at *;generalize (gY p).flatMap ek = B at *;generalize ag (bd p) = L1 at *;generalize ag (kI p) = L2 at *;generalize (2 : Int) ^ cH p = sp at *;obtain ⟨w, vs, body⟩ := p;rcases yn 3 A with ⟨rA, eA⟩ | ⟨_, xA, sA, eA, zA⟩ <;> rcases yn 3 B with ⟨rB, eB⟩ | ⟨_, xB, sB, eB, zB⟩
 case' inl.inl => replace hH1 := hH1 rA; replace hH2 := hH2 rB
 case' inl.inr => replace hH1 := hH1 rA; clear hH2
 case' inr.inl => replace hH2 := hH2 rB; clear hH1
 case' inr.inr => clear hH1 hH2
 all_goals
  rw [eA] at g1;rw [eB] at g2;clear eA eB;rcases hR with ⟨x, ⟨o1, n1, c1, t1⟩, rfl⟩ | ⟨x, ⟨o1, n1, c1, t1⟩, rfl⟩ | ⟨⟨o1, n1, c1, t1⟩, ⟨o2, n2, c2, t2⟩, x, b, rfl, hL, hxb⟩
  case' inr.inr => cases x <;> cases b <;> simp at hxb
  all_goals
   apply ai Tryz.func4 U (Nb U) U U;(repeat' (first | apply ab | refine ah U U ?_ | refine af U U ?_ | refine Wr 0 U U ?_ | (refine Wo 1 U ?_;refine Tc 2 U (Tt U (aa U U U U ‹_›) U ?_) <;> refine Tc 3 U (Tg U (aa U U U U ‹_›) ?_) <;> refine Tf U U U (Tc 3 U (Tt U (aa U U U U ‹_›) U ?_)) <;> refine Tc 4 U (Tg U (aa U U U U ‹_›) ?_) <;> refine Tf U U ‹_› (Tc 3 U (Tf U U U (Tc 3 U (Tf U U ‹_› (Tc 3 U (Tf U U ‹_› (Tc 3 U (Tf U U ‹_› (Tc 4 U (Tt U (aa U U U U ‹_›) U ?_)))))))))) <;> refine Tc 2 U (Tn ?_)) | (refine Wo 3 U ?_;refine Tc 1 U (Tg U (aa U U U U ‹_›) ?_) <;> refine Tc 5 U (Tn ?_)) | (refine Wo 4 U ?_;refine Tc 1 U (Tg U (aa U U U U ‹_›) ?_) <;> refine Tc 7 U (Tn ?_)) | (refine Wo 5 U ?_;refine Tc 3 U (Tg U (aa U U U U ‹_›) ?_) <;> refine Tc 2 U ?_ <;> (refine aK U ?_; first | refine bi U U ?_ | refine aT U U ?_) <;> refine Tc 5 U (Tn ?_)) | (refine Wo 6 U ?_;refine Tc 1 U (Tf U U U (Tc 2 U (Tf U U U (Tc 1 U (Tn ?_)))))) | (refine Wo 8 U ?_;refine Tc 1 U (Tg U (aa U U U U ‹_›) ?_) <;> refine Tc 1 U (Tn ?_)) | (refine Wo 9 U ?_;refine Tc 2 U ?_ <;> (refine aK U ?_; first | refine bi U U ?_ | refine aT U U ?_) <;> refine Tc 6 U ?_ <;> (first | refine au U ?_ | (refine aK U ?_; refine bi (aa U U U U ‹_›) U ?_)) <;> refine Tc 5 U ?_ <;> (refine aK U ?_; first | refine bi U U ?_ | refine aT U U ?_) <;> refine Tc 6 U ?_ <;> (first | refine au U ?_ | (refine aK U ?_; refine bi (aa U U U U ‹_›) U ?_)) <;> refine Tc 3 U (Tn ?_)) | (refine Wo 11 U ?_;refine Tc 1 U ?_ <;> (refine aK U ?_; first | refine bi U U ?_ | refine aT U U ?_) <;> refine Tc 3 U (Tn ?_)) | (refine Wo 12 U ?_;refine Tc 3 U (Tg U (aa U U U U ‹_›) ?_) <;> refine Tc 2 U ?_ <;> (refine aK U ?_; first | refine bi U U ?_ | refine aT U U ?_) <;> refine Tc 3 U (Tn ?_)) | (refine Wo 13 U ?_;refine Tc 7 U (Tt U (aa U U U U ‹_›) U ?_) <;> refine Tc 2 U (Tn ?_)) | (refine Wo 14 U ?_;refine Tt U (aa U U U U ‹_›) U ?_ <;> refine Tc 1 U (Tn ?_)) | apply ak | apply am))
   all_goals exact ⟨.inl rfl, rfl⟩
theorem sR (p : bp) (fuel low : Int) (at_ : List Int) (K : Nat) (hK : K = 2 * bA p.body + p.vars.length + at_.length + 30000) (k : Nat) (hk : 200000 <= k) (hb : lB p) (hal : at_.length < 9223372036854775808) (h : aj) (lo : Nat) :
  call Tryz.prog (bn K [.agg (bY p), .int .i64 low, .vs 1 (ag at_)] (Cu p low at_)) (k + 1) lo (.func 4) [.agg (bY p), .int .i64 fuel, .int .i64 low, .vs 1 (ag at_)] h = some (.bool true, h) :=
 Cv p fuel low at_ _ rfl K hK k hk hb hal h lo
section
variable {H : Type} {enc : TypeId × Value -> H} {P : Program} {w : World} {spare : Nat -> Bool} {held : Bool}
theorem fJ {t : TypeId} {k : IntKind} (ht : P.underlying t = some (.int k)) {fuel : Nat} {cs : List Value} {x : DataW H × List MemPlace} (h : DataW.trod enc P w 0 spare held fuel t cs = some x) : ∃ n : Int, cs = [.int k n] := by
 cases fuel with
 | zero => cases h
 | succ fuel =>
  unfold DataW.trod at h;rw [ht] at h
  split at h <;> first | (cases h; done) | (rename_i e; injection e with e; cases e; done) | skip
  all_goals try (rename_i e; injection e with e; injection e with e; subst e)
  ·split at h
   ·rename_i hc; obtain ⟨hc, _⟩ := hc; subst hc; exact ⟨_, rfl⟩
   ·cases h
theorem EL {t : TypeId} (ht : P.underlying t = some .string) {fuel : Nat} {cs : List Value} {x : DataW H × List MemPlace} (h : DataW.trod enc P w 0 spare held fuel t cs = some x) : ∃ s : ByteArray, cs = [.string s] /\ s.size <= maxLen := by
 cases fuel with
 | zero => cases h
 | succ fuel =>
  unfold DataW.trod at h;rw [ht] at h
  split at h <;> first | (cases h; done) | (rename_i e; injection e with e; cases e; done) | skip
  ·split at h
   ·rename_i hc; exact ⟨_, rfl, hc⟩
   ·cases h
theorem pn {α β : Type} {F : α -> Option β} : ∀ {l : List α} {ys : List β}, l.mapM F = some ys -> ∀ x, x ∈ l -> ∃ y, F x = some y
 | [], _, _, x, hx => by cases hx
 | a :: l, ys, h, x, hx => by
  rw [List.mapM_cons] at h;cases ha : F a with
  | none => rw [ha] at h; cases h
  | some b =>
   rw [ha] at h;cases hl : l.mapM F with
   | none => rw [hl] at h; cases h
   | some bs =>
    rcases List.mem_cons.1 hx with rfl | hx
    ·exact ⟨b, ha⟩
    ·exact pn hl x hx
theorem Ae {t e : TypeId} (ht : P.underlying t = some (.slice e)) {fuel : Nat} {cs : List Value} {x : DataW H × List MemPlace} (h : DataW.trod enc P w 0 spare held (fuel + 1) t cs = some x) :
  cs = [.slice none 0 0] \/ ∃ a len cap, cs = [.slice (some a) len cap] /\ len <= cap /\ cap <= maxLen /\ ∀ i, i < len -> ∃ row y, w.cells? 0 (a.add (i * P.cellsOf e)) (P.cellsOf e) = some row /\ DataW.trod enc P w 0 spare held fuel e row = some y := by
 unfold DataW.trod at h;rw [ht] at h
 split at h <;> first | (cases h; done) | (rename_i e; injection e with e; cases e; done) | skip
 ·exact .inl rfl
 ·rename_i e' a len cap he
  injection he with he; injection he with he; subst he;dsimp only at h
  split at h
  ·rename_i hc
   refine .inr ⟨a, len, cap, rfl, hc.2.1, hc.2.2, fun i hi => ?_⟩
   obtain ⟨elems, h1, h2⟩ := Option.bind_eq_some_iff.1 h;obtain ⟨y, hy⟩ := pn h1 i (List.mem_range.2 hi);obtain ⟨row, h3, h4⟩ := Option.bind_eq_some_iff.1 hy;exact ⟨row, y, h3, h4⟩
  ·cases h
theorem yo {α β : Type} {F : α -> Option β} : ∀ {l : List α} {ys : List β}, l.mapM F = some ys -> ys.length = l.length /\ ∀ (i : Nat) (x : α), l[i]? = some x -> F x = ys[i]?
 | [], ys, h => by simp at h; subst h; simp
 | a :: l, ys, h => by
  rw [List.mapM_cons] at h;cases ha : F a with
  | none => rw [ha] at h; cases h
  | some b =>
   rw [ha] at h;cases hl : l.mapM F with
   | none => rw [hl] at h; cases h
   | some bs =>
    rw [hl] at h;injection h with h;subst h;obtain ⟨h1, h2⟩ := yo hl;refine ⟨by simp [h1], fun i x hx => ?_⟩
    cases i with
    | zero => simp at hx; subst hx; exact ha
    | succ i => simp at hx; simpa using h2 i x hx
theorem po {base : Nat} {a : Addr} {n : Nat} {row : List Value} (h : w.cells? base a n = some row) : row.length = n /\ ∀ j, j < n -> w.cell? (a.add j) = row[j]? := by
 unfold World.cells? at h
 split at h
 ·obtain ⟨h1, h2⟩ := yo h
  refine ⟨by simpa using h1, fun j hj => h2 j j (by simp [hj])⟩
 ·cases h
theorem Af {a : AV} (h : bh a = true) : oneCell a = true := by cases a <;> first | rfl | (cases h; done)
theorem wa {S : Nat -> Prop} (hS : ∀ b, b < w.heap.size -> S b) {t e : TypeId} {sz : Nat} (hsz : P.cellsOf e = sz) (ht : P.underlying t = some (.slice e)) {fuel : Nat} {v : Value} {x : DataW H × List MemPlace} (h : DataW.trod enc P w 0 spare held (fuel + 1) t [v] = some x)
  {α : Type} (C : α -> List AV) (B : α -> Prop) (hrow : ∀ row y, DataW.trod enc P w 0 spare held fuel e row = some y -> ∃ c : α, bH (aX.start w S) (C c) row /\ (∀ a, a ∈ C c -> bh a = true) /\ B c) (h0 : 0 < sz) :
  ∃ l : List α, aD (aX.start w S) (.vs sz (l.map C)) v /\ l.length <= maxLen /\ ∀ c, c ∈ l -> B c := by
 rcases Ae ht h with hv | ⟨a, len, cap, hv, h1, h2, h3⟩
 ·injection hv with hv; subst hv
  exact ⟨[], .vs (.vs (fun _ _ => undef) rfl (Nat.le_refl _) (by simp) (by simp) (by simp) (by simp)), by simp, by simp⟩
 ·injection hv with hv; subst hv
  rw [hsz] at h3;have hall : ∀ i, i < len -> ∃ (row : List Value) (c : α), w.cells? 0 (a.add (i * sz)) sz = some row /\ bH (aX.start w S) (C c) row /\ (∀ a, a ∈ C c -> bh a = true) /\ B c := fun i hi => by
   obtain ⟨row, y, q1, q2⟩ := h3 i hi;obtain ⟨c, q3⟩ := hrow row y q2;exact ⟨row, c, q1, q3⟩
  have hex : ∃ (l : List α), l.length = len /\ ∀ i c, l[i]? = some c -> ∃ row : List Value, w.cells? 0 (a.add (i * sz)) sz = some row /\ bH (aX.start w S) (C c) row /\ (∀ a, a ∈ C c -> bh a = true) /\ B c := by
   clear h h1 h2 h3
   induction len with
   | zero => exact ⟨[], rfl, fun i c hi => by simp at hi⟩
   | succ n ih =>
    obtain ⟨l, q1, q2⟩ := ih (fun i hi => hall i (by omega));obtain ⟨row, c, q3⟩ := hall n (by omega);refine ⟨l ++ [c], by simp [q1], fun i c' hi => ?_⟩
    rcases Nat.lt_or_ge i l.length with hlt | hge
    ·rw [List.getElem?_append_left hlt] at hi; exact q2 i c' hi
    ·rw [List.getElem?_append_right hge] at hi
     have : i - l.length = 0 := by
      rcases Nat.eq_zero_or_pos (i - l.length) with e | e
      ·exact e
      ·rw [List.getElem?_eq_none (by simp; omega)] at hi; cases hi
     rw [this] at hi;simp at hi; subst hi;have : i = n := by omega
     subst this;exact ⟨row, q3⟩
  obtain ⟨l, hl, hl2⟩ := hex;have hcell : ∀ i c j, l[i]? = some c -> j < sz -> ∃ u, w.cell? (a.add (i * sz + j)) = some u /\ ∀ y, (C c)[j]? = some y -> aD (aX.start w S) y u := fun i c j hi hj => by
   obtain ⟨row, q1, q2, _⟩ := hl2 i c hi;obtain ⟨q4, q5⟩ := po q1;have := q5 j hj;rw [jY] at this;refine ⟨row[j], by rw [this]; exact List.getElem?_eq_getElem (by omega), fun y hy => ?_⟩
   obtain ⟨u, q6, q7⟩ := q2.get j y hy;rw [List.getElem?_eq_getElem (by omega)] at q6;injection q6 with q6; rw [q6]; exact q7
  refine ⟨l, .vs (.vs (fun i j => (w.cell? (a.add (i * sz + j))).getD undef) (by simp [hl]) h1 (fun r hr => ?_) (fun _ => ⟨a, rfl⟩) (fun ad had i j hi hj => ?_) (fun i j r y hr hy => ?_)), by omega, fun c hc => ?_⟩
  ·obtain ⟨c, hc, rfl⟩ := List.mem_map.1 hr
   obtain ⟨i, hi⟩ := List.mem_iff_getElem?.1 hc;obtain ⟨row, q1, q2, q3, _⟩ := hl2 i c hi;have := q2.len;exact ⟨by rw [<- this]; exact (po q1).1, fun x hx => Af (q3 x hx)⟩
  ·injection had with had; subst had
   obtain ⟨c, hc⟩ : ∃ c, l[i]? = some c := ⟨l[i], List.getElem?_eq_getElem (by omega)⟩;obtain ⟨u, q1, _⟩ := hcell i c j hc hj;refine ⟨by show w.cell? _ = _; rw [q1]; rfl, hS _ ?_⟩
   have : w.cell? (a.add (i * sz + j)) = some u := q1;unfold World.cell? at this;rw [hZ] at this
   split at this
   ·rename_i hb; exact dq hb
   ·cases this
  ·rw [List.getElem?_map] at hr
   obtain ⟨c, hc, rfl⟩ := Option.map_eq_some_iff.1 hr;obtain ⟨row, q1, q2, _⟩ := hl2 i c hc;have hj : j < sz := by
    have := q2.len;have h4 := (po q1).1;rcases Nat.lt_or_ge j (C c).length with h' | h'
    ·omega
    ·rw [List.getElem?_eq_none h'] at hy; cases hy
   obtain ⟨_, _, _, qs, _⟩ := hl2 i c hc;obtain ⟨u, q3, q4⟩ := hcell i c j hc hj;rw [q3];exact (q4 y hy).toT (qs y (List.mem_of_getElem? hy))
  ·obtain ⟨i, hi⟩ := List.mem_iff_getElem?.1 hc
   obtain ⟨row, _, _, _, q⟩ := hl2 i c hi;exact q
theorem i8 {t : TypeId} {fs : Array Field} (ht : P.underlying t = some (.struct fs)) {fuel : Nat} {cs : List Value} {x : DataW H × List MemPlace} (h : DataW.trod enc P w 0 spare held (fuel + 1) t cs = some x) :
  cs.length = P.cellsOf t /\ ∀ f, f ∈ fs.toList -> ∃ y, DataW.trod enc P w 0 spare held fuel f.type ((cs.drop f.offset).take (P.cellsOf f.type)) = some y := by
 unfold DataW.trod at h;rw [ht] at h
 split at h <;> first | (cases h; done) | (rename_i e; injection e with e; cases e; done) | skip
 ·rename_i he
  injection he with he; injection he with he; subst he
  split at h
  ·rename_i hl
   refine ⟨hl, fun f hf => ?_⟩
   simp only [Option.map_eq_some_iff] at h;obtain ⟨xs, h1, _⟩ := h;exact pn h1 f hf
  ·cases h
 ·exfalso
  have hh : ∀ (fs_1 : Array Field), some (TypeDesc.struct fs) = some (TypeDesc.struct fs_1) -> False := by assumption
  exact hh fs rfl
end
theorem c3 : Tryz.prog.cellsOf 3 = 1 := by kernel_rfl
theorem c26 : Tryz.prog.cellsOf 29 = 1 := by kernel_rfl
theorem c28 : Tryz.prog.cellsOf 31 = 4 := by kernel_rfl
theorem yp : ∀ l : List aF, bc l = l.map cT
 | [] => rfl
 | e :: l => by rw [bc, yp l]; rfl
theorem Bd : ∀ {l : List aF}, (∀ e, e ∈ l -> dP e) -> jg l
 | [], _ => trivial
 | e :: l, h => ⟨h e (List.mem_cons_self ..), Bd fun e he => h e (List.mem_cons_of_mem _ he)⟩
theorem Gg (e : aF) : ∀ a, a ∈ cT e -> bh a = true := by
 obtain ⟨op, n, c, l⟩ := e;intro a ha;rw [cT] at ha;simp only [List.mem_cons, List.not_mem_nil, or_false] at ha;rcases ha with rfl | rfl | rfl | rfl <;> rfl
theorem fK : maxLen < 9223372036854775808 := by decide
section
variable {H : Type} {enc : TypeId × Value -> H} {w : World} {spare : Nat -> Bool} {held : Bool} {S : Nat -> Prop}
theorem mi (hS : ∀ b, b < w.heap.size -> S b) {fuel : Nat} (ih : ∀ row y, DataW.trod enc Tryz.prog w 0 spare held fuel 31 row = some y -> ∃ e : aF, bH (aX.start w S) (cT e) row /\ dP e) {v : Value} {x : DataW H × List MemPlace}
  (h : DataW.trod enc Tryz.prog w 0 spare held (fuel + 1) 29 [v] = some x) : ∃ l : List aF, aD (aX.start w S) (.vs 4 (bc l)) v /\ l.length < 9223372036854775808 /\ jg l := by
 obtain ⟨l, h1, h2, h3⟩ := wa hS c28 Tryz.underlying29 h cT dP (fun row y hy => let ⟨e, a, b⟩ := ih row y hy; ⟨e, a, Gg e, b⟩) (by decide);exact ⟨l, by rw [yp]; exact h1, Nat.lt_of_le_of_lt h2 fK, Bd h3⟩
theorem Cw (hS : ∀ b, b < w.heap.size -> S b) : ∀ (fuel : Nat) (cs : List Value) (x : DataW H × List MemPlace), DataW.trod enc Tryz.prog w 0 spare held fuel 31 cs = some x -> ∃ e : aF, bH (aX.start w S) (cT e) cs /\ dP e := by
 intro fuel
 induction fuel using Nat.strongRecOn with
 | _ fuel ih =>
  intro cs x h;cases fuel with
  | zero => cases h
  | succ fuel =>
   obtain ⟨hl, hf⟩ := i8 Tryz.underlying31 h;rw [c28] at hl
   match cs, hl with
   | [a0, a1, a2, a3], _ =>
    obtain ⟨y0, g0⟩ := hf _ (List.mem_cons_self ..);obtain ⟨y1, g1⟩ := hf _ (List.mem_cons_of_mem _ (List.mem_cons_self ..));obtain ⟨y2, g2⟩ := hf _ (List.mem_cons_of_mem _ (List.mem_cons_of_mem _ (List.mem_cons_self ..)));obtain ⟨y3, g3⟩ := hf _ (List.mem_cons_of_mem _ (List.mem_cons_of_mem _ (List.mem_cons_of_mem _ (List.mem_cons_self ..))));rw [c3] at g0 g1 g2;rw [c26] at g3;obtain ⟨n0, e0⟩ := fJ Tryz.underlying3 g0;obtain ⟨n1, e1⟩ := fJ Tryz.underlying3 g1;obtain ⟨n2, e2⟩ := fJ Tryz.underlying3 g2;simp at e0 e1 e2 g3;subst e0 e1 e2;cases fuel with
    | zero => cases g3
    | succ fuel =>
     obtain ⟨l, r1, r2, r3⟩ := mi hS (ih fuel (by omega)) g3;exact ⟨.mk n0 n1 n2 l, .cons (.int _ _) (.cons (.int _ _) (.cons (.int _ _) (.cons r1 .nil))), r2, r3⟩
theorem Ag (hS : ∀ b, b < w.heap.size -> S b) (fuel : Nat) {v : Value} {x : DataW H × List MemPlace} (h : DataW.trod enc Tryz.prog w 0 spare held fuel 29 [v] = some x) : ∃ l : List aF, aD (aX.start w S) (.vs 4 (bc l)) v /\ l.length < 9223372036854775808 /\ jg l := by
 cases fuel with
 | zero => cases h
 | succ fuel => exact mi hS (Cw hS fuel) h
theorem c86 : Tryz.prog.cellsOf 64 = 5 := by kernel_rfl
theorem c23 : Tryz.prog.cellsOf 23 = 1 := by kernel_rfl
theorem yq : ∀ l : List ay, br l = l.map ig
 | [] => rfl
 | e :: l => by rw [br, yq l]; rfl
theorem Be : ∀ {l : List ay}, (∀ e, e ∈ l -> kP e) -> eQ l
 | [], _ => trivial
 | e :: l, h => ⟨h e (List.mem_cons_self ..), Be fun e he => h e (List.mem_cons_of_mem _ he)⟩
theorem Gh (e : ay) : ∀ a, a ∈ ig e -> bh a = true := by
 obtain ⟨op, n, l, t, e⟩ := e;intro a ha;rw [ig] at ha;simp only [List.mem_cons, List.not_mem_nil, or_false] at ha;rcases ha with rfl | rfl | rfl | rfl | rfl <;> rfl
theorem jm (hS : ∀ b, b < w.heap.size -> S b) {fuel : Nat} (ih : ∀ row y, DataW.trod enc Tryz.prog w 0 spare held fuel 64 row = some y -> ∃ e : ay, bH (aX.start w S) (ig e) row /\ kP e) {v : Value} {x : DataW H × List MemPlace}
  (h : DataW.trod enc Tryz.prog w 0 spare held (fuel + 1) 23 [v] = some x) : ∃ l : List ay, aD (aX.start w S) (.vs 5 (br l)) v /\ l.length < 9223372036854775808 /\ eQ l := by
 obtain ⟨l, h1, h2, h3⟩ := wa hS c86 Tryz.underlying23 h ig kP (fun row y hy => let ⟨e, a, b⟩ := ih row y hy; ⟨e, a, Gh e, b⟩) (by decide);exact ⟨l, by rw [yq]; exact h1, Nat.lt_of_le_of_lt h2 fK, Be h3⟩
theorem Cx (hS : ∀ b, b < w.heap.size -> S b) : ∀ (fuel : Nat) (cs : List Value) (x : DataW H × List MemPlace), DataW.trod enc Tryz.prog w 0 spare held fuel 64 cs = some x -> ∃ e : ay, bH (aX.start w S) (ig e) cs /\ kP e := by
 intro fuel
 induction fuel using Nat.strongRecOn with
 | _ fuel ih =>
  intro cs x h;cases fuel with
  | zero => cases h
  | succ fuel =>
   obtain ⟨hl, hf⟩ := i8 Tryz.underlying64 h;rw [c86] at hl
   match cs, hl with
   | [a0, a1, a2, a3, a4], _ =>
    obtain ⟨y0, g0⟩ := hf _ (List.mem_cons_self ..);obtain ⟨y1, g1⟩ := hf _ (List.mem_cons_of_mem _ (List.mem_cons_self ..));obtain ⟨y2, g2⟩ := hf _ (List.mem_cons_of_mem _ (List.mem_cons_of_mem _ (List.mem_cons_self ..)));obtain ⟨y3, g3⟩ := hf _ (List.mem_cons_of_mem _ (List.mem_cons_of_mem _ (List.mem_cons_of_mem _ (List.mem_cons_self ..))));obtain ⟨y4, g4⟩ := hf _ (List.mem_cons_of_mem _ (List.mem_cons_of_mem _ (List.mem_cons_of_mem _ (List.mem_cons_of_mem _ (List.mem_cons_self ..)))));rw [c3] at g0 g1;rw [c26] at g2;rw [c23] at g3 g4;obtain ⟨n0, e0⟩ := fJ Tryz.underlying3 g0;obtain ⟨n1, e1⟩ := fJ Tryz.underlying3 g1;simp at e0 e1 g2 g3 g4;subst e0 e1;obtain ⟨l, r1, r2, r3⟩ := Ag hS fuel g2;cases fuel with
    | zero => cases g3
    | succ fuel =>
     obtain ⟨t, t1, t2, t3⟩ := jm hS (ih fuel (by omega)) g3;obtain ⟨e, u1, u2, u3⟩ := jm hS (ih fuel (by omega)) g4;exact ⟨.mk n0 n1 l t e, .cons (.int _ _) (.cons (.int _ _) (.cons r1 (.cons t1 (.cons u1 .nil)))), ⟨r2, r3⟩, ⟨t2, t3⟩, u2, u3⟩
theorem c76 : Tryz.prog.cellsOf 111 = 3 := by kernel_rfl
theorem c22 : Tryz.prog.cellsOf 22 = 1 := by kernel_rfl
theorem c9 : Tryz.prog.cellsOf 9 = 1 := by kernel_rfl
theorem c25 : Tryz.prog.cellsOf 25 = 3 := by kernel_rfl
theorem EM (fuel : Nat) (cs : List Value) (x : DataW H × List MemPlace) (h : DataW.trod enc Tryz.prog w 0 spare held fuel 111 cs = some x) : ∃ e : bk, bH (aX.start w S) (E5 e) cs /\ (∀ a, a ∈ E5 e -> bh a = true) /\ vrB e := by
 cases fuel with
 | zero => cases h
 | succ fuel =>
  obtain ⟨hl, hf⟩ := i8 Tryz.underlying111 h;rw [c76] at hl
  match cs, hl with
  | [a0, a1, a2], _ =>
   obtain ⟨y0, g0⟩ := hf _ (List.mem_cons_self ..);obtain ⟨y1, g1⟩ := hf _ (List.mem_cons_of_mem _ (List.mem_cons_self ..));obtain ⟨y2, g2⟩ := hf _ (List.mem_cons_of_mem _ (List.mem_cons_of_mem _ (List.mem_cons_self ..)));rw [c9] at g0;rw [c3] at g1 g2;obtain ⟨n0, e0, hn⟩ := EL Tryz.underlying9 g0;obtain ⟨n1, e1⟩ := fJ Tryz.underlying3 g1;obtain ⟨n2, e2⟩ := fJ Tryz.underlying3 g2;simp at e0 e1 e2;subst e0 e1 e2;refine ⟨⟨n0, n1, n2⟩, .cons (.str _) (.cons (.int _ _) (.cons (.int _ _) .nil)), fun a ha => ?_, Nat.lt_of_le_of_lt hn fK⟩
   simp only [E5, List.mem_cons, List.not_mem_nil, or_false] at ha;rcases ha with rfl | rfl | rfl <;> rfl
theorem Cy (hS : ∀ b, b < w.heap.size -> S b) (fuel : Nat) (cs : List Value) (x : DataW H × List MemPlace) (h : DataW.trod enc Tryz.prog w 0 spare held fuel 25 cs = some x) : ∃ p : bp, bH (aX.start w S) (bY p) cs /\ lB p := by
 cases fuel with
 | zero => cases h
 | succ fuel =>
  obtain ⟨hl, hf⟩ := i8 Tryz.underlying25 h;rw [c25] at hl
  match cs, hl with
  | [a0, a1, a2], _ =>
   obtain ⟨y0, g0⟩ := hf _ (List.mem_cons_self ..);obtain ⟨y1, g1⟩ := hf _ (List.mem_cons_of_mem _ (List.mem_cons_self ..));obtain ⟨y2, g2⟩ := hf _ (List.mem_cons_of_mem _ (List.mem_cons_of_mem _ (List.mem_cons_self ..)));rw [c3] at g0;rw [c22] at g1;rw [c23] at g2;obtain ⟨n0, e0⟩ := fJ Tryz.underlying3 g0;simp at e0 g1 g2;subst e0;cases fuel with
   | zero => cases g1
   | succ fuel =>
    obtain ⟨vs, v1, v2, v3⟩ := wa hS c76 Tryz.underlying22 g1 E5 vrB (fun row y hy => EM (S := S) fuel row y hy) (by decide);obtain ⟨l, r1, r2, r3⟩ := jm hS (Cx hS fuel) g2;exact ⟨⟨n0, vs, l⟩, .cons (.int _ _) (.cons v1 (.cons r1 .nil)), ⟨Nat.lt_of_le_of_lt v2 fK, v3⟩, r2, r3⟩
end
section
variable {H : Type} {enc : TypeId × Value -> H} {w : World} {spare : Nat -> Bool} {held : Bool} {S : Nat -> Prop}
theorem Cz : Tryz.prog.cellsOf 3 = 1 := by kernel_rfl
theorem CB (hS : ∀ b, b < w.heap.size -> S b) (fuel : Nat) {v : Value} {x : DataW H × List MemPlace} (h : DataW.trod enc Tryz.prog w 0 spare held fuel 26 [v] = some x) : ∃ l : List Int, aD (aX.start w S) (.vs 1 (ag l)) v /\ l.length < 9223372036854775808 := by
 cases fuel with
 | zero => cases h
 | succ fuel =>
  obtain ⟨l, h1, h2, _⟩ := wa hS Cz Tryz.underlying26 h (fun n : Int => [AV.int .i64 n]) (fun _ => True) (fun row y hy => by
   obtain ⟨n, e⟩ := fJ Tryz.underlying3 hy;subst e;exact ⟨n, .cons (.int _ _) .nil, fun a ha => by simp at ha; subst ha; rfl, trivial⟩) (by decide)
  exact ⟨l, h1, Nat.lt_of_le_of_lt h2 fK⟩
end
end Go.Proofs.YtelobnllkhnpaaaGreat.L
