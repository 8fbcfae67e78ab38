/- A run on its way, in the reference: a step. -/
import Derived.Test.YtelobnllkhnpaaaGreatK6
set_option linter.unusedVariables false
set_option linter.unusedSimpArgs false
set_option maxHeartbeats 40000000
set_option maxRecDepth 1000000
open Go Go.Proofs Go.Ev Go.Proofs.YtelobnllkhnpaaaGreat.E
namespace Go.Proofs.YtelobnllkhnpaaaGreat.L
theorem vU {s : St} {t id sz len T : Nat} {xs : List AV} {rows : List (List AV)} (hl : Go.Ev.look s.env t = some (.v (.sl id sz 0 len))) (hh : s.heap[id]? = some (.cells T xs)) (hc : s.lo <= id /\ 0 + len * sz = xs.length /\ xs.all bh = true /\ cv sz len xs = rows) :
  b7 [t] s = { s with env := (t, .v (.vs sz rows)) :: s.env, heap := s.heap.set id .dead } := by
 obtain ⟨c1, c2, c3, c4⟩ := hc;rw [b7, b7];unfold jW;rw [hl];dsimp only;rw [hh];dsimp only;rw [if_pos ⟨c1, c2, c3⟩, List.drop_zero, c4]
theorem B3 {T : Nat} {h : aj} {id : Nat} {xs : List AV} (hh : h[id]? = some (.cells T xs)) : xC T h (h.set id .dead) := by
 refine ⟨by simp, fun id' o h1 hn => ?_⟩
 by_cases e : id = id'
 ·subst e
  rw [hh] at h1;injection h1 with h1;exact absurd h1.symm (hn _)
 ·rw [List.getElem?_set_ne e]; exact h1
theorem FG {K : Nat} {v0 : List AV} {r0 : AV} {lo : Nat} {h : aj} (hlo : lo <= h.length) {vA : AV} {V : List Int} (ho : ff h lo 3 1 vA (ag V)) (x : Int) (hl : V.length < 100000) :
  ∃ vA' h', append (bn K v0 r0).tab lo h 26 vA (.vs 1 [[.int .i64 x]]) = some (vA', h') /\ ff h' lo 3 1 vA' (ag (V ++ [x])) /\ xC 3 h h' := by
 obtain ⟨a', h', q1, q2, q3⟩ := nO (tab := ba.tab) (t := 26) (T := 3) rfl rfl (by decide) hlo ho (ag [x]) (fun r hr => (ij _ r hr).1) (by rw [bw, bw]; show (V.length + 1) * 8 <= _; simp only [ca]; omega) (by rw [bw, bw]; simp only [ca, List.length_cons, List.length_nil]; omega);refine ⟨a', h', q1, ?_, q3⟩;have e : ag (V ++ [x]) = ag V ++ ag [x] := by simp [ag]
 rw [e]; exact q2
def stpS (lo : Nat) (p : bp) (pk : List Int) (it : List AV) (e : Int) (st oA : AV) (u wh fu : Int) (tv : AV) (ov : Bool) (nx : AV) (i : Int) (a : AV × AV × Int × aj) : St :=
 {env := [(1, .v (.vs 1 (ag pk))), (3, .p 3 0), (5, .p 5 0), (6, .p 6 0), (7, .p 7 0), (8, .v nx), (9, .v a.1), (10, .v (.int .i64 i))],
  loc := [(3, bY p), (5, iC e st oA a.2.1 a.2.2.1 u wh fu tv ov), (6, [.int .i64 0, .nils, .nils, .nils, .int .i64 0, .int .i64 0, .int .i64 0, .int .i64 0, .nils, .bool false]), (7, it)], heap := a.2.2.2, inRound := false, lo := lo }
theorem B4 {K : Nat} {v0 : List AV} {r0 : AV} (h : aj) (lo : Nat) (hlo : lo <= h.length) (N : List (Int × ay)) (hl : N.length < 100000) :
  ∃ r, append (bn K v0 r0).tab lo (h ++ [ap.cells 92 []]) 89 (.sl h.length 6 0 0) (.vs 6 (N.map bF)) = some r /\ fm lo r = (.vs 6 (N.map bF), h ++ [ap.dead]) := by
 refine ⟨(.sl h.length 6 0 (0 + N.length), (h ++ [ap.cells 92 []]).set h.length (.cells 92 ([] ++ (N.map bF).flatten))), ?_, ?_⟩
 ·show append ba.tab _ _ _ _ _ = _
  unfold append;have e1 : Go.Ev.look ba.tab 89 = some ⟨.slice 92, 1, 24, [.nils]⟩ := rfl;have e2 : ∃ zr, Go.Ev.look ba.tab 92 = some ⟨.struct [(0, 3), (1, 64)], 6, 96, zr⟩ := ⟨_, rfl⟩;obtain ⟨zr, e2⟩ := e2;rw [e1];dsimp only;rw [e2];have e3 : fh (h ++ [ap.cells 92 []]) 6 (.vs 6 (N.map bF)) = some (N.map bF).flatten := by simp [fh]
  dsimp only;rw [e3];simp only [lenOf, List.length_map];have hg : (h ++ [ap.cells 92 []])[h.length]? = some (.cells 92 []) := by simp
  rw [hg];dsimp only;rw [if_pos ⟨hlo, by trivial, by trivial, by trivial, by trivial, by decide, by simp only [ca]; omega, by simp only [ca]; omega⟩]
 ·unfold fm
  dsimp only;have hg : ((h ++ [ap.cells 92 []]).set h.length (.cells 92 ([] ++ (N.map bF).flatten)))[h.length]? = some (.cells 92 ([] ++ (N.map bF).flatten)) := by simp
  rw [hg];dsimp only;rw [List.nil_append, if_pos ⟨hlo, by rw [sb]; omega, mO _⟩, Nat.zero_add, List.drop_zero, mN]
  simp
theorem uE : ∀ l : List aF, l.length <= dn l
 | [] => Nat.le_refl _
 | e :: l => by have := uE l; have := AA e; rw [dn, List.length_cons]; omega
structure nQ (p : bp) (K : Nat) (m : Mc) : Prop where
 st : eG p.width.toNat p.vars m.st
 todo : ∀ x, x ∈ m.todo -> me p K x
 outs : m.outs.length + m.fuel <= 200
 u : m.u + m.fuel <= 200
 len : m.todo.length + m.fuel * 700 <= 50000
theorem DP {K : Nat} {v0 : List AV} {r0 : AV} {p : bp} (H : pQ p) (hK : 1000 <= K) {pk : List Int} (m : Mc) (G : nQ p K m) (hov : m.over = false) {x : Int × ay} {rest : List (Int × ay)} (htd : m.todo = x :: rest)
  {k : Nat} (hk : 1200 <= k) {h : aj} {lo B : Nat} (hlo : lo <= h.length) (hB2 : B <= 800000) {a : List AV} (hr : B2 h lo B m a) :
  ∃ a' h', call Tryz.prog (bn K v0 r0) (k + 1) lo (.func 142) [.agg (bY p), .vs 1 (ag pk), .agg a] h = some (.agg a', h') /\ B2 h' lo (B + 1000) (eJ p.width.toNat p.vars pk m) a' /\ lo <= h'.length := by
 obtain ⟨oA, tA, c, wh, tv, trs, rfl, ho, ht, htv, hB⟩ := hr;have htv := htv hov;rw [htd] at htv;have htv : tv = .vs 6 ((x :: rest).map bF) := by
  rcases htv with h | ⟨h, _⟩
  ·exact h
  ·cases h
 subst htv;have hGx := G.todo x (by rw [htd]; simp);have hend := dk (k := k) (v0 := v0) (r0 := r0) rfl rfl (oX (e := m.e) (st := .vs 1 (ag m.st)) (oA := oA) (tA := tA) (c := c) (u := m.u) (wh := wh) (fu := m.fuel) (tv := .vs 6 ((x :: rest).map bF)) (ov := m.over) (b := false) (.inr (.inr ⟨hov, _, rfl, rfl⟩)) (K - 1) h lo) (by omega);rw [show K - 1 + 1 = K by omega] at hend
 obtain ⟨n, op, nn, ar, tt, el⟩ := x;have hrow0 := hGx.1;dsimp only at hrow0;have hform := oY H hrow0;obtain ⟨_, hsmB, hsmN, hsmK⟩ := hGx;dsimp only at hsmB hsmN hsmK;rw [kP] at hsmB;rw [jw] at hsmN;rw [iy] at hsmK;obtain ⟨⟨hal, haB⟩, _⟩ := hsmB;have hln := bB ar;have hlN := uE ar;have hGl := G.len;have hGu := G.u;have hGo := G.outs;rw [htd, List.length_cons] at hGl
 suffices hs : ∃ out, call Tryz.prog (bn K v0 r0) (k + 1) lo (.func 142) [.agg (bY p), .vs 1 (ag pk), .agg (iC m.e (.vs 1 (ag m.st)) oA tA c m.u wh m.fuel (.vs 6 (((n, ay.mk op nn ar tt el) :: rest).map bF)) m.over)] h = some out /\ ∃ a', out.1 = .agg a' /\ B2 out.2 lo (B + 1000) (eJ p.width.toNat p.vars pk m) a' /\ lo <= out.2.length by
  obtain ⟨⟨o1, o2⟩, h1, a', h2, h3, h4⟩ := hs;dsimp only at h2 h3 h4;subst h2;exact ⟨a', o2, h1, h3, h4⟩
 by_cases hf : m.fuel = 0
 ·have hz : ((m.fuel : Int) == 0) = true := by rw [hf]; rfl
  have hst := nP (K := K) (v0 := v0) (r0 := r0) (e := m.e) (c := c) (u := m.u) (wh := wh) (fu := m.fuel) (st := .vs 1 (ag m.st)) (oA := oA) (tA := tA) (tv := .vs 6 (((n, ay.mk op nn ar tt el) :: rest).map bF)) (ov := m.over) 3 n (k - 1) h lo;rw [show k - 1 + 1 = k by omega] at hst
  have e1 : eJ p.width.toNat p.vars pk m = { m with e := 3, todo := [], over := true } := by
   unfold eJ;rw [htd];dsimp only;rw [if_pos hf]
  rw [e1];obtain ⟨w, vs, body⟩ := p;apply cY Tryz.func142 U (Nb U) U U;(repeat' (first | apply ab | refine ah U U ?_ | refine af U U ?_ | refine Wr 0 U U ?_ | (refine Wo 1 U ?_;refine Tc 1 U (Tf U (aa U U U U ‹_›) U ?_) <;> refine Tn ?_) | (refine Wo 3 U ?_;refine Tc 2 U (Tg U U (Tg U U (Tc 1 U (Tg U U (Tn ?_)))))) | (refine Wo 4 U ?_;refine Tc 2 U (Tt U U ‹_› (Tn ?_))) | (refine Wo 5 U ?_;refine Tc 3 U (Tg U (aa U U U U ‹_›) ?_) <;> refine Tg U U (Tn ?_)) | apply ak | apply am));exact ⟨.inl rfl, _, rfl, _, rfl, ⟨oA, tA, c, n, _, trs, rfl, ho, ht, fun e => (by cases e), by omega⟩, hlo⟩
 ·have hz : ((m.fuel : Int) == 0) = false := by simpa using hf
  have hsl : (0 : Int) <= 1 /\ (1 : Int) <= ((((n, ay.mk op nn ar tt el) :: rest).map bF).length : Int) := ⟨by omega, by rw [List.length_map, List.length_cons]; omega⟩
  obtain ⟨r7, hap7, hborn7⟩ := B4 (K := K) (v0 := v0) (r0 := r0) h lo hlo rest (by omega);have hwf : IntKind.i64.wrap ((m.fuel : Int) - 1) = ((m.fuel - 1 : Nat) : Int) := by rw [eo (by omega) (by omega)]; omega
  have e1 : eJ p.width.toNat p.vars pk m = kz p.vars pk { m with fuel := m.fuel - 1, todo := rest } (n, .mk op nn ar tt el) (ar.map (aY p.width.toNat p.vars [m.st])) := by
   unfold eJ;rw [htd];dsimp only;rw [if_neg hf]
  rw [e1];have hitem : me p K (n, .mk op nn ar tt el) := G.todo _ (by rw [htd]; simp);have hact : ∀ (vA tA2 : AV) (c2 : Int) (H2 : aj) (trs2 : List vS), lo <= H2.length -> ff H2 lo 218 2 oA (cj m.outs) -> ff H2 lo 224 3 tA2 (cN trs2) -> trs2.length <= B + 700 ->
    ∃ a' h', call Tryz.prog (bn K v0 r0) k lo (.func 166) [.agg (bY p), .vs 1 (ag pk), .agg (iC m.e (.vs 1 (ag m.st)) oA tA2 c2 m.u wh (IntKind.i64.wrap ((m.fuel : Int) - 1)) (.vs 6 (rest.map bF)) m.over), .agg (bF (n, .mk op nn ar tt el)), bg 1 (ag (ar.map (aY p.width.toNat p.vars [m.st]))), .vs 6 (rest.map bF)] H2 =
     some (.agg a', h') /\ B2 h' lo (B + 1000) (kz p.vars pk { m with fuel := m.fuel - 1, todo := rest } (n, .mk op nn ar tt el) (ar.map (aY p.width.toNat p.vars [m.st]))) a' /\ lo <= h'.length := fun vA tA2 c2 H2 trs2 g1 g2 g3 g4 => by
   obtain ⟨a', h', w1, w2, w3⟩ := FF (K := K) (v0 := v0) (r0 := r0) H hK (pk := pk) { m with fuel := m.fuel - 1, todo := rest } (n, .mk op nn ar tt el) hitem G.st hov (by show m.u < 900; omega) (by show rest.length <= 60000; omega) (by show m.outs.length <= 900; omega) (k := k - 1) (by omega) (B := B + 700) g1 (c := c2) (wh := wh) g2 g3 g4 (by omega) _ rfl;rw [show k - 1 + 1 = k by omega] at w1
   refine ⟨a', h', ?_, ?_, w3⟩
   ·rw [hwf, hov]; exact w1
   ·obtain ⟨q1, q2, q3, q4, q5, q6, q7, q8, q9, q10, q11⟩ := w2
    exact ⟨q1, q2, q3, q4, q5, q6, q7, q8, q9, q10, by omega⟩
  have hcall : ∀ (e : aF), e ∈ ar -> ∀ (i : Nat), ar[i]? = some e -> ∀ (H1 : aj) (l1 : Nat),
    call Tryz.prog (bn K v0 r0) k l1 (.func 106) [.int .i64 p.width, .vs 3 (ii p.vars), .vs 1 [[.vs 1 (ag m.st)]], .agg (cT e)] H1 = some (.int .i64 (aY p.width.toNat p.vars [m.st] e), H1) /\
    call Tryz.prog (bn K v0 r0) k l1 (.func 164) [.agg (cT e)] H1 = some (.int .i64 (kq e), H1) /\
    call Tryz.prog (bn K v0 r0) k l1 (.func 165) [.int .i64 p.width, .vs 3 (ii p.vars), .vs 1 (ag m.st), .agg (cT e)] H1 = some (bg 3 (cN (DF p.width.toNat p.vars m.st e)), H1) /\ (DF p.width.toNat p.vars m.st e).length <= l8 e := fun e he i hi H1 l1 => by
   have hKe := ie ar i _ hi;have hBe := bL ar i _ haB hi;have hNe := rX hi;have q1 := jJ H.hd (S := [m.st]) (by simpa using G.st) K e (by omega) hBe (hform e he) H1 l1;have q3 := rY H.hd G.st K e (by omega) hBe (by omega) (hform e he) H1 l1;rw [H.w] at q1 q3;exact ⟨dk rfl rfl q1 (by omega), dk rfl rfl (rT K e (by omega) hBe H1 l1) (by omega), dk rfl rfl q3 (by omega), AI _ _ _ e⟩
  have hst0 := G.st;clear G e1 hform;generalize hvf : aY p.width.toNat p.vars [m.st] = vf at *;generalize hef : DF p.width.toNat p.vars m.st = ef at *;obtain ⟨w, vs, body⟩ := p;dsimp only at hact hcall;apply cY Tryz.func142 U (Nb U) U U;(repeat' (first | apply ab | refine af U U ?_ | refine Wr 0 U U ?_ | (refine Wo 1 U ?_;refine Tc 1 U (Tf U (aa U U U U ‹_›) U ?_) <;> refine Tn ?_) | (refine Wo 3 U ?_;refine Tc 2 U (Tg U U (Tg U U (Tc 1 U (Tg U U (Tn ?_)))))) | (refine Wo 4 U ?_;refine Tc 2 U (Tf U U ‹_› (Tn ?_))) | (refine Wo 6 U ?_;refine Tc 2 U (Tg U (Fv U U U U U ‹_›) ?_) <;> refine Tc 1 U (Tn ?_)) | (refine Wo 7 U ?_;refine Tc 2 U (Tg U (dN U U U U U ‹_› U ‹_›) ?_) <;> refine Tc 1 U (Tg U U (Tn ?_))) | (refine Wo 8 U ?_;refine Tc 4 U (Tg U U (Tn ?_))) | (refine Wo 9 U ?_;refine Tc 6 U (Tg U U (Tn ?_))) | refine Wr 10 U U ?_ | refine Wr 11 U U ?_ | apply ak | apply ae));apply aS (S := stpS lo ⟨w, vs, body⟩ pk (bF (n, .mk op nn ar tt el)) m.e (.vs 1 (ag m.st)) oA m.u wh (IntKind.i64.wrap ((m.fuel : Int) - 1)) (.vs 6 (rest.map bF)) m.over (.vs 6 (rest.map bF))) (l := ar) (a0 := (.nils, tA, IntKind.i64.wrap (c + 1), h ++ [ap.dead]))
   (fun i rst a => ∃ trs2, ff a.2.2.2 lo 3 1 a.1 (ag ((ar.take i).map vf)) /\ ff a.2.2.2 lo 224 3 a.2.1 (cN trs2) /\ ff a.2.2.2 lo 218 2 oA (cj m.outs) /\ trs2.length + dn rst <= B + dn ar /\ lo <= a.2.2.2.length)
   hal (by omega) rfl ⟨trs, .inl ⟨rfl, rfl⟩, ht.pre, ho.pre, by show trs.length + dn ar <= _; omega, by show lo <= (h ++ [ap.dead]).length; rw [List.length_append]; omega⟩
  ·rintro i e rst ⟨vA, tA2, c2, H2⟩ hi hd hil hJ
   obtain ⟨trs2, j1, j2, j3, j4, j5⟩ := hJ;dsimp only at j1 j2 j3 j4 j5;rw [dn] at j4;have hrow := bQ _ _ _ hi;have hlt := di hil;have hmem : e ∈ ar := List.mem_of_getElem? hi;obtain ⟨vA', H3, a1, a2, a3⟩ := FG (K := K) (v0 := v0) (r0 := r0) j5 j1 (vf e) (by rw [List.length_map, List.length_take]; omega);have hV := (hcall e hmem i hi H2 lo).1;obtain ⟨_, hNd, hEv, hEl⟩ := hcall e hmem i hi H3 H3.length;obtain ⟨tA3, H4, b1, b2, b3⟩ := DI (K := K) (v0 := v0) (r0 := r0) (lo := lo) (h := H3) (Nat.le_trans j5 a3.len) (j2.keep a3 (by decide)) (ef e) (by omega);have hz3 := b2.cell;have htk : (ar.take i).map vf ++ [vf e] = (ar.take (i + 1)).map vf := by
    rw [List.take_add_one, hi]; simp
   rw [htk] at a2;obtain ⟨op', n', cp', es'⟩ := e;(repeat' (first | apply ab | refine ah U U ?_ | (refine Wo 12 U ?_;refine Tc 5 U (Tt U U ‹_› (Tn ?_))) | (refine Wo 14 U ?_;refine Tc 4 U (Tg U (aq U U U U U ‹_›) ?_) <;> refine Tg U U (Tc 1 U (Tg U U (Tn ?_)))) | (refine Wo 15 U ?_;refine Tc 10 U (Tg U (aa U U U U ‹_›) ?_) <;> refine Tc 1 U (Tg U (aN U U U U U ‹_›) ?_) <;> refine Tc 1 U (Tn ?_)) | (refine Wd 16 [0,1,3,0,8,31,63,127,255] U U (by decide +kernel) ?_;refine Uf U U U (Uf U U U (Uf U U U (Uf U U U (Uf U (aa U U U U ‹_›) U ?_)))) <;> refine Uo U U (Uo U U (Uo U U (Uo U U (Un ?_))))) | (refine Wd 17 [0,1,3,0,8,0,32,0,128,384,0,2040,4095,8191,16383,32767] U U (by decide +kernel) ?_;refine Uf U U U (Uf U U U (Uf U U U (Uf U U U (Uf U U U (Uf U U U (Uf U U U (Uf U U U (Uf U U U (Uf U U U (Uf U U U (Uf U (aa U U U U ‹_›) U ?_))))))))))) <;> refine Uo U (aN U U U U U ‹_›) ?_ <;> refine Uo U U (Uo U U (Uo U (gx U U U U ‹_› U ⟨U, Nb U⟩) ?_)) <;> refine Un ?_) | refine Wr 13 U U ?_ | apply ak | apply ae))
   exact ⟨(vA', tA3, _, H4), rfl, trs2 ++ ef (.mk op' n' cp' es'), a2.keep b3 (by decide), b2, (j3.keep a3 (by decide)).keep b3 (by decide), by rw [List.length_append]; omega, Nat.le_trans (Nat.le_trans j5 a3.len) b3.len⟩
  ·rintro ⟨vA, tA2, c2, H2⟩ hJ
   obtain ⟨trs2, j1, j2, j3, j4, j5⟩ := hJ;dsimp only at j1 j2 j3 j4 j5;rw [dn] at j4;rw [List.take_length] at j1;have hlt := dj (l := ar);rcases j1 with ⟨rfl, g2⟩ | ⟨id, rfl, g2, g3, g4⟩
   ·obtain ⟨a', h', w1, ⟨oA', tA', c', wh', tv', trs', rfl, r1, r2, r3, r4⟩, w3⟩ := hact .nils tA2 c2 H2 trs2 j5 j3 j2 (by omega)
    rw [g2] at w1;(repeat' (first | apply ab | refine af U U ?_ | (refine Wo 12 U ?_;refine Tc 5 U (Tf U U ‹_› (Tn ?_))) | (refine y9 (id := 18) (by first | assumption | exact frz_one U ‹_› ‹_› | exact vU U ‹_› ‹_› | rfl) ?_ <;> refine Tc 6 U (Tg U (aa U U U U ‹_›) ?_) <;> refine Tg U U (Tn ?_)) | apply am | apply aC));exact ⟨.inl rfl, _, rfl, _, rfl, ⟨oA', tA', c', wh', tv', trs', rfl, r1, r2, r3, r4⟩, w3⟩
   ·have hkd := B3 g2
    obtain ⟨a', h', w1, ⟨oA', tA', c', wh', tv', trs', rfl, r1, r2, r3, r4⟩, w3⟩ := hact .nils tA2 c2 (H2.set id .dead) trs2 (by rw [List.length_set]; exact j5) (j3.keep hkd (by decide)) (j2.keep hkd (by decide)) (by omega);rw [qi] at g2;have haV : bg 1 (ag (ar.map vf)) = .vs 1 (ag (ar.map vf)) := by
     cases hX : ag (ar.map vf) with
     | nil => exact absurd hX g4
     | cons x X => rfl
    rw [haV] at w1;have hfrz : lo <= id /\ 0 + (ag (ar.map vf)).length * 1 = (ic (ar.map vf)).length /\ (ic (ar.map vf)).all bh = true /\ cv 1 (ag (ar.map vf)).length (ic (ar.map vf)) = ag (ar.map vf) := ⟨g3, by rw [bw, fE]; omega, jz _, by rw [bw]; exact ik _⟩
    (repeat' (first | apply ab | refine af U U ?_ | (refine Wo 12 U ?_;refine Tc 5 U (Tf U U ‹_› (Tn ?_))) | (refine y9 (id := 18) (by first | assumption | exact frz_one U ‹_› ‹_› | exact vU U ‹_› ‹_› | rfl) ?_ <;> refine Tc 6 U (Tg U (aa U U U U ‹_›) ?_) <;> refine Tg U U (Tn ?_)) | apply am | apply aC));exact ⟨.inl rfl, _, rfl, _, rfl, ⟨oA', tA', c', wh', tv', trs', rfl, r1, r2, r3, r4⟩, w3⟩
def nR (s pk : List Int) : List AV := [.vs 1 (ag s), .vs 1 (ag pk)]
def xF (p : bp) (fuel : Nat) (s : List Int) : Mc := { e := 0, st := s, outs := [], u := 0, fuel := fuel, todo := bj p.body 0, over := false }
theorem oZ {K : Nat} {v0 : List AV} {r0 : AV} (hK : 1000 <= K) (h : aj) {lo : Nat} (hlo : lo <= h.length) (s : List Int) (hne : s ≠ []) (hl : s.length < 500) (k : Nat) (hk : 1 <= k) :
  ∃ r, call Tryz.prog (bn K v0 r0) k lo (.func 139) [.vs 1 (ag s)] h = some r /\ fm lo r = (.vs 1 (ag s), h ++ [ap.dead]) := by
 have hc := oW s (by omega) (K - 1) (by omega) h lo hlo;rw [show K - 1 + 1 = K by omega, mI hne, mJ hne] at hc
 refine ⟨_, dk rfl rfl hc hk, ?_⟩;unfold fm;dsimp only;have hg : (h ++ [ap.cells 3 (ic s)])[h.length]? = some (.cells 3 (ic s)) := by simp
 rw [hg];dsimp only;rw [if_pos ⟨hlo, by rw [fE]; omega, jz _⟩, List.drop_zero, ik]
 simp
theorem B5 {K : Nat} {v0 : List AV} {r0 : AV} {p : bp} (hK : 1000 <= K) (hKb : bA p.body <= K) (hbl : p.body.length < 1000) (hb : eQ p.body) (fuel : Nat) (s pk : List Int) (hne : s ≠ []) (hl : s.length < 500) {k : Nat} (hk : 1200 <= k) (h : aj) (lo : Nat) :
  ∃ d tv, call Tryz.prog (bn K v0 r0) (k + 1) lo (.func 140) [.agg (bY p), .int .i64 fuel, .agg (nR s pk)] h = some (.agg (iC 0 (.vs 1 (ag s)) .nils .nils 0 0 0 fuel tv false), h ++ d) /\ te tv (bj p.body 0) := by
 obtain ⟨r, hc, hborn⟩ := oZ (K := K) (v0 := v0) (r0 := r0) hK h (Nat.le_refl _) s hne hl k (by omega);have hi := mL (K := K) (v0 := v0) (r0 := r0) p.body 0 hKb hbl hb (k - 1) (by omega) (h ++ [ap.dead]) (h ++ [ap.dead]).length (Nat.le_refl _);rw [show k - 1 + 1 = k by omega] at hi
 generalize hX : bj p.body 0 = X at *;obtain ⟨w, vs, body⟩ := p;cases X with
 | nil =>
  refine ⟨[.dead], .nils, ?_, .inr ⟨rfl, rfl⟩⟩;have hb2 : fm (h ++ [ap.dead]).length (AV.nils, h ++ [ap.dead]) = (.nils, h ++ [ap.dead]) := rfl;apply ai Tryz.func140 U (Nb U) U U;(repeat' (first | apply ab | refine Wr 0 U U ?_ | (refine Wd 1 [0,1,3,7,0,0,32,103,255,511] U U (by decide +kernel) ?_;refine Uf U U U (Uf U U U ?_) <;> (refine aP U ?_; refine ew (by decide +kernel) U (gj U U U U ‹_› U ‹_›) U U U ?_) <;> refine Uf U U U (Uf U U U (Uf U U U (Uf U U U (Uf U (gj U U U U ‹_› U ‹_›) U ?_)))) <;> refine Uo U U (Uo U U (Un ?_))) | apply am));exact ⟨.inl rfl, rfl⟩
 | cons x X =>
  refine ⟨[.dead] ++ [.dead], .vs 6 ((x :: X).map bF), ?_, .inl rfl⟩;rw [<- List.append_assoc];have hb2 : fm (h ++ [ap.dead]).length (bo (h ++ [ap.dead]) 6 ((x :: X).map bF), aQ (h ++ [ap.dead]) 92 ((x :: X).map bF)) = (.vs 6 ((x :: X).map bF), h ++ [ap.dead] ++ [ap.dead]) := by
   have e1 : bo (h ++ [ap.dead]) 6 ((x :: X).map bF) = .sl (h ++ [ap.dead]).length 6 0 (x :: X).length := by simp [bo]
   have e2 : aQ (h ++ [ap.dead]) 92 ((x :: X).map bF) = h ++ [ap.dead] ++ [.cells 92 ((x :: X).map bF).flatten] := rfl;have e3 : (h ++ [ap.dead] ++ [ap.cells 92 ((x :: X).map bF).flatten])[(h ++ [ap.dead]).length]? = some (.cells 92 ((x :: X).map bF).flatten) := by simp
   rw [e1, e2];unfold fm;dsimp only;rw [e3];dsimp only;rw [if_pos ⟨Nat.le_refl _, by rw [sb]; omega, mO _⟩, List.drop_zero, mN]
   simp
  apply ai Tryz.func140 U (Nb U) U U;(repeat' (first | apply ab | refine Wr 0 U U ?_ | (refine Wd 1 [0,1,3,7,0,0,32,103,255,511] U U (by decide +kernel) ?_;refine Uf U U U (Uf U U U ?_) <;> (refine aP U ?_; refine ew (by decide +kernel) U (gj U U U U ‹_› U ‹_›) U U U ?_) <;> refine Uf U U U (Uf U U U (Uf U U U (Uf U U U ?_))) <;> (refine aP U ?_; refine ew (by decide +kernel) U (gj U U U U ‹_› U ‹_›) U U U ?_) <;> refine Uo U U (Uo U U (Un ?_))) | apply am));exact ⟨.inl rfl, rfl⟩
theorem eG.set {w : Nat} {vs : List bk} {s : List Int} (h : eG w vs s) (n : Nat) {x : Int} (h0 : 0 <= x) (h1 : x < 2 ^ w) : eG w vs (s.set n x) :=
 ⟨by rw [List.length_set]; exact h.len, fun y hy => by
  rcases List.mem_or_eq_of_mem_set hy with hy | rfl
  ·exact h.word y hy
  ·exact ⟨h0, h1⟩⟩
theorem DQ {K : Nat} {p : bp} (H : pQ p) {pk : List Int} (hpk : ∀ y, y ∈ pk -> 0 <= y /\ y < 2 ^ p.width.toNat) {m : Mc} {x : Int × ay} (hx : me p K x) (hst : eG p.width.toNat p.vars m.st) (htd : ∀ y, y ∈ m.todo -> me p K y) (h1 : m.outs.length + m.fuel <= 199) (h2 : m.u + m.fuel <= 199) (h3 : m.todo.length + m.fuel * 700 <= 49299) :
  nQ p K (kz p.vars pk m x (match x.2 with | .mk _ _ a _ _ => a.map (aY p.width.toNat p.vars [m.st]))) := by
 obtain ⟨s1, s2, l1, l2, _⟩ := hx.sub;have hme := hx;obtain ⟨n, op, nn, a, t, el⟩ := x;have hrow := hx.1;dsimp only at hrow;have hform := oY H hrow;have hp : (0 : Int) < 2 ^ p.width.toNat := Int.pow_pos (by omega);have hV : ∀ i, 0 <= (a.map (aY p.width.toNat p.vars [m.st])).getD i 0 /\ (a.map (aY p.width.toNat p.vars [m.st])).getD i 0 < 2 ^ p.width.toNat := fun i => by
  rw [List.getD_eq_getElem?_getD, List.getElem?_map];cases hi : a[i]? with
  | none => exact ⟨by simp, by simpa using hp⟩
  | some e => exact vQ H.hd (k := 1) (S := [m.st]) (by simpa using hst) e (hform e (List.mem_of_getElem? hi))
 have hP : ∀ i, 0 <= pk.getD i 0 /\ pk.getD i 0 < 2 ^ p.width.toNat := fun i => by
  rw [List.getD_eq_getElem?_getD];cases hi : pk[i]? with
  | none => exact ⟨by simp, by simpa using hp⟩
  | some y => exact hpk y (List.mem_of_getElem? hi)
 have stopped : ∀ e, nQ p K { m with e := e, todo := [], over := true } := fun e => ⟨hst, (fun y hy => by cases hy), by show m.outs.length + m.fuel <= 200; omega, by show m.u + m.fuel <= 200; omega, by show 0 + m.fuel * 700 <= 50000; omega⟩
 have same : nQ p K m := ⟨hst, htd, by omega, by omega, by omega⟩
 unfold kz;dsimp only
 split
 ·exact ⟨hst.set _ (hV _).1 (hV _).2, htd, by show m.outs.length + m.fuel <= 200; omega, by show m.u + m.fuel <= 200; omega, by show m.todo.length + m.fuel * 700 <= 50000; omega⟩
 split
 ·refine ⟨hst, fun y hy => ?_, by show m.outs.length + m.fuel <= 200; omega, by show m.u + m.fuel <= 200; omega, ?_⟩
  ·rcases List.mem_append.1 hy with hy | hy
   ·split at hy
    ·exact s1 y hy
    ·exact s2 y hy
   ·exact htd y hy
  ·show (_ ++ m.todo).length + m.fuel * 700 <= 50000
   rw [List.length_append]
   split <;> omega
 split
 ·split
  ·refine ⟨hst, fun y hy => ?_, by show m.outs.length + m.fuel <= 200; omega, by show m.u + m.fuel <= 200; omega, ?_⟩
   ·rcases List.mem_append.1 hy with hy | hy
    ·rcases List.mem_append.1 hy with hy | hy
     ·exact s1 y hy
     ·rw [List.mem_singleton] at hy; subst hy; exact hme
    ·exact htd y hy
   ·show (_ ++ m.todo).length + m.fuel * 700 <= 50000
    rw [List.length_append, List.length_append, List.length_singleton];omega
  ·exact same
 split
 ·exact ⟨hst, htd, by show (m.outs ++ [_]).length + m.fuel <= 200; rw [List.length_append, List.length_singleton]; omega, by show m.u + m.fuel <= 200; omega, by show m.todo.length + m.fuel * 700 <= 50000; omega⟩
 split
 ·split
  ·exact stopped 4
  ·exact ⟨hst.set _ (hP _).1 (hP _).2, htd, by show m.outs.length + m.fuel <= 200; omega, by show m.u + 1 + m.fuel <= 200; omega, by show m.todo.length + m.fuel * 700 <= 50000; omega⟩
 split
 ·exact stopped _
 ·exact same
theorem B6 {K : Nat} {p : bp} (H : pQ p) {pk : List Int} (hpk : ∀ y, y ∈ pk -> 0 <= y /\ y < 2 ^ p.width.toNat) {m : Mc} (G : nQ p K m) : nQ p K (eJ p.width.toNat p.vars pk m) := by
 unfold eJ
 split
 ·exact G
 ·rename_i x rest htd
  have hl := G.len;rw [htd, List.length_cons] at hl;have h1 := G.outs;have h2 := G.u
  split
  ·exact ⟨G.st, (fun y hy => by cases hy), h1, h2, by show 0 + m.fuel * 700 <= 50000; omega⟩
  ·exact DQ H hpk (G.todo x (by rw [htd]; simp)) G.st (fun y hy => G.todo y (by rw [htd]; exact List.mem_cons_of_mem _ hy)) (by show m.outs.length + (m.fuel - 1) <= 199; omega) (by show m.u + (m.fuel - 1) <= 199; omega) (by show rest.length + (m.fuel - 1) * 700 <= 49299; omega)
theorem DR (vs : List bk) (pk : List Int) (m : Mc) (x : Int × ay) (V : List Int) : (kz vs pk m x V).fuel = m.fuel := by
 unfold kz
 split
 repeat' split
 all_goals rfl
def pa (m : Mc) : Prop := m.over = true \/ m.todo = []
inductive mf (w : Nat) (vs : List bk) (pk : List Int) : Mc -> Mc -> Prop
 | refl (m : Mc) : mf w vs pk m m
 | step {m m' : Mc} (h : mf w vs pk m m') (hn : ¬ pa m') : mf w vs pk m (eJ w vs pk m')
theorem sc {H : aj} {lo T sz : Nat} {a : AV} {xs : List (List AV)} (o : ff H lo T sz a xs) (hr : ∀ r, r ∈ xs -> r.length = sz /\ ∀ x, x ∈ r -> bh x = true) : er H lo a = some (bg sz xs) := by
 rcases o with ⟨rfl, rfl⟩ | ⟨id, rfl, h2, h3, h4⟩
 ·rfl
 ·unfold er
  dsimp only;rw [h2];dsimp only;rw [if_pos ⟨h3, by rw [dg xs (fun r h => (hr r h).1)]; omega, by
   rw [List.all_eq_true];intro x hx;obtain ⟨r, h, hx⟩ := List.mem_flatten.1 hx;exact (hr r h).2 x hx⟩, List.drop_zero, eY xs (fun r h => (hr r h).1)]
  cases xs with
  | nil => exact absurd rfl h4
  | cons x xs => rfl
def xG (e : Int) (s : List Int) (outs : List Ot) (trs : List vS) (c u wh : Int) : List AV := [.int .i64 e, .vs 1 (ag s), bg 2 (cj outs), bg 3 (cN trs), .int .i64 c, .int .i64 u, .int .i64 wh]
theorem DS {h H : aj} {oA tA : AV} {outs : List Ot} {trs : List vS} (h1 : ff H h.length 218 2 oA (cj outs)) (h2 : ff H h.length 224 3 tA (cN trs)) (e : Int) (s : List Int) (c u wh : Int) :
  ja true h (.agg [.int .i64 e, .vs 1 (ag s), oA, tA, .int .i64 c, .int .i64 u, .int .i64 wh]) H = some (.agg (xG e s outs trs c u wh), h) := by
 have q1 := sc h1 (ll outs);have q2 := sc h2 (jK trs);have k1 : ∀ n, er H h.length (.int .i64 n) = some (.int .i64 n) := fun n => rfl
 have k2 : er H h.length (.vs 1 (ag s)) = some (.vs 1 (ag s)) := rfl;have : we H h.length [.int .i64 e, .vs 1 (ag s), oA, tA, .int .i64 c, .int .i64 u, .int .i64 wh] = some (xG e s outs trs c u wh) := by
  simp only [we, k1, k2, q1, q2]; rfl
 unfold ja frz i9;simp only [if_true, this]
def runS (lo : Nat) (p : bp) (s pk : List Int) (a : Mc × List AV × aj) : St :=
 {env := [(3, .p 3 0), (5, .p 5 0), (6, .p 6 0), (7, .p 7 0)], loc := [(3, bY p), (5, nR s pk), (6, [.int .i64 0, .nils, .nils, .nils, .int .i64 0, .int .i64 0, .int .i64 0]), (7, a.2.1)], heap := a.2.2, inRound := false, lo := lo }
theorem AL {K : Nat} {v0 : List AV} {r0 : AV} {p : bp} (H : pQ p) (hK : 1000 <= K) (hKb : bA p.body + 200 <= K) (hN : bu p.body <= 600) (hb : eQ p.body) (hrw : ce p.width p.vars p.body = true) (fuel : Nat) (hf : fuel <= 60) (s pk : List Int) (hs : eG p.width.toNat p.vars s)
  (hpk : ∀ y, y ∈ pk -> 0 <= y /\ y < 2 ^ p.width.toNat) {k : Nat} (hk : 1300 <= k) (h : aj) (lo : Nat) :
  ∃ m trs c wh, call Tryz.prog (bn K v0 r0) (k + 1) lo (.func 105) [.agg (bY p), .int .i64 fuel, .agg (nR s pk)] h = some (.agg (xG m.e m.st m.outs trs c m.u wh), h) /\ mf p.width.toNat p.vars pk (xF p fuel s) m /\ pa m /\ eG p.width.toNat p.vars m.st /\ m.outs.length <= 200 := by
 have hcb := H.cells;have hsl := hs.len;have hbl := iB p.body;have hne : s ≠ [] := fun e => by rw [e] at hsl; unfold ch at hcb; simp at hsl; omega
 obtain ⟨d, tv, hbeg, htv⟩ := B5 (K := K) (v0 := v0) (r0 := r0) hK (by omega) (by omega) hb fuel s pk hne (by unfold ch at hcb; omega) (k := k - 1) (by omega) h h.length;rw [show k - 1 + 1 = k by omega] at hbeg
 suffices hz : ∃ out, call Tryz.prog (bn K v0 r0) (k + 1) lo (.func 105) [.agg (bY p), .int .i64 fuel, .agg (nR s pk)] h = some out /\ ∃ m trs c wh, out = (.agg (xG m.e m.st m.outs trs c m.u wh), h) /\ mf p.width.toNat p.vars pk (xF p fuel s) m /\ pa m /\ eG p.width.toNat p.vars m.st /\ m.outs.length <= 200 by
  obtain ⟨out, h1, m, trs, c, wh, rfl, h2⟩ := hz;exact ⟨m, trs, c, wh, h1, h2⟩
 have hG0 : nQ p K (xF p fuel s) := ⟨hs, iY p.body 0 hrw hb hN (by omega), by show 0 + fuel <= 200; omega, by show 0 + fuel <= 200; omega, by show (bj p.body 0).length + fuel * 700 <= 50000; rw [f9]; omega⟩
 have hstep := fun m G hov x rest htd h' lo B hlo hB2 a hr => DP (K := K) (v0 := v0) (r0 := r0) H hK (pk := pk) m G hov (x := x) (rest := rest) htd (k := k - 1) (by omega) (h := h') (lo := lo) (B := B) hlo hB2 (a := a) hr
 rw [show k - 1 + 1 = k by omega] at hstep
 have hgood := fun m (G : nQ p K m) => B6 H hpk G
 obtain ⟨w, vs, body⟩ := p;dsimp only at hbeg hG0 hgood hstep ⊢;apply cY Tryz.func105 U (Nb U) U U;(repeat' (first | apply ab | refine Wr 0 U U ?_ | (refine Wo 1 U ?_;refine Tc 3 U (Tg U (aa U U U U ‹_›) ?_) <;> refine Tc 2 U (Tn ?_)) | apply ae));apply vl (S := runS h.length ⟨w, vs, body⟩ s pk) (a0 := (xF ⟨w, vs, body⟩ fuel s, iC 0 (.vs 1 (ag s)) .nils .nils 0 0 0 fuel tv false, h ++ d))
  (fun a => nQ ⟨w, vs, body⟩ K a.1 /\ mf w.toNat vs pk (xF ⟨w, vs, body⟩ fuel s) a.1 /\ h.length <= a.2.2.length /\ a.1.fuel <= 60 /\ ∃ B, B2 a.2.2 h.length B a.1 a.2.1 /\ B + 1000 * a.1.fuel <= 101000 /\ (a.1.over = false -> B + 1000 * a.1.fuel <= 60000)) (fun a => if a.1.over = true then 0 else a.1.fuel + 1) (by show (if false = true then 0 else fuel + 1) < k; rw [if_neg (by simp)]; omega) rfl
  ⟨hG0, .refl _, by show h.length <= (h ++ d).length; rw [List.length_append]; omega, hf, 0, ⟨.nils, .nils, 0, 0, tv, [], rfl, .inl ⟨rfl, rfl⟩, .inl ⟨rfl, rfl⟩, fun _ => htv, Nat.le_refl _⟩, by show 0 + 1000 * fuel <= 101000; omega, fun _ => by show 0 + 1000 * fuel <= 60000; omega⟩
 rintro ⟨m, a, H1⟩ ⟨jG, jR, jl, jf, B, jM, jB, jB2⟩;dsimp only at jG jR jl jf jM jB jB2;obtain ⟨oA, tA, c, wh, tv1, trs, rfl, o1, o2, otv, otr⟩ := jM
 by_cases hend : pa m
 ·have he : call Tryz.prog (bn K v0 r0) k h.length (.func 141) [.agg (iC m.e (.vs 1 (ag m.st)) oA tA c m.u wh m.fuel tv1 m.over)] H1 = some (.bool true, H1) := by
   have : call Tryz.prog ba (K - 1 + 1) h.length (.func 141) [.agg (iC m.e (.vs 1 (ag m.st)) oA tA c m.u wh m.fuel tv1 m.over)] H1 = some (.bool true, H1) := by
    refine oX ?_ (K - 1) H1 h.length;cases hov : m.over with
    | true => exact .inl ⟨rfl, rfl⟩
    | false =>
     have htd : m.todo = [] := by
      rcases hend with h | h
      ·rw [hov] at h; cases h
      ·exact h
     rcases otv hov with h | ⟨_, h⟩
     ·rw [htd] at h; exact .inr (.inr ⟨rfl, _, h, rfl⟩)
     ·exact .inr (.inl ⟨rfl, h, rfl⟩)
   rw [show K - 1 + 1 = K by omega] at this
   exact dk rfl rfl this (by omega)
  have hfin := DS o1 o2 m.e m.st c m.u wh;have hgo := jG.outs;(repeat' (first | apply ab | refine af U U ?_ | (refine Wo 2 U ?_;refine Tc 1 U (Tt U (aa U U U U ‹_›) U ?_) <;> refine Tc 1 U (Tn ?_)) | refine Wr 4 U U ?_ | apply am | apply aC));exact ⟨.inl rfl, _, hfin, m, trs, c, wh, rfl, jR, hend, jG.st, by omega⟩
 ·have hov : m.over = false := by
   cases h : m.over with
   | false => rfl
   | true => exact absurd (.inl h) hend
  obtain ⟨x, rest, htd⟩ : ∃ x rest, m.todo = x :: rest := by
   cases h : m.todo with
   | nil => exact absurd (.inr h) hend
   | cons x rest => exact ⟨x, rest, rfl⟩
  have jB3 := jB2 hov;have htv1 : tv1 = .vs 6 (m.todo.map bF) := by
   rcases otv hov with h | ⟨h, _⟩
   ·exact h
   ·rw [htd] at h; cases h
  have he : call Tryz.prog (bn K v0 r0) k h.length (.func 141) [.agg (iC m.e (.vs 1 (ag m.st)) oA tA c m.u wh m.fuel tv1 m.over)] H1 = some (.bool false, H1) := by
   have : call Tryz.prog ba (K - 1 + 1) h.length (.func 141) [.agg (iC m.e (.vs 1 (ag m.st)) oA tA c m.u wh m.fuel tv1 m.over)] H1 = some (.bool false, H1) :=
    oX (.inr (.inr ⟨hov, _, htv1, by rw [htd]; rfl⟩)) (K - 1) H1 h.length
   rw [show K - 1 + 1 = K by omega] at this
   exact dk rfl rfl this (by omega)
  obtain ⟨a', H2, w1, w2, w3⟩ := hstep m jG hov x rest htd H1 h.length B jl (by omega) _ ⟨oA, tA, c, wh, tv1, trs, rfl, o1, o2, otv, otr⟩;have hg2 := hgood m jG;have hR2 := mf.step jR hend;have hfuel : (m.fuel = 0 /\ (eJ w.toNat vs pk m).over = true /\ (eJ w.toNat vs pk m).fuel = 0) \/ (m.fuel ≠ 0 /\ (eJ w.toNat vs pk m).fuel = m.fuel - 1) := by
   unfold eJ;rw [htd];dsimp only
   by_cases h0 : m.fuel = 0
   ·rw [if_pos h0]; exact .inl ⟨h0, rfl, h0⟩
   ·rw [if_neg h0]; exact .inr ⟨h0, DR _ _ _ _ _⟩
  generalize eJ w.toNat vs pk m = m2 at *;obtain ⟨oA2, tA2, c2, wh2, tv2, trs2, rfl, p1, p2, p3, p4⟩ := w2;(repeat' (first | apply ab | refine ah U U ?_ | (refine Wo 2 U ?_;refine Tc 1 U (Tf U (aa U U U U ‹_›) U ?_) <;> refine Tc 1 U (Tn ?_)) | (refine Wo 3 U ?_;refine Tc 4 U (Tg U (aa U U U U ‹_›) ?_) <;> refine Tc 1 U (Tn ?_)) | apply ak | apply ae));refine ⟨(m2, iC m2.e (.vs 1 (ag m2.st)) oA2 tA2 c2 m2.u wh2 m2.fuel tv2 m2.over, H2), rfl, ⟨hg2, hR2, w3, by show m2.fuel <= 60; omega, B + 1000, ⟨oA2, tA2, c2, wh2, tv2, trs2, rfl, p1, p2, p3, p4⟩, by show B + 1000 + 1000 * m2.fuel <= 101000; omega, fun ho => ?_⟩, ?_⟩
  ·show B + 1000 + 1000 * m2.fuel <= 60000
   have ho : m2.over = false := ho;rcases hfuel with ⟨_, h2, _⟩ | ⟨h1, h2⟩
   ·rw [ho] at h2; cases h2
   ·omega
  ·show (if m2.over = true then 0 else m2.fuel + 1) < (if m.over = true then 0 else m.fuel + 1)
   rw [hov, if_neg (show ¬ false = true by simp)];rcases hfuel with ⟨_, h2, _⟩ | ⟨h1, h2⟩
   ·rw [if_pos h2]; omega
   ·split <;> omega
abbrev sV := List Int × List Int
def b6 (l : List sV) : List (List AV) := l.map fun x => nR x.1 x.2
theorem cu (l : List sV) : (b6 l).length = l.length := by simp [b6]
theorem sd (l : List sV) : ∀ r, r ∈ b6 l -> r.length = 2 /\ ∀ x, x ∈ r -> bh x = true := by
 intro r hr;obtain ⟨y, _, rfl⟩ := List.mem_map.1 hr;refine ⟨rfl, fun x hx => ?_⟩
 simp [nR] at hx;rcases hx with rfl | rfl <;> rfl
def jN (p : bp) (x : sV) : Prop := eG p.width.toNat p.vars x.1 /\ (∀ y, y ∈ x.2 -> 0 <= y /\ y < 2 ^ p.width.toNat) /\ x.2.length <= 100
def xH (p : bp) (h : aj) (lo : Nat) (a : AV) (l : List sV) : Prop := ff h lo 165 2 a (b6 l) /\ (∀ x, x ∈ l -> jN p x) /\ lo <= h.length
theorem FH {K : Nat} {v0 : List AV} {r0 : AV} {p : bp} {h : aj} {lo : Nat} {a : AV} {l : List sV} (o : xH p h lo a l) (hl : l.length <= 20000) (x : sV) (hx : jN p x) :
  ∃ a' h', append (bn K v0 r0).tab lo h 53 a (.vs 2 [nR x.1 x.2]) = some (a', h') /\ xH p h' lo a' (l ++ [x]) := by
 obtain ⟨o1, o2, o3⟩ := o;obtain ⟨a', h', q1, q2, q3⟩ := nO (tab := ba.tab) (t := 53) (T := 165) rfl rfl (by decide) o3 o1 (b6 [x]) (fun r hr => (sd _ r hr).1) (by rw [cu, cu]; show (l.length + 1) * 48 <= _; simp only [ca]; omega) (by rw [cu, cu]; simp only [ca, List.length_cons, List.length_nil]; omega);refine ⟨a', h', q1, ?_, fun y hy => ?_, Nat.le_trans o3 q3.len⟩
 ·have e : b6 (l ++ [x]) = b6 l ++ b6 [x] := by simp [b6]
  rw [e]; exact q2
 ·rcases List.mem_append.1 hy with hy | hy
  ·exact o2 y hy
  ·rw [List.mem_singleton] at hy; rw [hy]; exact hx
theorem FI {K : Nat} {v0 : List AV} {r0 : AV} (h : aj) (lo : Nat) (hlo : lo <= h.length) (pk : List Int) (a : Int) (hl : pk.length < 1000) :
  ∃ r, append (bn K v0 r0).tab lo (aQ h 3 (ag pk)) 26 (bo h 1 (ag pk)) (.vs 1 [[.int .i64 a]]) = some r /\ fm lo r = (.vs 1 (ag (pk ++ [a])), h ++ [ap.dead]) := by
 have hap := pR h lo hlo pk a (by omega);refine ⟨_, hap, ?_⟩;have hne : pk ++ [a] ≠ [] := by simp
 rw [mI hne, mJ hne];unfold fm;dsimp only;have hg : (h ++ [ap.cells 3 (ic (pk ++ [a]))])[h.length]? = some (.cells 3 (ic (pk ++ [a]))) := by simp
 rw [hg];dsimp only;rw [if_pos ⟨hlo, by rw [fE]; omega, jz _⟩, List.drop_zero, ik]
 simp
def grS (lo : Nat) (p : bp) (fuel : Nat) (s pk : List Int) (i : Int) (a : AV × aj) : St :=
 {env := [(1, .v (.int .i64 fuel)), (3, .v a.1), (4, .p 4 0), (6, .p 6 0), (10, .v (.int .i64 i))], loc := [(4, bY p), (6, nR s pk)], heap := a.2, inRound := false, lo := lo }
structure Pk (p : bp) (K : Nat) : Prop where
 hd : pQ p
 hK : 2000 <= K
 hKb : bA p.body + 200 <= K
 hN : bu p.body <= 600
 hb : eQ p.body
 hrow : ce p.width p.vars p.body = true
def zI (K : Nat) (v0 : List AV) (r0 : AV) (p : bp) (fuel : Nat) (s pk : List Int) (k : Nat) : Prop :=
 ∀ (h : aj) (lo : Nat) (oA : AV) (l : List sV), xH p h lo oA l -> l.length <= 16384 ->
  ∃ oA' b h' l', call Tryz.prog (bn K v0 r0) k lo (.func 138) [.agg (bY p), .int .i64 fuel, .agg (nR s pk), oA] h = some (.tup [oA', .bool b], h') /\ xH p h' lo oA' l' /\ l'.length <= 16385 /\ (b = true -> l'.length <= 16384)
theorem uF {K : Nat} {v0 : List AV} {r0 : AV} {p : bp} (H : Pk p K) (fuel : Nat) (hf : fuel <= 60) (s : List Int) (hs : eG p.width.toNat p.vars s) (pk : List Int) (hpl : pk.length <= 16) (hpk : ∀ y, y ∈ pk -> 0 <= y /\ y < 2 ^ p.width.toNat) (k : Nat) (hk : 1400 <= k)
  (ih : pk.length < 16 -> ∀ a : Int, 0 <= a -> a < 2 ^ p.width.toNat -> zI K v0 r0 p fuel s (pk ++ [a]) k) : zI K v0 r0 p fuel s pk (k + 1) := by
  intro h lo oA l ho hl;have hw8 := H.hd.hd.w8;have hK := H.hK;have hpw := vM hw8;have hp0 : (0 : Int) < 2 ^ p.width.toNat := Int.pow_pos (by omega);have hcb := H.hd.cells;have hsl := hs.len;have hne : s ≠ [] := fun e => by rw [e] at hsl; unfold ch at hcb; simp at hsl; omega
  have hsl2 : s.length < 500 := by unfold ch at hcb; omega
  obtain ⟨m, trs, c, wh, hrun, _⟩ := AL (K := K) (v0 := v0) (r0 := r0) H.hd (by omega) H.hKb H.hN H.hb H.hrow fuel hf s pk hs hpk (k := k - 1) (by omega) h lo;rw [show k - 1 + 1 = k by omega] at hrun
  have htop : ∀ H1, call Tryz.prog (bn K v0 r0) k lo (.func 162) [.int .i64 p.width] H1 = some (.int .i64 (mB p.width.toNat), H1) := fun H1 => by
   have := vz p.width.toNat (by omega) (K - 2) (by omega) H1 lo;rw [show K - 2 + 2 = K by omega, H.hd.w] at this
   exact dk rfl rfl this (by omega)
  have hcopyS : ∀ H1 : aj, ∃ r, call Tryz.prog (bn K v0 r0) k H1.length (.func 139) [.vs 1 (ag s)] H1 = some r /\ fm H1.length r = (.vs 1 (ag s), H1 ++ [ap.dead]) := fun H1 =>
   oZ (K := K) (v0 := v0) (r0 := r0) (by omega) H1 (Nat.le_refl _) s hne hsl2 k (by omega)
  have hcopyP : ∀ H1 : aj, call Tryz.prog (bn K v0 r0) k H1.length (.func 139) [.vs 1 (ag pk)] H1 = some (bo H1 1 (ag pk), aQ H1 3 (ag pk)) := fun H1 => by
   have := oW pk (by omega) (K - 1) (by omega) H1 H1.length (Nat.le_refl _);rw [show K - 1 + 1 = K by omega] at this
   exact dk rfl rfl this (by omega)
  suffices hz : ∃ out, call Tryz.prog (bn K v0 r0) (k + 1) lo (.func 138) [.agg (bY p), .int .i64 fuel, .agg (nR s pk), oA] h = some out /\ ∃ oA' b h' l', out = (.tup [oA', .bool b], h') /\ xH p h' lo oA' l' /\ l'.length <= 16385 /\ (b = true -> l'.length <= 16384) by
   obtain ⟨out, h1, oA', b, h', l', rfl, h2⟩ := hz;exact ⟨oA', b, h', l', h1, h2⟩
  cases he : (m.e != 4)
  ·cases hge : decide (((ag pk).length : Int) >= 16)
   ·have hrange : ((List.range (2 ^ p.width.toNat)).length : Int) = mB p.width.toNat + 1 := by
     rw [List.length_range]; unfold mB; simp
    have hge := of_decide_eq_false hge;rw [bw] at hge;have ih := ih (by omega);have hlR : (List.range (2 ^ p.width.toNat)).length <= 256 := by
     rw [List.length_range]; exact Nat.le_trans (Nat.pow_le_pow_right (by omega) hw8) (by decide)
    have hcast : ((2 ^ p.width.toNat : Nat) : Int) = (2 : Int) ^ p.width.toNat := by simp
    rw [<- hcast] at ih;have hint : ∀ H1 : aj, lo <= H1.length -> ∀ a : Int, _ := fun H1 hl1 a => FI (K := K) (v0 := v0) (r0 := r0) H1 lo hl1 pk a (by omega)
    have hge1 : decide (((ag pk).length : Int) >= 16) = false := by rw [bw]; exact decide_eq_false (by omega)
    generalize hTop : mB p.width.toNat = top at *;generalize hRg : List.range (2 ^ p.width.toNat) = R at *;have hRi : ∀ i x, R[i]? = some x -> x = i := fun i x hx => by
     rw [<- hRg] at hx;have := List.getElem?_eq_some_iff.1 hx;obtain ⟨_, h2⟩ := this;rw [List.getElem_range] at h2;exact h2.symm
    have hR2 : R.length = 2 ^ p.width.toNat := by rw [<- hRg, List.length_range]
    generalize 2 ^ p.width.toNat = n2 at *;obtain ⟨w, vs, body⟩ := p;apply cY Tryz.func138 U (Nb U) U U;(repeat' (first | apply ab | refine af U U ?_ | refine Wr 0 U U ?_ | (refine Wo 1 U ?_;refine Tc 3 U (Tg U (aa U U U U ‹_›) ?_) <;> refine Tc 1 U (Tf U U ‹_› (Tn ?_))) | (refine Wo 3 U ?_;refine Tc 3 U (Tf U U ‹_› (Tn ?_))) | refine Wr 5 U U ?_ | apply ak | apply ae));apply aS (S := grS lo ⟨w, vs, body⟩ fuel s pk) (l := R) (a0 := (oA, h)) (fun _ _ a => ∃ l1, xH ⟨w, vs, body⟩ a.2 lo a.1 l1 /\ l1.length <= 16384) (by omega) (by omega) rfl ⟨l, ho, hl⟩
    ·rintro i x rst ⟨oA1, H1⟩ hi hd hil ⟨l1, ho1, hl1⟩
     dsimp only at ho1;have hxi := hRi i x hi;subst hxi;have ht1 := htop H1;have hlt : decide ((x : Int) <= top) = true := decide_eq_true (by omega);obtain ⟨rc, c1, c2⟩ := hcopyS H1;have hlo1 : lo <= (H1 ++ [ap.dead]).length := by have := ho1.2.2; rw [List.length_append]; omega
     have c3 := hcopyP (H1 ++ [ap.dead]);obtain ⟨ra, a1, a2⟩ := hint (H1 ++ [ap.dead]) hlo1 x;have ho2 : xH ⟨w, vs, body⟩ (H1 ++ [ap.dead] ++ [ap.dead]) lo oA1 l1 := ⟨(ho1.1.pre).pre, ho1.2.1, by rw [List.length_append]; omega⟩
     obtain ⟨oA2, b2, H2, l2, g1, g2, g3, g4⟩ := ih x (by omega) (by omega) (H1 ++ [ap.dead] ++ [ap.dead]) lo oA1 l1 ho2 hl1;clear hcopyS hcopyP hint ih htop hrun;cases b2
     ·cases pk
      ·(repeat' (first | apply ab | refine ah U U ?_ | (refine Wo 6 U ?_;refine Tc 3 U (Tg U (aa U U U U ‹_›) ?_) <;> refine Tt U U ‹_› (Tn ?_)) | (refine oH (id := 8) (bs := [0, 0, 0, 4, 12, 0, 32, 124, 0, 256, 1022, 2046, 2046, 8191, 16383, 32767, 32767, 65535, 262143]) U U (by decide +kernel) U U (by decide +kernel) ?_ <;> refine Uf U U U (Uf U U U (Uf U U U (Uf U U U ?_))) <;> (refine aP U ?_; refine ew (by decide +kernel) U (gj U U U U ‹_› U ‹_›) U U U ?_) <;> refine Uf U U U (Uf U U U (Uf U (aa U U U U ‹_›) U ?_)) <;> refine Uf U U U (Uf U U U ?_) <;> (refine aP U ?_; refine fy (by decide +kernel) U (dN U U U U U ‹_› U ‹_›) ?_) <;> refine Uf U U U (Uf U U U (Uo U (aa U U U U ‹_›) ?_)) <;> refine Uo U U (Uf U U U ?_) <;> (refine aP U ?_; refine iL (by decide +kernel) U U U U U U ?_) <;> refine Uf U U U (Uo U U (Un ?_))) | refine Wr 9 U U ?_ | refine Wr 10 U U ?_ | apply ak | apply ae | apply am))
       exact ⟨.inl rfl, _, rfl, .nils, false, H2, [], rfl, ⟨.inl ⟨rfl, rfl⟩, fun x hx => (by cases hx), g2.2.2⟩, by simp, fun e => (by cases e)⟩
      ·(repeat' (first | apply ab | refine ah U U ?_ | (refine Wo 6 U ?_;refine Tc 3 U (Tg U (aa U U U U ‹_›) ?_) <;> refine Tt U U ‹_› (Tn ?_)) | (refine oH (id := 8) (bs := [0, 0, 0, 4, 12, 0, 32, 124, 0, 256, 1022, 2046, 2046, 8191, 16383, 32767, 32767, 65535, 262143]) U U (by decide +kernel) U U (by decide +kernel) ?_ <;> refine Uf U U U (Uf U U U (Uf U U U (Uf U U U ?_))) <;> (refine aP U ?_; refine ew (by decide +kernel) U (gj U U U U ‹_› U ‹_›) U U U ?_) <;> refine Uf U U U (Uf U U U ?_) <;> (refine aP U ?_; refine ew (by decide +kernel) U (aa U U U U ‹_›) U U U ?_) <;> refine Uf U U U (Uf U U U ?_) <;> (refine aP U ?_; refine fy (by decide +kernel) U (dN U U U U U ‹_› U ‹_›) ?_) <;> refine Uf U U U (Uf U U U (Uo U (aa U U U U ‹_›) ?_)) <;> refine Uo U U (Uf U U U ?_) <;> (refine aP U ?_; refine iL (by decide +kernel) U U U U U U ?_) <;> refine Uf U U U (Uo U U (Un ?_))) | refine Wr 9 U U ?_ | refine Wr 10 U U ?_ | apply ak | apply ae | apply am))
       exact ⟨.inl rfl, _, rfl, .nils, false, H2, [], rfl, ⟨.inl ⟨rfl, rfl⟩, fun x hx => (by cases hx), g2.2.2⟩, by simp, fun e => (by cases e)⟩
     ·have g5 := g4 rfl
      cases pk
      ·(repeat' (first | apply ab | refine ah U U ?_ | refine af U U ?_ | (refine Wo 6 U ?_;refine Tc 3 U (Tg U (aa U U U U ‹_›) ?_) <;> refine Tt U U ‹_› (Tn ?_)) | (refine oH (id := 8) (bs := [0, 0, 0, 4, 12, 0, 32, 124, 0, 256, 1022, 2046, 2046, 8191, 16383, 32767, 32767, 65535, 262143]) U U (by decide +kernel) U U (by decide +kernel) ?_ <;> refine Uf U U U (Uf U U U (Uf U U U (Uf U U U ?_))) <;> (refine aP U ?_; refine ew (by decide +kernel) U (gj U U U U ‹_› U ‹_›) U U U ?_) <;> refine Uf U U U (Uf U U U (Uf U (aa U U U U ‹_›) U ?_)) <;> refine Uf U U U (Uf U U U ?_) <;> (refine aP U ?_; refine fy (by decide +kernel) U (dN U U U U U ‹_› U ‹_›) ?_) <;> refine Uf U U U (Uf U U U (Uo U (aa U U U U ‹_›) ?_)) <;> refine Uo U U (Uf U U U ?_) <;> (refine aP U ?_; refine ix (by decide +kernel) U U U U U U ?_) <;> refine Uf U U U (Uo U U (Un ?_))) | refine Wr 9 U U ?_ | refine Wr 11 U U ?_ | refine Wr 7 U U ?_ | apply ak | apply ae))
       exact ⟨(oA2, H2), rfl, l2, g2, g5⟩
      ·(repeat' (first | apply ab | refine ah U U ?_ | refine af U U ?_ | (refine Wo 6 U ?_;refine Tc 3 U (Tg U (aa U U U U ‹_›) ?_) <;> refine Tt U U ‹_› (Tn ?_)) | (refine oH (id := 8) (bs := [0, 0, 0, 4, 12, 0, 32, 124, 0, 256, 1022, 2046, 2046, 8191, 16383, 32767, 32767, 65535, 262143]) U U (by decide +kernel) U U (by decide +kernel) ?_ <;> refine Uf U U U (Uf U U U (Uf U U U (Uf U U U ?_))) <;> (refine aP U ?_; refine ew (by decide +kernel) U (gj U U U U ‹_› U ‹_›) U U U ?_) <;> refine Uf U U U (Uf U U U ?_) <;> (refine aP U ?_; refine ew (by decide +kernel) U (aa U U U U ‹_›) U U U ?_) <;> refine Uf U U U (Uf U U U ?_) <;> (refine aP U ?_; refine fy (by decide +kernel) U (dN U U U U U ‹_› U ‹_›) ?_) <;> refine Uf U U U (Uf U U U (Uo U (aa U U U U ‹_›) ?_)) <;> refine Uo U U (Uf U U U ?_) <;> (refine aP U ?_; refine ix (by decide +kernel) U U U U U U ?_) <;> refine Uf U U U (Uo U U (Un ?_))) | refine Wr 9 U U ?_ | refine Wr 11 U U ?_ | refine Wr 7 U U ?_ | apply ak | apply ae))
       exact ⟨(oA2, H2), rfl, l2, g2, g5⟩
    ·rintro ⟨oA1, H1⟩ ⟨l1, ho1, hl1⟩
     dsimp only at ho1;have ht1 := htop H1;have hlt : decide ((R.length : Int) <= top) = false := decide_eq_false (by omega);(repeat' (first | apply ab | refine af U U ?_ | (refine Wo 6 U ?_;refine Tc 3 U (Tg U (aa U U U U ‹_›) ?_) <;> refine Tf U U ‹_› (Tn ?_)) | refine Wr 12 U U ?_ | apply am | apply aC));exact ⟨.inl rfl, _, rfl, oA1, true, H1, l1, rfl, ho1, by omega, fun _ => hl1⟩
   ·obtain ⟨w, vs, body⟩ := p
    apply cY Tryz.func138 U (Nb U) U U;(repeat' (first | apply ab | refine ah U U ?_ | refine af U U ?_ | refine Wr 0 U U ?_ | (refine Wo 1 U ?_;refine Tc 3 U (Tg U (aa U U U U ‹_›) ?_) <;> refine Tc 1 U (Tf U U ‹_› (Tn ?_))) | (refine Wo 3 U ?_;refine Tc 3 U (Tt U U ‹_› (Tn ?_))) | refine Wr 4 U U ?_ | apply ak | apply am));exact ⟨.inl rfl, _, rfl, .nils, false, h, [], rfl, ⟨.inl ⟨rfl, rfl⟩, fun x hx => (by cases hx), ho.2.2⟩, by simp, fun e => (by cases e)⟩
  ·obtain ⟨oA', h', a1, a2⟩ := FH (K := K) (v0 := v0) (r0 := r0) ho (by omega) (s, pk) ⟨hs, hpk, by show pk.length <= 100; omega⟩
   rcases ho.1 with ⟨rfl, g2⟩ | ⟨id, rfl, g2, g3, g4⟩
   ·have hl0 : l.length = 0 := by have := congrArg List.length g2; rw [cu] at this; exact this
    obtain ⟨w, vs, body⟩ := p;apply cY Tryz.func138 U (Nb U) U U;(repeat' (first | apply ab | refine ah U U ?_ | refine Wr 0 U U ?_ | (refine Wo 1 U ?_;refine Tc 3 U (Tg U (aa U U U U ‹_›) ?_) <;> refine Tc 1 U (Tt U U ‹_› (Tn ?_))) | (refine Wo 2 U ?_;refine Tc 3 U (Tg U (aN U U U U U ‹_›) ?_) <;> refine Tc 2 U (Tt U U U (Tc 2 U (Tn ?_)))) | apply am));exact ⟨.inl rfl, _, rfl, oA', true, h', _, rfl, a2, by rw [List.length_append, List.length_singleton]; omega, fun _ => by rw [List.length_append, List.length_singleton]; omega⟩
   ·cases hlt : decide (((b6 l).length : Int) < 16384)
    ·obtain ⟨w, vs, body⟩ := p
     apply cY Tryz.func138 U (Nb U) U U;(repeat' (first | apply ab | refine ah U U ?_ | refine Wr 0 U U ?_ | (refine Wo 1 U ?_;refine Tc 3 U (Tg U (aa U U U U ‹_›) ?_) <;> refine Tc 1 U (Tt U U ‹_› (Tn ?_))) | (refine Wo 2 U ?_;refine Tc 3 U (Tg U (aN U U U U U ‹_›) ?_) <;> refine Tc 2 U (Tf U U ‹_› (Tc 2 U (Tn ?_)))) | apply am));exact ⟨.inl rfl, _, rfl, oA', false, h', _, rfl, a2, by rw [List.length_append, List.length_singleton]; omega, fun e => (by cases e)⟩
    ·have hlt2 := of_decide_eq_true hlt
     rw [cu] at hlt2;obtain ⟨w, vs, body⟩ := p;apply cY Tryz.func138 U (Nb U) U U;(repeat' (first | apply ab | refine ah U U ?_ | refine Wr 0 U U ?_ | (refine Wo 1 U ?_;refine Tc 3 U (Tg U (aa U U U U ‹_›) ?_) <;> refine Tc 1 U (Tt U U ‹_› (Tn ?_))) | (refine Wo 2 U ?_;refine Tc 3 U (Tg U (aN U U U U U ‹_›) ?_) <;> refine Tc 2 U (Tt U U ‹_› (Tc 2 U (Tn ?_)))) | apply am));exact ⟨.inl rfl, _, rfl, oA', true, h', _, rfl, a2, by rw [List.length_append, List.length_singleton]; omega, fun _ => by rw [List.length_append, List.length_singleton]; omega⟩
theorem xI {K : Nat} {v0 : List AV} {r0 : AV} {p : bp} (H : Pk p K) (fuel : Nat) (hf : fuel <= 60) (s : List Int) (hs : eG p.width.toNat p.vars s) : ∀ (d : Nat) (pk : List Int), pk.length + d = 16 -> (∀ y, y ∈ pk -> 0 <= y /\ y < 2 ^ p.width.toNat) -> ∀ (k : Nat), 1400 + d <= k -> zI K v0 r0 p fuel s pk (k + 1)
 | 0, pk, hd, hpk, k, hk => uF H fuel hf s hs pk (by omega) hpk k (by omega) fun h => by omega
 | d + 1, pk, hd, hpk, k, hk => uF H fuel hf s hs pk (by omega) hpk k (by omega) fun h a a0 a1 => by
  have := xI (v0 := v0) (r0 := r0) H fuel hf s hs d (pk ++ [a]) (by simp; omega) (fun y hy => by
    rcases List.mem_append.1 hy with hy | hy
    ·exact hpk y hy
    ·rw [List.mem_singleton] at hy; rw [hy]; exact ⟨a0, a1⟩) (k - 1) (by omega)
  rw [show k - 1 + 1 = k by omega] at this
  exact this
theorem se {h H : aj} {T : Nat} {a : AV} {l : List sV} (o : ff H h.length T 2 a (b6 l)) (b : Bool) : ja true h (.tup [a, .bool b]) H = some (.tup [bg 2 (b6 l), .bool b], h) := by
 have q1 := sc o (sd l);have q2 : er H h.length (.bool b) = some (.bool b) := rfl;have : mV H h.length [a, .bool b] = some [bg 2 (b6 l), .bool b] := by
  rcases o with ⟨rfl, _⟩ | ⟨id, rfl, h2, h3, h4⟩
  ·simp only [mV, i9, q1, q2]
  ·simp only [mV, i9, q1, q2]
 unfold ja frz i9;simp only [if_true, this]
theorem zJ {K : Nat} {v0 : List AV} {r0 : AV} {p : bp} (H : Pk p K) (fuel : Nat) (hf : fuel <= 60) (s : List Int) (hs : eG p.width.toNat p.vars s) (k : Nat) (hk : 1420 <= k) (h : aj) (lo : Nat) :
  ∃ b l, call Tryz.prog (bn K v0 r0) (k + 1) lo (.func 103) [.agg (bY p), .int .i64 fuel, .vs 1 (ag s)] h = some (.tup [bg 2 (b6 l), .bool b], h) /\ (∀ x, x ∈ l -> jN p x) /\ l.length <= 16385 := by
 have hK := H.hK;have hcb := H.hd.cells;have hsl := hs.len;have hne : s ≠ [] := fun e => by rw [e] at hsl; unfold ch at hcb; simp at hsl; omega
 have hsl2 : s.length < 500 := by unfold ch at hcb; omega
 obtain ⟨rc, c1, c2⟩ := oZ (K := K) (v0 := v0) (r0 := r0) (by omega) h (Nat.le_refl _) s hne hsl2 k (by omega);have hg := xI (v0 := v0) (r0 := r0) H fuel hf s hs 16 [] rfl (fun y hy => by cases hy) (k - 1) (by omega);rw [show k - 1 + 1 = k by omega] at hg
 obtain ⟨oA, b, h', l, g1, g2, g3, g4⟩ := hg (h ++ [ap.dead]) h.length .nils [] ⟨.inl ⟨rfl, rfl⟩, fun x hx => (by cases hx), by rw [List.length_append]; omega⟩ (by simp)
 have hfin := se g2.1 b;refine ⟨b, l, ?_, g2.2.1, g3⟩;obtain ⟨w, vs, body⟩ := p;cases b
 ·apply ai Tryz.func103 U (Nb U) U U
  (repeat' (first | apply ab | refine Wr 0 U U ?_ | (refine Wd 1 [0,0,0,4,12,31,63,63,255,511] U U (by decide +kernel) ?_;refine Uf U U U (Uf U U U (Uf U U U ?_)) <;> (refine aP U ?_; refine ew (by decide +kernel) U (gj U U U U ‹_› U ‹_›) U U U ?_) <;> refine Uf U U U (Uo U (aa U U U U ‹_›) ?_) <;> refine Uf U U U ?_ <;> (refine aP U ?_; refine iL (by decide +kernel) U U U U U U ?_) <;> refine Uo U U (Uo U U (Un ?_))) | apply am));exact ⟨.inl rfl, hfin⟩
 ·apply ai Tryz.func103 U (Nb U) U U
  (repeat' (first | apply ab | refine Wr 0 U U ?_ | (refine Wd 1 [0,0,0,4,12,31,63,63,255,511] U U (by decide +kernel) ?_;refine Uf U U U (Uf U U U (Uf U U U ?_)) <;> (refine aP U ?_; refine ew (by decide +kernel) U (gj U U U U ‹_› U ‹_›) U U U ?_) <;> refine Uf U U U (Uo U (aa U U U U ‹_›) ?_) <;> refine Uf U U U ?_ <;> (refine aP U ?_; refine ix (by decide +kernel) U U U U U U ?_) <;> refine Uo U U (Uo U U (Un ?_))) | apply am));exact ⟨.inl rfl, hfin⟩
def evyS (lo : Nat) (p : bp) (fuel : Nat) (i : Int) (a : AV × aj) : St :=
 {env := [(1, .v (.int .i64 fuel)), (2, .p 2 0), (6, .v a.1), (7, .v (.int .i64 i))], loc := [(2, bY p)], heap := a.2, inRound := false, lo := lo }
theorem zK {K : Nat} {v0 : List AV} {r0 : AV} {p : bp} (H : Pk p K) (hbits : cH p <= 6) (fuel : Nat) (hf : fuel <= 60) (k : Nat) (hk : 1500 <= k) (h : aj) (lo : Nat) :
  ∃ b l, call Tryz.prog (bn K v0 r0) (k + 1) lo (.func 63) [.agg (bY p), .int .i64 fuel] h = some (.tup [bg 2 (b6 l), .bool b], h) /\ (∀ x, x ∈ l -> jN p x) /\ l.length <= 16384 := by
 have hK := H.hK;have hw8 := H.hd.hd.w8;have hfew : ∀ H1 l1, call Tryz.prog (bn K v0 r0) k l1 (.func 13) [.agg (bY p)] H1 = some (.bool true, H1) := fun H1 l1 => by
  have := AJ H.hd (K - 1) (by omega) H1 l1;rw [show K - 1 + 1 = K by omega, show decide (cH p <= 60) = true from decide_eq_true (by omega)] at this
  exact dk rfl rfl this (by omega)
 have hsp : ∀ H1 l1, call Tryz.prog (bn K v0 r0) k l1 (.func 14) [.agg (bY p)] H1 = some (.int .i64 (2 ^ cH p), H1) := fun H1 l1 => by
  have := uB H.hd (by omega) (K - 1) (by omega) H1 l1;rw [show K - 1 + 1 = K by omega] at this
  exact dk rfl rfl this (by omega)
 have hn64 : 2 ^ cH p <= 64 := Nat.le_trans (Nat.pow_le_pow_right (by omega) hbits) (by decide);have hcast : ((2 ^ cH p : Nat) : Int) = (2 : Int) ^ cH p := by simp
 have hsto : ∀ i : Nat, i < 2 ^ cH p -> ∀ H1 l1, call Tryz.prog (bn K v0 r0) k l1 (.func 104) [.agg (bY p), .int .i64 i] H1 = some (.vs 1 (ag (lk p.width.toNat i (ch p))), H1) := fun i hi H1 l1 => by
  have := BY H.hd i (by omega) (by omega) (K - 1) (by omega) H1 l1;rw [show K - 1 + 1 = K by omega] at this
  exact dk rfl rfl this (by omega)
 have hSt : ∀ i : Nat, eG p.width.toNat p.vars (lk p.width.toNat i (ch p)) := fun i => ⟨xw _ _ _, DG _ _ _⟩
 have hof := fun (i : Nat) H1 l1 => zJ (v0 := v0) (r0 := r0) H fuel hf _ (hSt i) (k - 1) (by omega) H1 l1
 rw [show k - 1 + 1 = k by omega] at hof
 rw [<- hcast] at hsp;have hR2 : (List.range (2 ^ cH p)).length = 2 ^ cH p := List.length_range;generalize hRg : List.range (2 ^ cH p) = R at *;have hRi : ∀ i x, R[i]? = some x -> x = i := fun i x hx => by
  rw [<- hRg] at hx;obtain ⟨_, h2⟩ := List.getElem?_eq_some_iff.1 hx;rw [List.getElem_range] at h2;exact h2.symm
 generalize 2 ^ cH p = n2 at *;have hgt : decide ((n2 : Int) > 4096) = false := decide_eq_false (by omega);have hc1 := hfew h h.length;have hc2 := hsp h h.length
 suffices hz : ∃ out, call Tryz.prog (bn K v0 r0) (k + 1) lo (.func 63) [.agg (bY p), .int .i64 fuel] h = some out /\ ∃ b l, out = (.tup [bg 2 (b6 l), .bool b], h) /\ (∀ x, x ∈ l -> jN p x) /\ l.length <= 16384 by
  obtain ⟨out, h1, b, l, rfl, h2⟩ := hz;exact ⟨b, l, h1, h2⟩
 obtain ⟨w, vs, body⟩ := p;dsimp only at hsto hof;apply cY Tryz.func63 U (Nb U) U U;(repeat' (first | apply ab | refine af U U ?_ | refine Wr 0 U U ?_ | refine Wr 1 U U ?_ | (refine Wo 2 U ?_;refine Tc 1 U (Tt U (aa U U U U ‹_›) U ?_) <;> refine Tc 3 U (Tg U (aa U U U U ‹_›) ?_) <;> refine Tf U U ‹_› (Tc 1 U (Tn ?_))) | refine Wr 4 U U ?_ | apply ak | apply ae));apply aS (S := evyS h.length ⟨w, vs, body⟩ fuel) (l := R) (a0 := (.nils, h)) (fun _ _ a => ∃ l1, xH ⟨w, vs, body⟩ a.2 h.length a.1 l1 /\ l1.length <= 16384) (by omega) (by omega) rfl ⟨[], ⟨.inl ⟨rfl, rfl⟩, fun x hx => (by cases hx), Nat.le_refl _⟩, by simp⟩
 ·rintro i x rst ⟨oA1, H1⟩ hi hd hil ⟨l1, ho1, hl1⟩
  dsimp only at ho1;have hxi := hRi i x hi;subst hxi;have ht1 := hsp H1 h.length;have hlt : decide ((x : Int) < (n2 : Int)) = true := decide_eq_true (by omega);have hs1 := hsto x (by omega) H1 H1.length;obtain ⟨b, l2, o1, o2, o3⟩ := hof x H1 h.length;obtain ⟨oA2, H2, q1, q2, q3⟩ := nO (tab := ba.tab) (t := 53) (T := 165) rfl rfl (by decide) ho1.2.2 ho1.1 (b6 l2) (fun r hr => (sd _ r hr).1) (by rw [cu, cu]; show (l1.length + l2.length) * 48 <= _; simp only [ca]; omega) (by rw [cu, cu]; simp only [ca]; omega);rw [show b6 l1 ++ b6 l2 = b6 (l1 ++ l2) by simp [b6]] at q2
  replace q1 : append (bn K v0 r0).tab h.length H1 53 oA1 (bg 2 (b6 l2)) = some (oA2, H2) := q1;have hl2 : h.length <= H2.length := Nat.le_trans ho1.2.2 q3.len;clear hfew hsp hsto hof;have hnil := se (H := H2) (h := h) (T := 165) (a := .nils) (l := []) (.inl ⟨rfl, rfl⟩) false;cases b
  ·(repeat' (first | apply ab | refine ah U U ?_ | (refine Wo 5 U ?_;refine Tc 2 U (Tg U (aa U U U U ‹_›) ?_) <;> refine Tt U U ‹_› (Tn ?_)) | (refine Wd 7 [0,0,0,0,12,31,63,127,127,255,1023] U U (by decide +kernel) ?_;refine Uf U U U (Uf U U U (Uf U U U (Uf U U U (Uf U (aa U U U U ‹_›) U ?_)))) <;> refine Uo U (aa U U U U ‹_›) ?_ <;> refine Uo U U (Uf U U U ?_) <;> (refine aP U ?_; refine iL (by decide +kernel) U U U U U U ?_) <;> refine Uf U U U (Uo U U (Un ?_))) | (refine Wo 8 U ?_;refine Tc 2 U (Tg U (aN U U U U U ‹_›) ?_) <;> refine Tc 1 U (Tn ?_)) | (refine Wo 9 U ?_;refine Tc 5 U (Tk U (Tc 1 U (Tn ?_)))) | refine Wr 10 U U ?_ | apply ak | apply ae | apply am))
   exact ⟨.inl rfl, _, hnil, false, [], rfl, fun x hx => (by cases hx), by simp⟩
  ·rcases q2 with ⟨rfl, g2⟩ | ⟨id, rfl, g2, g3, g4⟩
   ·have hl0 : (l1 ++ l2).length = 0 := by have := congrArg List.length g2; rw [cu] at this; exact this
    (repeat' (first | apply ab | refine ah U U ?_ | refine af U U ?_ | (refine Wo 5 U ?_;refine Tc 2 U (Tg U (aa U U U U ‹_›) ?_) <;> refine Tt U U ‹_› (Tn ?_)) | (refine Wd 7 [0,0,0,0,12,31,63,127,127,255,1023] U U (by decide +kernel) ?_;refine Uf U U U (Uf U U U (Uf U U U (Uf U U U (Uf U (aa U U U U ‹_›) U ?_)))) <;> refine Uo U (aa U U U U ‹_›) ?_ <;> refine Uo U U (Uf U U U ?_) <;> (refine aP U ?_; refine ix (by decide +kernel) U U U U U U ?_) <;> refine Uf U U U (Uo U U (Un ?_))) | (refine Wo 8 U ?_;refine Tc 2 U (Tg U (aN U U U U U ‹_›) ?_) <;> refine Tc 1 U (Tn ?_)) | (refine Wo 9 U ?_;refine Tc 5 U (Tf U U U (Tc 1 U (Tn ?_)))) | refine Wr 6 U U ?_ | apply ak | apply ae));exact ⟨(.nils, H2), rfl, l1 ++ l2, ⟨.inl ⟨rfl, g2⟩, fun y hy => (by
     rcases List.mem_append.1 hy with hy | hy
     ·exact ho1.2.1 y hy
     ·exact o2 y hy), hl2⟩, by omega⟩
   ·cases hle : decide (((b6 (l1 ++ l2)).length : Int) > 16384)
    ·have hle2 := of_decide_eq_false hle
     rw [cu] at hle2;(repeat' (first | apply ab | refine ah U U ?_ | refine af U U ?_ | (refine Wo 5 U ?_;refine Tc 2 U (Tg U (aa U U U U ‹_›) ?_) <;> refine Tt U U ‹_› (Tn ?_)) | (refine Wd 7 [0,0,0,0,12,31,63,127,127,255,1023] U U (by decide +kernel) ?_;refine Uf U U U (Uf U U U (Uf U U U (Uf U U U (Uf U (aa U U U U ‹_›) U ?_)))) <;> refine Uo U (aa U U U U ‹_›) ?_ <;> refine Uo U U (Uf U U U ?_) <;> (refine aP U ?_; refine ix (by decide +kernel) U U U U U U ?_) <;> refine Uf U U U (Uo U U (Un ?_))) | (refine Wo 8 U ?_;refine Tc 2 U (Tg U (aN U U U U U ‹_›) ?_) <;> refine Tc 1 U (Tn ?_)) | (refine Wo 9 U ?_;refine Tc 5 U (Tf U U ‹_› (Tc 1 U (Tn ?_)))) | refine Wr 6 U U ?_ | apply ak | apply ae));exact ⟨(_, H2), rfl, l1 ++ l2, ⟨.inr ⟨id, rfl, g2, g3, g4⟩, fun y hy => (by
      rcases List.mem_append.1 hy with hy | hy
      ·exact ho1.2.1 y hy
      ·exact o2 y hy), hl2⟩, by omega⟩
    ·(repeat' (first | apply ab | refine ah U U ?_ | (refine Wo 5 U ?_;refine Tc 2 U (Tg U (aa U U U U ‹_›) ?_) <;> refine Tt U U ‹_› (Tn ?_)) | (refine Wd 7 [0,0,0,0,12,31,63,127,127,255,1023] U U (by decide +kernel) ?_;refine Uf U U U (Uf U U U (Uf U U U (Uf U U U (Uf U (aa U U U U ‹_›) U ?_)))) <;> refine Uo U (aa U U U U ‹_›) ?_ <;> refine Uo U U (Uf U U U ?_) <;> (refine aP U ?_; refine ix (by decide +kernel) U U U U U U ?_) <;> refine Uf U U U (Uo U U (Un ?_))) | (refine Wo 8 U ?_;refine Tc 2 U (Tg U (aN U U U U U ‹_›) ?_) <;> refine Tc 1 U (Tn ?_)) | (refine Wo 9 U ?_;refine Tc 5 U (Tt U U ‹_› (Tc 1 U (Tn ?_)))) | refine Wr 10 U U ?_ | apply ak | apply ae | apply am))
     exact ⟨.inl rfl, _, hnil, false, [], rfl, fun x hx => (by cases hx), by simp⟩
 ·rintro ⟨oA1, H1⟩ ⟨l1, ho1, hl1⟩
  dsimp only at ho1;have ht1 := hsp H1 h.length;have hlt : decide ((R.length : Int) < (n2 : Int)) = false := decide_eq_false (by omega);have hfin := se ho1.1 true;(repeat' (first | apply ab | refine af U U ?_ | (refine Wo 5 U ?_;refine Tc 2 U (Tg U (aa U U U U ‹_›) ?_) <;> refine Tf U U ‹_› (Tn ?_)) | refine Wr 11 U U ?_ | apply am | apply aC));exact ⟨.inl rfl, _, hfin, true, l1, rfl, ho1.2.1, hl1⟩
structure Rv where
 m : Mc
 trs : List vS
 c : Int
 wh : Int
def zL (r : Rv) : List AV := xG r.m.e r.m.st r.m.outs r.trs r.c r.m.u r.wh
def dp (l : List Rv) : List (List AV) := l.map zL
theorem nS (l : List Rv) : (dp l).length = l.length := by simp [dp]
theorem pS {sz : Nat} (rows : List (List AV)) (hr : ∀ r, r ∈ rows -> ∀ x, x ∈ r -> bh x = true) : bh (bg sz rows) = true := by
 cases rows with
 | nil => rfl
 | cons r rows => rfl
theorem sf (l : List Rv) : ∀ r, r ∈ dp l -> r.length = 7 /\ ∀ x, x ∈ r -> bh x = true := by
 intro r hr;obtain ⟨y, _, rfl⟩ := List.mem_map.1 hr;refine ⟨rfl, fun x hx => ?_⟩
 simp only [zL, xG, List.mem_cons, List.not_mem_nil, or_false] at hx;rcases hx with rfl | rfl | rfl | rfl | rfl | rfl | rfl
 ·rfl
 ·rfl
 ·exact pS _ fun r hr => (ll _ r hr).2
 ·exact pS _ fun r hr => (jK _ r hr).2
 all_goals rfl
def vV (p : bp) (fuel : Nat) (x : sV) (r : Rv) : Prop := mf p.width.toNat p.vars x.2 (xF p fuel x.1) r.m /\ pa r.m /\ eG p.width.toNat p.vars r.m.st /\ r.m.outs.length <= 200
def Gp (p : bp) (fuel : Nat) (l : List sV) (rs : List Rv) : Prop := rs.length = l.length /\ ∀ (i : Nat) x r, l[i]? = some x -> rs[i]? = some r -> vV p fuel x r
theorem sg {l : List sV} {i : Nat} {x : sV} (h : l[i]? = some x) : (b6 l)[i]? = some (nR x.1 x.2) := by simp [b6, h]
def HV (h : aj) (p : bp) (fuel : Nat) (L : AV) (i : Int) (rs : List Rv) : St :=
 {env := [(1, .v (.int .i64 fuel)), (2, .v L), (3, .p 3 0), (7, .v (bo h 7 (dp rs))), (8, .v (.int .i64 i))], loc := [(3, bY p)], heap := aQ h 162 (dp rs), inRound := false, lo := h.length }
theorem B7 (h : aj) (a : List Rv) (x : Rv) (hl : a.length < 1000000) : append ba.tab h.length (aQ h 162 (dp a)) 116 (bo h 7 (dp a)) (.vs 7 [zL x]) = some (bo h 7 (dp (a ++ [x])), aQ h 162 (dp (a ++ [x]))) := by
 have := cy (tab := ba.tab) (lo := h.length) (h := h) (t := 116) (e := 162) rfl rfl (by decide) (Nat.le_refl _) (dp a) [zL x] (fun r hr => (sf a r hr).1) (by rw [nS]; simp only [List.length_cons, List.length_nil, ca]; show (a.length + (0 + 1)) * 104 <= _; omega) (by rw [nS]; simp [ca]; omega);rw [show dp (a ++ [x]) = dp a ++ [zL x] by simp [dp]]
 exact this
theorem DT {K : Nat} {v0 : List AV} {r0 : AV} {p : bp} (H : Pk p K) (fuel : Nat) (hf : fuel <= 60) (l : List sV) (hl : ∀ x, x ∈ l -> jN p x) (hl2 : l.length <= 16384) (k : Nat) (hk : 18000 <= k) (h : aj) (lo : Nat) :
  ∃ rs, call Tryz.prog (bn K v0 r0) (k + 1) lo (.func 65) [.agg (bY p), .int .i64 fuel, bg 2 (b6 l)] h = some (bg 7 (dp rs), h) /\ Gp p fuel l rs := by
 have hK := H.hK;have hrun := fun (x : sV) (hx : jN p x) H1 => AL (K := K) (v0 := v0) (r0 := r0) H.hd (by omega) H.hKb H.hN H.hb H.hrow fuel hf x.1 x.2 hx.1 hx.2.1 (k := k - 1) (by omega) H1 H1.length
 rw [show k - 1 + 1 = k by omega] at hrun
 suffices hz : ∃ out, call Tryz.prog (bn K v0 r0) (k + 1) lo (.func 65) [.agg (bY p), .int .i64 fuel, bg 2 (b6 l)] h = some out /\ ∃ rs, out = (bg 7 (dp rs), h) /\ Gp p fuel l rs by
  obtain ⟨out, h1, rs, rfl, h2⟩ := hz;exact ⟨rs, h1, h2⟩
 have hfin := fun rs => ed (h := h) (e := 162) (sz := 7) (dp rs) (sf _)
 cases l with
 | nil =>
  obtain ⟨w, vs, body⟩ := p;apply cY Tryz.func65 U (Nb U) U U;(repeat' (first | apply ab | refine Wr 0 U U ?_ | refine Wr 1 U U ?_ | refine Wr 2 U U ?_ | apply ae));apply aS (S := HV h ⟨w, vs, body⟩ fuel (bg 2 (b6 []))) (l := ([] : List sV)) (a0 := []) (fun _ _ a => a = []) (by simp) (by show 0 < k; omega) rfl rfl
  ·intro i x rst a hi
   simp at hi
  ·rintro a rfl
   (repeat' (first | apply ab | refine af U U ?_ | (refine Wo 3 U ?_;refine Tc 3 U (Tf U U U (Tn ?_))) | refine Wr 6 U U ?_ | apply am | apply aC));exact ⟨.inl rfl, _, hfin [], [], rfl, rfl, fun i x r hi => by simp at hi⟩
 | cons l0 lr =>
  generalize hlg : l0 :: lr = l at *;have hLv : bg 2 (b6 l) = .vs 2 (b6 l) := by rw [<- hlg]; rfl
  rw [hLv];obtain ⟨w, vs, body⟩ := p;dsimp only at hrun;apply cY Tryz.func65 U (Nb U) U U;(repeat' (first | apply ab | refine Wr 0 U U ?_ | refine Wr 1 U U ?_ | refine Wr 2 U U ?_ | apply ae));apply aS (S := HV h ⟨w, vs, body⟩ fuel (.vs 2 (b6 l))) (l := l) (a0 := []) (fun i _ a => a.length = i /\ ∀ (j : Nat) x r, l[j]? = some x -> a[j]? = some r -> vV ⟨w, vs, body⟩ fuel x r) (by omega) (by omega) rfl ⟨rfl, fun j x r _ hj => by simp at hj⟩
  ·rintro i x rst a hi hd hil ⟨j1, j2⟩
   have hrow := sg hi;have hlt : decide ((i : Int) < ((b6 l).length : Int)) = true := by rw [cu]; exact decide_eq_true (by omega)
   obtain ⟨m, trs, c, wh, r1, r2⟩ := hrun x (hl x (List.mem_of_getElem? hi)) (aQ h 162 (dp a));replace r1 : call Tryz.prog (bn K v0 r0) k (aQ h 162 (dp a)).length (.func 105) [.agg (bY ⟨w, vs, body⟩), .int .i64 fuel, .agg (nR x.1 x.2)] (aQ h 162 (dp a)) = some (.agg (zL ⟨m, trs, c, wh⟩), aQ h 162 (dp a)) := r1;have hap := B7 h a ⟨m, trs, c, wh⟩ (by omega);clear hrun hfin;obtain ⟨xs, xp⟩ := x;dsimp only at r1 hrow r2;clear hl hl2 hlg hLv H;have hst : ∀ (sz : Nat) (rows : List (List AV)), bg sz rows = .nils \/ ∃ n rows', bg sz rows = .vs n rows' := fun sz rows => by
    cases rows with
    | nil => exact .inl rfl
    | cons x rows => exact .inr ⟨_, _, rfl⟩
   obtain ⟨a1, a2, a3, a4, a5, a6, a7, ea, e3, e4⟩ : ∃ a1 a2 a3 a4 a5 a6 a7, zL ⟨m, trs, c, wh⟩ = [.int .i64 a1, .vs 1 a2, a3, a4, .int .i64 a5, .int .i64 a6, .int .i64 a7] /\ (a3 = .nils \/ ∃ n rows', a3 = .vs n rows') /\ (a4 = .nils \/ ∃ n rows', a4 = .vs n rows') := ⟨_, _, _, _, _, _, _, rfl, hst _ _, hst _ _⟩;rw [ea] at r1 hap;clear hst ea;have hJ : (a ++ [(⟨m, trs, c, wh⟩ : Rv)]).length = i + 1 /\ ∀ (j : Nat) x r, l[j]? = some x -> (a ++ [(⟨m, trs, c, wh⟩ : Rv)])[j]? = some r -> vV ⟨w, vs, body⟩ fuel x r := by
    refine ⟨by simp [j1], fun j y r h1 h2 => ?_⟩
    rw [List.getElem?_append] at h2
    split at h2
    ·exact j2 j y r h1 h2
    ·rename_i hnl
     have hj : j = i := by
      have := (List.getElem?_eq_some_iff.1 h2).1;simp at this; omega
     subst hj;rw [hi] at h1;injection h1 with h1;subst h1;rw [show j - a.length = 0 by omega] at h2
     simp at h2;subst h2;exact r2
   generalize a ++ [(⟨m, trs, c, wh⟩ : Rv)] = X at *;rcases e3 with rfl | ⟨n3, w3, rfl⟩
   ·rcases e4 with rfl | ⟨n4, w4, rfl⟩
    ·(repeat' (first | apply ab | refine ah U U ?_ | (refine Wo 3 U ?_;refine Tc 3 U (Tt U U ‹_› (Tn ?_))) | (refine Wd 5 [0,0,0,0,0,24,56,126,254,511,1023] U U (by decide +kernel) ?_;refine Uf U U U (Uf U U U (Uf U U U (Uf U U U (Uf U U U (Uf U (aq U U U U U ‹_›) U ?_))))) <;> refine Uf U U U (Uf U (aa U U U U ‹_›) U ?_) <;> refine Uf U U U (Uo U (aN U U U U U ‹_›) ?_) <;> refine Uo U U (Un ?_)) | refine Wr 4 U U ?_ | apply ak | apply ae))
     exact ⟨X, rfl, hJ⟩
    ·(repeat' (first | apply ab | refine ah U U ?_ | (refine Wo 3 U ?_;refine Tc 3 U (Tt U U ‹_› (Tn ?_))) | (refine Wd 5 [0,0,0,0,0,24,56,126,254,511,1023] U U (by decide +kernel) ?_;refine Uf U U U (Uf U U U (Uf U U U (Uf U U U (Uf U U U (Uf U (aq U U U U U ‹_›) U ?_))))) <;> refine Uf U U U (Uf U (aa U U U U ‹_›) U ?_) <;> refine Uf U U U (Uo U (aN U U U U U ‹_›) ?_) <;> refine Uo U U (Un ?_)) | refine Wr 4 U U ?_ | apply ak | apply ae))
     exact ⟨X, rfl, hJ⟩
   ·rcases e4 with rfl | ⟨n4, w4, rfl⟩
    ·(repeat' (first | apply ab | refine ah U U ?_ | (refine Wo 3 U ?_;refine Tc 3 U (Tt U U ‹_› (Tn ?_))) | (refine Wd 5 [0,0,0,0,0,24,56,126,254,511,1023] U U (by decide +kernel) ?_;refine Uf U U U (Uf U U U (Uf U U U (Uf U U U (Uf U U U (Uf U (aq U U U U U ‹_›) U ?_))))) <;> refine Uf U U U (Uf U (aa U U U U ‹_›) U ?_) <;> refine Uf U U U (Uo U (aN U U U U U ‹_›) ?_) <;> refine Uo U U (Un ?_)) | refine Wr 4 U U ?_ | apply ak | apply ae))
     exact ⟨X, rfl, hJ⟩
    ·(repeat' (first | apply ab | refine ah U U ?_ | (refine Wo 3 U ?_;refine Tc 3 U (Tt U U ‹_› (Tn ?_))) | (refine Wd 5 [0,0,0,0,0,24,56,126,254,511,1023] U U (by decide +kernel) ?_;refine Uf U U U (Uf U U U (Uf U U U (Uf U U U (Uf U U U (Uf U (aq U U U U U ‹_›) U ?_))))) <;> refine Uf U U U (Uf U (aa U U U U ‹_›) U ?_) <;> refine Uf U U U (Uo U (aN U U U U U ‹_›) ?_) <;> refine Uo U U (Un ?_)) | refine Wr 4 U U ?_ | apply ak | apply ae))
     exact ⟨X, rfl, hJ⟩
  ·rintro a ⟨j1, j2⟩
   have hlt : decide ((l.length : Int) < ((b6 l).length : Int)) = false := by rw [cu]; exact decide_eq_false (by omega)
   (repeat' (first | apply ab | refine af U U ?_ | (refine Wo 3 U ?_;refine Tc 3 U (Tf U U ‹_› (Tn ?_))) | refine Wr 6 U U ?_ | apply am | apply aC));exact ⟨.inl rfl, _, hfin a, a, rfl, j1, j2⟩
def sh (low n : Int) (i : Nat) : Bool := !decide (nB n i > nB low i)
def nT (low n : Int) : Bool := !decide (n < 0) && !decide (n > 15) && (List.range 4).all (sh low n)
def HW (h : aj) (low n : Int) (i : Int) (_ : Unit) : St :=
 {env := [(0, .v (.int .i64 low)), (1, .v (.int .i64 n)), (5, .v (.int .i64 i))], loc := [], heap := h, inRound := false, lo := h.length }
theorem DU (low n : Int) (h0 : 0 <= low) (h1 : low <= 15) (k : Nat) (hk : 60 <= k) (h : aj) (lo : Nat) : call Tryz.prog ba (k + 1) lo (.func 169) [.int .i64 low, .int .i64 n] h = some (.bool (nT low n), h) := by
 unfold nT;cases c1 : decide (n < 0) with
 | true =>
  apply ai Tryz.func169 U (Nb U) U U;(repeat' (first | apply ab | refine ah U U ?_ | refine Wr 0 U U ?_ | (refine Wo 1 U ?_;refine Tc 1 U (Tt U U ‹_› (Tc 2 U (Tk U (Tc 1 U (Tn ?_)))))) | refine Wr 2 U U ?_ | apply am));exact ⟨.inl rfl, rfl⟩
 | false =>
 cases c2 : decide (n > 15) with
 | true =>
  apply ai Tryz.func169 U (Nb U) U U;(repeat' (first | apply ab | refine ah U U ?_ | refine Wr 0 U U ?_ | (refine Wo 1 U ?_;refine Tc 1 U (Tf U U ‹_› (Tc 2 U (Tt U U ‹_› (Tc 1 U (Tn ?_)))))) | refine Wr 2 U U ?_ | apply am));exact ⟨.inl rfl, rfl⟩
 | false =>
 have n0 := of_decide_eq_false c1;have n1 := of_decide_eq_false c2;have hb1 := fun (i : Nat) (hi : i < 4) => qh n (by omega) (by omega) i (by omega) (k - 2) (by omega) h h.length
 have hb2 := fun (i : Nat) (hi : i < 4) => qh low (by omega) (by omega) i (by omega) (k - 2) (by omega) h h.length
 rw [show k - 2 + 2 = k by omega] at hb1 hb2
 apply ai Tryz.func169 U (Nb U) U U;(repeat' (first | apply ab | refine af U U ?_ | refine Wr 0 U U ?_ | (refine Wo 1 U ?_;refine Tc 1 U (Tf U U ‹_› (Tc 2 U (Tf U U ‹_› (Tc 1 U (Tn ?_)))))) | refine Wr 3 U U ?_ | apply ak | apply ae));apply aS (S := HW h low n) (l := List.range 4) (a0 := ()) (fun _ rest _ => rest.all (sh low n) = (List.range 4).all (sh low n)) (by rw [List.length_range]; omega) (by rw [List.length_range]; omega) rfl rfl
 ·intro i x rest a hi hd hil hJ
  have hlt : decide ((i : Int) < 4) = true := decide_eq_true (by rw [List.length_range] at hil; omega);rw [List.length_range] at hil;have hx : x = i := by
   rw [List.getElem?_range (by omega)] at hi;injection hi with hi;exact hi.symm
  subst hx;have q1 := hb1 x hil;have q2 := hb2 x hil;rw [List.all_cons] at hJ;clear hb1 hb2;cases hc : decide (nB n x > nB low x) with
  | true =>
   (repeat' (first | apply ab | refine ah U U ?_ | (refine Wo 4 U ?_;refine Tc 1 U (Tt U U ‹_› (Tn ?_))) | (refine Wo 6 U ?_;refine Tc 2 U (Tg U (aa U U U U ‹_›) ?_) <;> refine Tc 2 U (Tg U (aa U U U U ‹_›) ?_) <;> refine Tt U U ‹_› (Tn ?_)) | refine Wr 7 U U ?_ | apply ak | apply ae | apply am));have hf : sh low n x = false := by unfold sh; rw [hc]; rfl
   rw [hf, Bool.false_and] at hJ;exact ⟨.inl rfl, by rw [<- hJ]; rfl⟩
  | false =>
   (repeat' (first | apply ab | refine ah U U ?_ | refine af U U ?_ | (refine Wo 4 U ?_;refine Tc 1 U (Tt U U ‹_› (Tn ?_))) | (refine Wo 6 U ?_;refine Tc 2 U (Tg U (aa U U U U ‹_›) ?_) <;> refine Tc 2 U (Tg U (aa U U U U ‹_›) ?_) <;> refine Tf U U ‹_› (Tn ?_)) | refine Wr 5 U U ?_ | apply ak | apply ae));have hf : sh low n x = true := by unfold sh; rw [hc]; rfl
   rw [hf, Bool.true_and] at hJ;exact ⟨(), rfl, hJ⟩
 ·intro a hJ
  have hge : decide (((List.range 4).length : Int) < 4) = false := rfl;(repeat' (first | apply ab | refine af U U ?_ | (refine Wo 4 U ?_;refine Tc 1 U (Tf U U U (Tn ?_))) | refine Wr 8 U U ?_ | apply am | apply aC));refine ⟨.inl rfl, ?_⟩;rw [<- hJ]
  rfl
theorem qk (b : Int) (hb : b ≠ 0) {v : Bool} (hv : ((IntKind.i64.wrap ((1 : Int).tdiv b)).tmod 2 == 1) = v) (k : Nat) (h : aj) (lo : Nat) : call Tryz.prog ba (k + 1) lo (.func 107) [.int .i64 1, .int .i64 b] h = some (.bool v, h) := by
 have h2 : (2 : Int) ≠ 0 := by omega
 cases v
 ·apply ai Tryz.func107 U (Nb U) U U
  (repeat' (first | apply ab | refine Wr 0 U U ?_ | (refine Wo 1 U ?_;refine Tc 2 U (Tg U (l9 U U U ‹_›) ?_) <;> refine Tg U (gu U U U ‹_›) ?_ <;> refine Tf U U ‹_› (Tc 1 U (Tn ?_))) | apply am));exact ⟨.inl rfl, rfl⟩
 ·apply ai Tryz.func107 U (Nb U) U U
  (repeat' (first | apply ab | refine Wr 0 U U ?_ | (refine Wo 1 U ?_;refine Tc 2 U (Tg U (l9 U U U ‹_›) ?_) <;> refine Tg U (gu U U U ‹_›) ?_ <;> refine Tt U U ‹_› (Tc 1 U (Tn ?_))) | apply am));exact ⟨.inl rfl, rfl⟩
theorem B8 (h : aj) (a : List Ot) (x : Ot) (hl : a.length < 1000000) : append ba.tab h.length (aQ h 218 (cj a)) 159 (bo h 2 (cj a)) (.vs 2 [Ha x]) = some (bo h 2 (cj (a ++ [x])), aQ h 218 (cj (a ++ [x]))) := by
 have := cy (tab := ba.tab) (lo := h.length) (h := h) (t := 159) (e := 218) rfl rfl (by decide) (Nat.le_refl _) (cj a) [Ha x] (fun r hr => (ll a r hr).1) (by rw [eI]; simp only [List.length_cons, List.length_nil, ca]; show (a.length + (0 + 1)) * 16 <= _; omega) (by rw [eI]; simp [ca]; omega);rw [show cj (a ++ [x]) = cj a ++ [Ha x] by simp [cj]]
 exact this
def fQ (low : Int) (l : List Ot) : List Ot := l.filter fun o => nT low o.1
def HX (h : aj) (low : Int) (L : AV) (i : Int) (a : List Ot) : St :=
 {env := [(0, .v (.int .i64 low)), (1, .v L), (5, .v (bo h 2 (cj a))), (6, .v (.int .i64 i))], loc := [], heap := aQ h 218 (cj a), inRound := false, lo := h.length }
theorem xJ {l : List Ot} {i : Nat} {x : Ot} (h : l[i]? = some x) : (cj l)[i]? = some [.int .i64 x.1, .int .i64 x.2] := by simp [cj, Ha, h]
theorem uG (low : Int) (h0 : 0 <= low) (h1 : low <= 15) (l : List Ot) (hl : l.length <= 300) (k : Nat) (hk : 500 <= k) (h : aj) (lo : Nat) : call Tryz.prog ba (k + 1) lo (.func 147) [.int .i64 low, bg 2 (cj l)] h = some (bg 2 (cj (fQ low l)), h) := by
 have hfin := fun a => ed (h := h) (e := 218) (sz := 2) (cj a) (ll _)
 cases l with
 | nil =>
  show call _ _ _ _ _ [.int .i64 low, .nils] _ = _;apply ai Tryz.func147 U (Nb U) U U;(repeat' (first | apply ab | refine Wr 0 U U ?_ | refine Wr 1 U U ?_ | refine Wr 2 U U ?_ | apply ae));apply aS (S := HX h low .nils) (l := ([] : List Ot)) (a0 := []) (fun _ _ a => a = []) (by simp) (by show 0 < k; omega) rfl rfl
  ·intro i x rst a hi
   simp at hi
  ·rintro a rfl
   (repeat' (first | apply ab | refine af U U ?_ | (refine Wo 3 U ?_;refine Tc 3 U (Tf U U U (Tn ?_))) | refine Wr 7 U U ?_ | apply am | apply aC));exact ⟨.inl rfl, hfin []⟩
 | cons l0 lr =>
  generalize hlg : l0 :: lr = l at *;have hLv : bg 2 (cj l) = .vs 2 (cj l) := by rw [<- hlg]; rfl
  rw [hLv];have hs := fun (n : Int) (H : aj) => DU low n h0 h1 (k - 1) (by omega) H h.length
  rw [show k - 1 + 1 = k by omega] at hs
  apply ai Tryz.func147 U (Nb U) U U;(repeat' (first | apply ab | refine Wr 0 U U ?_ | refine Wr 1 U U ?_ | refine Wr 2 U U ?_ | apply ae));apply aS (S := HX h low (.vs 2 (cj l))) (l := l) (a0 := []) (fun i rest a => a ++ fQ low rest = fQ low l /\ a.length <= i) (by omega) (by omega) rfl ⟨rfl, Nat.le_refl _⟩
  ·rintro i ⟨n, x⟩ rst a hi hd hil ⟨j1, j2⟩
   have hrow := xJ hi;dsimp only at hrow;have hlt : decide ((i : Int) < ((cj l).length : Int)) = true := by rw [eI]; exact decide_eq_true (by omega)
   have hap := B8 h a (n, x) (by omega);have hs1 := hs n (aQ h 218 (cj a));clear hs hfin hlg hLv;have hj : fQ low ((n, x) :: rst) = if nT low n = true then (n, x) :: fQ low rst else fQ low rst := by unfold fQ; rw [List.filter_cons]
   rw [hj] at j1;cases hc : nT low n with
   | true =>
    rw [hc] at hs1 j1;rw [if_pos rfl] at j1;(repeat' (first | apply ab | refine ah U U ?_ | (refine Wo 3 U ?_;refine Tc 3 U (Tt U U ‹_› (Tn ?_))) | (refine Wo 5 U ?_;refine Tc 3 U (Tg U (aq U U U U U ‹_›) ?_) <;> refine Tc 1 U (Tg U U (Tt U (aa U U U U ‹_›) U ?_)) <;> refine Tn ?_) | (refine Wo 6 U ?_;refine Tc 3 U (Tg U (aq U U U U U ‹_›) ?_) <;> refine Tg U U (Tc 1 U (Tg U (aN U U U U U ‹_›) ?_)) <;> refine Tc 1 U (Tn ?_)) | refine Wr 4 U U ?_ | apply ak | apply ae));exact ⟨a ++ [(n, x)], rfl, by rw [<- j1]; simp, by simp; omega⟩
   | false =>
    rw [hc] at hs1 j1;rw [if_neg (by simp)] at j1;(repeat' (first | apply ab | refine ah U U ?_ | refine af U U ?_ | (refine Wo 3 U ?_;refine Tc 3 U (Tt U U ‹_› (Tn ?_))) | (refine Wo 5 U ?_;refine Tc 3 U (Tg U (aq U U U U U ‹_›) ?_) <;> refine Tc 1 U (Tg U U (Tf U (aa U U U U ‹_›) U ?_)) <;> refine Tn ?_) | refine Wr 4 U U ?_ | apply ak | apply ae));exact ⟨a, rfl, j1, by omega⟩
  ·rintro a ⟨j1, j2⟩
   have hlt : decide ((l.length : Int) < ((cj l).length : Int)) = false := by rw [eI]; exact decide_eq_false (by omega)
   have e : a = fQ low l := by rw [<- j1]; simp [fQ]
   subst e;(repeat' (first | apply ab | refine af U U ?_ | (refine Wo 3 U ?_;refine Tc 3 U (Tf U U ‹_› (Tn ?_))) | refine Wr 7 U U ?_ | apply am | apply aC));exact ⟨.inl rfl, hfin _⟩
def oqS (h : aj) (L : AV) (i : Int) (_ : Unit) : St :=
 {env := [(0, .v L), (1, .v L), (5, .v (.int .i64 i))], loc := [], heap := h, inRound := false, lo := h.length }
theorem B9 {K : Nat} {v0 : List AV} {r0 : AV} (l : List Ot) (hl : l.length <= 300) (k : Nat) (hk : 500 <= k) (h : aj) (lo : Nat) : call Tryz.prog (bn K v0 r0) (k + 1) lo (.func 146) [bg 2 (cj l), bg 2 (cj l)] h = some (.bool true, h) := by
 cases l with
 | nil =>
  show call _ _ _ _ _ [.nils, .nils] _ = _;apply ai Tryz.func146 U (Nb U) U U;(repeat' (first | apply ab | refine af U U ?_ | refine Wr 0 U U ?_ | (refine Wo 1 U ?_;refine Tc 4 U (Tf U U U (Tn ?_))) | refine Wr 3 U U ?_ | apply ak | apply ae));apply aS (S := oqS h .nils) (l := ([] : List Ot)) (a0 := ()) (fun _ _ _ => True) (by simp) (by show 0 < k; omega) rfl trivial
  ·intro i x rst a hi
   simp at hi
  ·intro a _
   (repeat' (first | apply ab | refine af U U ?_ | (refine Wo 4 U ?_;refine Tc 3 U (Tf U U U (Tn ?_))) | refine Wr 8 U U ?_ | apply am | apply aC));exact ⟨.inl rfl, rfl⟩
 | cons l0 lr =>
  generalize hlg : l0 :: lr = l at *;have hLv : bg 2 (cj l) = .vs 2 (cj l) := by rw [<- hlg]; rfl
  rw [hLv];have hne : (((cj l).length : Int) != ((cj l).length : Int)) = false := by simp
  apply ai Tryz.func146 U (Nb U) U U;(repeat' (first | apply ab | refine af U U ?_ | refine Wr 0 U U ?_ | (refine Wo 1 U ?_;refine Tc 4 U (Tf U U ‹_› (Tn ?_))) | refine Wr 3 U U ?_ | apply ak | apply ae));apply aS (S := oqS h (.vs 2 (cj l))) (l := l) (a0 := ()) (fun _ _ _ => True) (by omega) (by omega) rfl trivial
  ·rintro i ⟨n, x⟩ rst a hi hd hil _
   have hrow := xJ hi;dsimp only at hrow;have hlt : decide ((i : Int) < ((cj l).length : Int)) = true := by rw [eI]; exact decide_eq_true (by omega)
   have hbin : Go.Ev.binop (bn K v0 r0).tab (bn K v0 r0).eqs .neq 218 (.agg [.int .i64 n, .int .i64 x]) (.agg [.int .i64 n, .int .i64 x]) = some (.bool false) := by
    show (jn (bn K v0 r0).tab (bn K v0 r0).eqs 218 [.int .i64 n, .int .i64 x] [.int .i64 n, .int .i64 x]).map (fun r => AV.bool !r) = _;have : jn (bn K v0 r0).tab (bn K v0 r0).eqs 218 [.int .i64 n, .int .i64 x] [.int .i64 n, .int .i64 x] = mU ba.tab [(0, 3), (1, 3)] [.int .i64 n, .int .i64 x] [.int .i64 n, .int .i64 x] := rfl;rw [this];have hk3 : ∀ a : Int, gm (.int .i64) (.int .i64 a) (.int .i64 a) = some true := fun a => by simp [gm]
    have hl3 : Go.Ev.look ba.tab 3 = some ⟨.int .i64, 1, 8, [.int .i64 0]⟩ := rfl;simp only [mU, hl3, hk3]
    rfl
   clear hlg hLv;(repeat' (first | apply ab | refine ah U U ?_ | refine af U U ?_ | (refine Wo 4 U ?_;refine Tc 3 U (Tt U U ‹_› (Tn ?_))) | (refine Wd 6 [0,0,3,7,0,0,48,112,255] U U (by decide +kernel) ?_;refine Uf U U U (Uf U U U (Uf U (aq U U U U U ‹_›) U ?_)) <;> refine Uf U U U (Uf U U U (Uf U U U (Uf U (aq U U U U U ‹_›) U ?_))) <;> refine Uf U U U (Uu U (HO U U U ‹_›) U ?_) <;> refine Un ?_) | refine Wr 5 U U ?_ | apply ak | apply ae));exact ⟨(), rfl, trivial⟩
  ·intro a _
   have hlt : decide ((l.length : Int) < ((cj l).length : Int)) = false := by rw [eI]; exact decide_eq_false (by omega)
   (repeat' (first | apply ab | refine af U U ?_ | (refine Wo 4 U ?_;refine Tc 3 U (Tf U U ‹_› (Tn ?_))) | refine Wr 8 U U ?_ | apply am | apply aC));exact ⟨.inl rfl, rfl⟩
theorem xK {l : List Rv} {i : Nat} {r : Rv} (h : l[i]? = some r) : (dp l)[i]? = some [.int .i64 r.m.e, .vs 1 (ag r.m.st), bg 2 (cj r.m.outs), bg 3 (cN r.trs), .int .i64 r.c, .int .i64 r.m.u, .int .i64 r.wh] := by simp [dp, h, zL, xG]
def si (rs : List Rv) : Bool := rs.all fun r => !(r.m.e != 0)
def dnS (h : aj) (rs : List Rv) (i : Int) (_ : Unit) : St :=
 {env := [(0, .v (.vs 7 (dp rs))), (3, .v (.int .i64 i))], loc := [], heap := h, inRound := false, lo := h.length }
theorem DV (rs : List Rv) (hl : rs.length <= 100) (k : Nat) (hk : 500 <= k) (h : aj) (lo : Nat) : call Tryz.prog ba (k + 1) lo (.func 109) [.vs 7 (dp rs)] h = some (.bool (si rs), h) := by
 apply ai Tryz.func109 U (Nb U) U U;(repeat' (first | apply ab | refine Wr 0 U U ?_ | refine Wr 1 U U ?_ | apply ae));apply aS (S := dnS h rs) (l := rs) (a0 := ()) (fun _ rest _ => si rest = si rs) (by omega) (by omega) rfl rfl
 ·rintro i r rst a hi hd hil hJ
  have hrow := xK hi;have hlt : decide ((i : Int) < ((dp rs).length : Int)) = true := by rw [nS]; exact decide_eq_true (by omega)
  have hj : si (r :: rst) = (!(r.m.e != 0) && si rst) := rfl;rw [hj] at hJ;generalize bg 2 (cj r.m.outs) = a1 at hrow;generalize bg 3 (cN r.trs) = a2 at hrow;cases hc : (r.m.e != 0) with
  | true =>
   (repeat' (first | apply ab | refine ah U U ?_ | (refine Wo 2 U ?_;refine Tc 3 U (Tt U U ‹_› (Tn ?_))) | (refine Wo 4 U ?_;refine Tc 2 U (Tg U (aq U U U U U ‹_›) ?_) <;> refine Tc 1 U (Tg U U (Tt U U ‹_› (Tn ?_)))) | refine Wr 5 U U ?_ | apply ak | apply ae | apply am));rw [hc] at hJ;exact ⟨.inl rfl, by rw [<- hJ]; rfl⟩
  | false =>
   (repeat' (first | apply ab | refine ah U U ?_ | refine af U U ?_ | (refine Wo 2 U ?_;refine Tc 3 U (Tt U U ‹_› (Tn ?_))) | (refine Wo 4 U ?_;refine Tc 2 U (Tg U (aq U U U U U ‹_›) ?_) <;> refine Tc 1 U (Tg U U (Tf U U ‹_› (Tn ?_)))) | refine Wr 3 U U ?_ | apply ak | apply ae));rw [hc] at hJ;exact ⟨(), rfl, by simpa using hJ⟩
 ·rintro a hJ
  have hlt : decide ((rs.length : Int) < ((dp rs).length : Int)) = false := by rw [nS]; exact decide_eq_false (by omega)
  (repeat' (first | apply ab | refine af U U ?_ | (refine Wo 2 U ?_;refine Tc 3 U (Tf U U ‹_› (Tn ?_))) | refine Wr 6 U U ?_ | apply am | apply aC));exact ⟨.inl rfl, by rw [<- hJ]; rfl⟩
theorem Ca (low : Int) (l : List Ot) : (fQ low l).length <= l.length := List.length_filter_le _ _
theorem nU (sz : Nat) (rows : List (List AV)) : bg sz rows = .nils \/ ∃ n rows', bg sz rows = .vs n rows' := by
 cases rows with
 | nil => exact .inl rfl
 | cons x rows => exact .inr ⟨_, _, rfl⟩
theorem uH {K : Nat} {v0 : List AV} {r0 : AV} (hK : 1000 <= K) (low : Int) (h0 : 0 <= low) (h1 : low <= 15) (pre post : aF) (r1 r2 : Rv) (hl1 : r1.m.outs.length <= 300) (hl2 : r2.m.outs.length <= 300) (hs : fQ low r1.m.outs = fQ low r2.m.outs) (k : Nat) (hk : 1500 <= k) (h : aj) (lo : Nat) :
  call Tryz.prog (bn K v0 r0) (k + 1) lo (.func 110) [.agg (pY 2 pre post low 1), .agg (zL r1), .agg (zL r2)] h = some (.bool true, h) := by
 have b1 := dk (k := k) (v0 := v0) (r0 := r0) rfl rfl (qk 1 (by omega) (v := true) (by decide) (K - 1) h h.length) (by omega);have b2 := dk (k := k) (v0 := v0) (r0 := r0) rfl rfl (qk 2 (by omega) (v := false) (by decide) (K - 1) h h.length) (by omega);have b4 := dk (k := k) (v0 := v0) (r0 := r0) rfl rfl (qk 4 (by omega) (v := false) (by decide) (K - 1) h h.length) (by omega);have hS1 := dk (k := k) (v0 := v0) (r0 := r0) rfl rfl (uG low h0 h1 r1.m.outs hl1 (K - 1) (by omega) h h.length) (by omega);have hS2 := dk (k := k) (v0 := v0) (r0 := r0) rfl rfl (uG low h0 h1 r2.m.outs hl2 (K - 1) (by omega) h h.length) (by omega);have hO := B9 (K := K) (v0 := v0) (r0 := r0) (fQ low r2.m.outs) (by have := Ca low r2.m.outs; omega) (k - 1) (by omega) h h.length;rw [hs] at hS1;rw [show K - 1 + 1 = K by omega] at b1 b2 b4 hS1 hS2
 rw [show k - 1 + 1 = k by omega] at hO
 obtain ⟨o1, n1, c1, l1⟩ := pre;obtain ⟨o2, n2, c2, l2⟩ := post;unfold zL xG;clear hs hl1 hl2;generalize bg 2 (cj (fQ low r2.m.outs)) = X at *;generalize bg 3 (cN r1.trs) = T1 at *;generalize bg 3 (cN r2.trs) = T2 at *;rcases nU 2 (cj r1.m.outs) with e | ⟨m1, w1, e⟩
 ·rw [e] at hS1 ⊢
  rcases nU 2 (cj r2.m.outs) with e' | ⟨m2, w2, e'⟩
  ·rw [e'] at hS2 ⊢
   apply ai Tryz.func110 U (Nb U) U U;(repeat' (first | apply ab | refine af U U ?_ | refine Wr 0 U U ?_ | (refine Wd 1 [0,1,3,7,15,31,15,79,255,15,527,15,2063,8191,16383,32767,65535] U U (by decide +kernel) ?_;refine Uo U U (Uo U U (Ut U (aa U U U U ‹_›) U ?_)) <;> refine Uo U U (Uf U U U (Uf U U U (Uf U U U (Uf U U U (Uf U (aa U U U U ‹_›) U ?_))))) <;> refine Uf U U U (Uf U U U (Uf U U U (Uf U U U (Uo U (aa U U U U ‹_›) ?_)))) <;> refine Ut U (aa U U U U ‹_›) U ?_ <;> refine Uo U U (Uo U U (Un ?_))) | (refine Wo 3 U ?_;refine Tc 2 U (Tf U (aa U U U U ‹_›) U ?_) <;> refine Tc 5 U (Tk U (Tc 2 U (Tn ?_)))) | (refine Wo 5 U ?_;refine Tc 2 U (Tf U (aa U U U U ‹_›) U ?_) <;> refine Tc 6 U (Tk U (Tc 2 U (Tn ?_)))) | apply ak | apply am))
   exact ⟨.inl rfl, rfl⟩
  ·rw [e'] at hS2 ⊢
   apply ai Tryz.func110 U (Nb U) U U;(repeat' (first | apply ab | refine af U U ?_ | refine Wr 0 U U ?_ | (refine Wd 1 [0,1,3,7,15,31,15,79,255,15,527,15,2063,8191,16383,32767,65535] U U (by decide +kernel) ?_;refine Uo U U (Uo U U (Ut U (aa U U U U ‹_›) U ?_)) <;> refine Uo U U (Uf U U U (Uf U U U (Uf U U U (Uf U U U (Uf U (aa U U U U ‹_›) U ?_))))) <;> refine Uf U U U (Uf U U U (Uf U U U (Uf U U U (Uo U (aa U U U U ‹_›) ?_)))) <;> refine Ut U (aa U U U U ‹_›) U ?_ <;> refine Uo U U (Uo U U (Un ?_))) | (refine Wo 3 U ?_;refine Tc 2 U (Tf U (aa U U U U ‹_›) U ?_) <;> refine Tc 5 U (Tk U (Tc 2 U (Tn ?_)))) | (refine Wo 5 U ?_;refine Tc 2 U (Tf U (aa U U U U ‹_›) U ?_) <;> refine Tc 6 U (Tk U (Tc 2 U (Tn ?_)))) | apply ak | apply am))
   exact ⟨.inl rfl, rfl⟩
 ·rw [e] at hS1 ⊢
  rcases nU 2 (cj r2.m.outs) with e' | ⟨m2, w2, e'⟩
  ·rw [e'] at hS2 ⊢
   apply ai Tryz.func110 U (Nb U) U U;(repeat' (first | apply ab | refine af U U ?_ | refine Wr 0 U U ?_ | (refine Wd 1 [0,1,3,7,15,31,15,79,255,15,527,15,2063,8191,16383,32767,65535] U U (by decide +kernel) ?_;refine Uo U U (Uo U U (Ut U (aa U U U U ‹_›) U ?_)) <;> refine Uo U U (Uf U U U (Uf U U U (Uf U U U (Uf U U U (Uf U (aa U U U U ‹_›) U ?_))))) <;> refine Uf U U U (Uf U U U (Uf U U U (Uf U U U (Uo U (aa U U U U ‹_›) ?_)))) <;> refine Ut U (aa U U U U ‹_›) U ?_ <;> refine Uo U U (Uo U U (Un ?_))) | (refine Wo 3 U ?_;refine Tc 2 U (Tf U (aa U U U U ‹_›) U ?_) <;> refine Tc 5 U (Tk U (Tc 2 U (Tn ?_)))) | (refine Wo 5 U ?_;refine Tc 2 U (Tf U (aa U U U U ‹_›) U ?_) <;> refine Tc 6 U (Tk U (Tc 2 U (Tn ?_)))) | apply ak | apply am))
   exact ⟨.inl rfl, rfl⟩
  ·rw [e'] at hS2 ⊢
   apply ai Tryz.func110 U (Nb U) U U;(repeat' (first | apply ab | refine af U U ?_ | refine Wr 0 U U ?_ | (refine Wd 1 [0,1,3,7,15,31,15,79,255,15,527,15,2063,8191,16383,32767,65535] U U (by decide +kernel) ?_;refine Uo U U (Uo U U (Ut U (aa U U U U ‹_›) U ?_)) <;> refine Uo U U (Uf U U U (Uf U U U (Uf U U U (Uf U U U (Uf U (aa U U U U ‹_›) U ?_))))) <;> refine Uf U U U (Uf U U U (Uf U U U (Uf U U U (Uo U (aa U U U U ‹_›) ?_)))) <;> refine Ut U (aa U U U U ‹_›) U ?_ <;> refine Uo U U (Uo U U (Un ?_))) | (refine Wo 3 U ?_;refine Tc 2 U (Tf U (aa U U U U ‹_›) U ?_) <;> refine Tc 5 U (Tk U (Tc 2 U (Tn ?_)))) | (refine Wo 5 U ?_;refine Tc 2 U (Tf U (aa U U U U ‹_›) U ?_) <;> refine Tc 6 U (Tk U (Tc 2 U (Tn ?_)))) | apply ak | apply am))
   exact ⟨.inl rfl, rfl⟩
def EP (n : Int) : Int := if n * n > 65536 then -1 else n * n
def pw6S (h : aj) (n : Int) (i : Int) (a : Int) : St :=
 {env := [(0, .v (.int .i64 n)), (1, .v (.int .i64 2)), (5, .v (.int .i64 a)), (6, .v (.int .i64 i))], loc := [], heap := h, inRound := false, lo := h.length }
theorem Cb (n : Int) (h0 : 0 <= n) (h1 : n <= 16384) (k : Nat) (hk : 100 <= k) (h : aj) (lo : Nat) : call Tryz.prog ba (k + 1) lo (.func 64) [.int .i64 n, .int .i64 2] h = some (.int .i64 (EP n), h) := by
 have hn2 : n * n <= 16384 * 16384 := Int.mul_le_mul h1 h1 h0 (by omega);have hn0 : 0 <= n * n := Int.mul_nonneg h0 h0;apply ai Tryz.func64 U (Nb U) U U;(repeat' (first | apply ab | refine Wr 0 U U ?_ | refine Wr 1 U U ?_ | refine Wr 2 U U ?_ | apply ae));apply aS (S := pw6S h n) (l := [0, 1]) (a0 := 1) (fun i _ a => (i = 0 /\ a = 1) \/ (i = 1 /\ a = n) \/ (i = 2 /\ a = n * n /\ n * n <= 65536)) (by simp) (by show 2 < k; omega) rfl (.inl ⟨rfl, rfl⟩)
 ·rintro i x rst a hi hd hil hJ
  have hlt : decide ((i : Int) < 2) = true := decide_eq_true (by simp at hil; omega);rcases hJ with ⟨rfl, rfl⟩ | ⟨rfl, rfl⟩ | ⟨rfl, _⟩
  ·have hw : IntKind.i64.wrap (1 * n) = n := by rw [Int.one_mul, eo (by omega) (by omega)]
   have hgt : decide (IntKind.i64.wrap (1 * n) > 65536) = false := decide_eq_false (by rw [hw]; omega);(repeat' (first | apply ab | refine ah U U ?_ | refine af U U ?_ | (refine Wo 3 U ?_;refine Tc 2 U (Tt U U U (Tn ?_))) | refine Wr 5 U U ?_ | (refine Wo 6 U ?_;refine Tc 1 U (Tf U U ‹_› (Tn ?_))) | refine Wr 4 U U ?_ | apply ak | apply ae));exact ⟨_, rfl, .inr (.inl ⟨rfl, hw⟩)⟩
  ·have hw : IntKind.i64.wrap (a * a) = a * a := eo (by omega) (by omega)
   by_cases hg : a * a > 65536
   ·have hgt : decide (IntKind.i64.wrap (a * a) > 65536) = true := decide_eq_true (by rw [hw]; exact hg)
    (repeat' (first | apply ab | refine ah U U ?_ | (refine Wo 3 U ?_;refine Tc 2 U (Tt U U U (Tn ?_))) | refine Wr 5 U U ?_ | (refine Wo 6 U ?_;refine Tc 1 U (Tt U U ‹_› (Tn ?_))) | refine Wr 7 U U ?_ | apply ak | apply ae | apply am));refine ⟨.inl rfl, ?_⟩;unfold EP;rw [if_pos hg]
    rfl
   ·have hgt : decide (IntKind.i64.wrap (a * a) > 65536) = false := decide_eq_false (by rw [hw]; exact hg)
    (repeat' (first | apply ab | refine ah U U ?_ | refine af U U ?_ | (refine Wo 3 U ?_;refine Tc 2 U (Tt U U U (Tn ?_))) | refine Wr 5 U U ?_ | (refine Wo 6 U ?_;refine Tc 1 U (Tf U U ‹_› (Tn ?_))) | refine Wr 4 U U ?_ | apply ak | apply ae));exact ⟨_, rfl, .inr (.inr ⟨rfl, hw, by omega⟩)⟩
  ·simp at hil
 ·rintro a hJ
  have hge : decide ((([0, 1] : List Nat).length : Int) < 2) = false := rfl;rcases hJ with ⟨h2, _⟩ | ⟨h2, _⟩ | ⟨_, rfl, hle⟩
  ·simp at h2
  ·simp at h2
  ·(repeat' (first | apply ab | refine af U U ?_ | (refine Wo 3 U ?_;refine Tc 2 U (Tf U U U (Tn ?_))) | refine Wr 8 U U ?_ | apply am | apply aC))
   refine ⟨.inl rfl, ?_⟩;unfold EP;rw [if_neg (by omega)]
   rfl
def ch7S (L : AV) (h : aj) (i : Int) (a : Int × aj) : St :=
 {env := [(0, .v L), (2, .v (.int .i64 a.1)), (7, .v (.sl h.length 2 0 2)), (8, .v (.int .i64 (1 - i)))], loc := [], heap := a.2, inRound := false, lo := h.length }
theorem zM (l : List sV) (hl : l.length <= 16384) (hne : l ≠ []) (n : Int) (n0 : 0 <= n) (n1 : n <= 100000) {x0 x1 : sV} (e1 : l[(n % l.length).toNat]? = some x1) (e0 : l[(n / l.length % l.length).toNat]? = some x0) (k : Nat) (hk : 100 <= k) (h : aj) (lo : Nat) :
  call Tryz.prog ba (k + 1) lo (.func 66) [.vs 2 (b6 l), .int .i64 2, .int .i64 n] h = some (.vs 2 (b6 [x0, x1]), h) := by
 have hpos : 0 < l.length := by cases l with
  | nil => exact absurd rfl hne
  | cons x l => simp
 have hlen : (b6 l).length = l.length := cu l;have hz : ((b6 l).length : Int) ≠ 0 := by rw [hlen]; omega
 have hrow : ∀ (m : Int) x, 0 <= m -> l[(m % l.length).toNat]? = some x -> 0 <= m.tmod ((b6 l).length : Int) /\ (b6 l)[(m.tmod ((b6 l).length : Int)).toNat]? = some [.vs 1 (ag x.1), .vs 1 (ag x.2)] := fun m x hm hx => by
  rw [hlen, eD hm];exact ⟨Int.emod_nonneg _ (by omega), sg hx⟩
 have hr1 := hrow n x1 n0 e1;have hd0 : 0 <= n / (l.length : Int) := Int.ediv_nonneg n0 (by omega);have hd1 : n / (l.length : Int) <= n := Int.ediv_le_self _ n0;have hw : IntKind.i64.wrap (n.tdiv ((b6 l).length : Int)) = n / (l.length : Int) := by rw [hlen, jx n0, eo (by omega) (by omega)]
 have hr0 := hrow (n / (l.length : Int)) x0 hd0 e0;have hfin : ja true h (.sl h.length 2 0 2) (h ++ [ap.cells 165 [.vs 1 (ag x0.1), .vs 1 (ag x0.2), .vs 1 (ag x1.1), .vs 1 (ag x1.2)]]) = some (.vs 2 (b6 [x0, x1]), h) := ed (h := h) (e := 165) (sz := 2) (b6 [x0, x1]) (fun r hr => by
  obtain ⟨y, _, rfl⟩ := List.mem_map.1 hr;refine ⟨rfl, fun z hz => ?_⟩
  simp only [nR, List.mem_cons, List.not_mem_nil, or_false] at hz;rcases hz with rfl | rfl <;> rfl)
 clear hrow e0 e1;apply ai Tryz.func66 U (Nb U) U U;(repeat' (first | apply ab | refine Wr 0 U U ?_ | (refine Wo 1 U ?_;refine Tc 1 U (Tg U U (Tc 1 U (Tn ?_)))) | refine Wr 2 U U ?_ | apply ae));apply aS (S := ch7S (.vs 2 (b6 l)) h) (l := [0, 1]) (a0 := (n, h ++ [ap.cells 165 [.nils, .nils, .nils, .nils]])) (fun i _ a => (i = 0 /\ a = (n, h ++ [ap.cells 165 [.nils, .nils, .nils, .nils]])) \/ (i = 1 /\ a = (n / (l.length : Int), h ++ [ap.cells 165 [.nils, .nils, .vs 1 (ag x1.1), .vs 1 (ag x1.2)]])) \/ (i = 2 /\ a.2 = h ++ [ap.cells 165 [.vs 1 (ag x0.1), .vs 1 (ag x0.2), .vs 1 (ag x1.1), .vs 1 (ag x1.2)]])) (by simp) (by show 2 < k; omega) rfl (.inl ⟨rfl, rfl⟩)
 ·rintro i x rst a hi hd hil hJ
  rcases hJ with ⟨rfl, rfl⟩ | ⟨rfl, rfl⟩ | ⟨rfl, _⟩
  ·have hlt : decide ((1 : Int) - ((0 : Nat) : Int) >= 0) = true := rfl
   have hj : 0 <= (1 : Int) - ((0 : Nat) : Int) /\ ((1 : Int) - ((0 : Nat) : Int)).toNat < 2 := by decide
   have hle : h.length <= h.length := Nat.le_refl _;have hH : (h ++ [ap.cells 165 [.nils, .nils, .nils, .nils]])[h.length]? = some (.cells 165 [.nils, .nils, .nils, .nils]) := by simp
   have hl2 : 0 + 2 * 2 = ([.nils, .nils, .nils, .nils] : List AV).length := rfl;clear hr0 hfin;(repeat' (first | apply ab | refine ah U U ?_ | (refine Wo 3 U ?_;refine Tc 1 U (Tt U U U (Tn ?_))) | (refine Wo 5 U ?_;refine Tc 6 U (Tg U (gu U U U ‹_›) ?_) <;> refine Tg U (bq U U U U U ‹_›) ?_ <;> refine Tg U U (Tg U (dc U U U U U ‹_› ‹_› ‹_›) ?_) <;> refine Tg U (aM U U U U ‹_› ⟨by assumption, U, U, Nb U⟩) ?_ <;> refine Tn ?_) | (refine Wo 6 U ?_;refine Tc 3 U (Tg U (l9 U U U ‹_›) ?_) <;> refine Tc 1 U (Tn ?_)) | refine Wr 4 U U ?_ | apply ak | apply ae));refine ⟨(IntKind.i64.wrap (n.tdiv ((b6 l).length : Int)), (h ++ [ap.cells 165 [.nils, .nils, .nils, .nils]]).set h.length (.cells 165 (bb [.nils, .nils, .nils, .nils] (0 + 1 * 2) [.vs 1 (ag x1.1), .vs 1 (ag x1.2)]))), rfl, .inr (.inl ⟨rfl, ?_⟩)⟩;rw [hw]; simp [bb]
  ·have hlt : decide ((1 : Int) - ((1 : Nat) : Int) >= 0) = true := rfl
   have hj : 0 <= (1 : Int) - ((1 : Nat) : Int) /\ ((1 : Int) - ((1 : Nat) : Int)).toNat < 2 := by decide
   have hle : h.length <= h.length := Nat.le_refl _;have hH : (h ++ [ap.cells 165 [.nils, .nils, .vs 1 (ag x1.1), .vs 1 (ag x1.2)]])[h.length]? = some (.cells 165 [.nils, .nils, .vs 1 (ag x1.1), .vs 1 (ag x1.2)]) := by simp
   have hl2 : 0 + 2 * 2 = ([.nils, .nils, .vs 1 (ag x1.1), .vs 1 (ag x1.2)] : List AV).length := rfl;clear hr1 hfin;(repeat' (first | apply ab | refine ah U U ?_ | (refine Wo 3 U ?_;refine Tc 1 U (Tt U U U (Tn ?_))) | (refine Wo 5 U ?_;refine Tc 6 U (Tg U (gu U U U ‹_›) ?_) <;> refine Tg U (bq U U U U U ‹_›) ?_ <;> refine Tg U U (Tg U (dc U U U U U ‹_› ‹_› ‹_›) ?_) <;> refine Tg U (aM U U U U ‹_› ⟨by assumption, U, U, Nb U⟩) ?_ <;> refine Tn ?_) | (refine Wo 6 U ?_;refine Tc 3 U (Tg U (l9 U U U ‹_›) ?_) <;> refine Tc 1 U (Tn ?_)) | refine Wr 4 U U ?_ | apply ak | apply ae));refine ⟨(IntKind.i64.wrap ((n / (l.length : Int)).tdiv ((b6 l).length : Int)), (h ++ [ap.cells 165 [.nils, .nils, .vs 1 (ag x1.1), .vs 1 (ag x1.2)]]).set h.length (.cells 165 (bb [.nils, .nils, .vs 1 (ag x1.1), .vs 1 (ag x1.2)] (0 + 0 * 2) [.vs 1 (ag x0.1), .vs 1 (ag x0.2)]))), rfl, .inr (.inr ⟨rfl, ?_⟩)⟩;simp [bb]
  ·simp at hil
 ·rintro ⟨a1, a2⟩ hJ
  have hge : decide ((1 : Int) - ((([0, 1] : List Nat).length : Nat) : Int) >= 0) = false := rfl;rcases hJ with ⟨h2, _⟩ | ⟨h2, _⟩ | ⟨_, h3⟩
  ·simp at h2
  ·simp at h2
  ·dsimp only at h3
   subst h3;(repeat' (first | apply ab | refine af U U ?_ | (refine Wo 3 U ?_;refine Tc 1 U (Tf U U U (Tn ?_))) | refine Wr 7 U U ?_ | apply am | apply aC));exact ⟨.inl rfl, hfin⟩
def pkS7 (R : AV) (m : Int) (h : aj) (i : Int) (a : Int × aj) : St :=
 {env := [(0, .v R), (1, .v (.int .i64 m)), (3, .v (.int .i64 a.1)), (9, .v (.sl h.length 7 0 2)), (10, .v (.int .i64 (1 - i)))], loc := [], heap := a.2, inRound := false, lo := h.length }
theorem pb (r : Rv) : zL r = [.int .i64 r.m.e, .vs 1 (ag r.m.st), bg 2 (cj r.m.outs), bg 3 (cN r.trs), .int .i64 r.c, .int .i64 r.m.u, .int .i64 r.wh] := rfl
theorem zN (rs : List Rv) (m : Int) (m0 : 0 < m) (m1 : m <= 16384) (n : Int) (n0 : 0 <= n) (n1 : n <= 100000) {x0 x1 : Rv} (e1 : rs[(n % m).toNat]? = some x1) (e0 : rs[(n / m % m).toNat]? = some x0) (k : Nat) (hk : 100 <= k) (h : aj) (lo : Nat) :
  call Tryz.prog ba (k + 1) lo (.func 69) [.vs 7 (dp rs), .int .i64 m, .int .i64 2, .int .i64 n] h = some (.vs 7 (dp [x0, x1]), h) := by
 have hz : m ≠ 0 := by omega
 have hrow : ∀ (a : Int) x, 0 <= a -> rs[(a % m).toNat]? = some x -> 0 <= a.tmod m /\ (dp rs)[(a.tmod m).toNat]? = some (zL x) := fun a x ha hx => by
  rw [eD ha];exact ⟨Int.emod_nonneg _ (by omega), xK hx⟩
 have hr1 := hrow n x1 n0 e1;have hd0 : 0 <= n / m := Int.ediv_nonneg n0 (by omega);have hd1 : n / m <= n := Int.ediv_le_self _ n0;have hw : IntKind.i64.wrap (n.tdiv m) = n / m := by rw [jx n0, eo (by omega) (by omega)]
 have hr0 := hrow (n / m) x0 hd0 e0;have hfin : ja true h (.sl h.length 7 0 2) (h ++ [ap.cells 162 (zL x0 ++ zL x1)]) = some (.vs 7 (dp [x0, x1]), h) := ed (h := h) (e := 162) (sz := 7) (dp [x0, x1]) (sf _);rw [pb] at hr0 hr1;rw [pb, pb] at hfin;clear hrow e0 e1;generalize hX : dp [x0, x1] = X at *;clear hX;generalize bg 2 (cj x0.m.outs) = p0 at *;generalize bg 3 (cN x0.trs) = q0 at *;generalize bg 2 (cj x1.m.outs) = p1 at *;generalize bg 3 (cN x1.trs) = q1 at *;apply ai Tryz.func69 U (Nb U) U U;(repeat' (first | apply ab | refine Wr 0 U U ?_ | (refine Wo 1 U ?_;refine Tc 1 U (Tg U U (Tc 1 U (Tn ?_)))) | refine Wr 2 U U ?_ | apply ae));apply aS (S := pkS7 (.vs 7 (dp rs)) m h) (l := [0, 1]) (a0 := (n, h ++ [ap.cells 162 [.int .i64 0, .nils, .nils, .nils, .int .i64 0, .int .i64 0, .int .i64 0, .int .i64 0, .nils, .nils, .nils, .int .i64 0, .int .i64 0, .int .i64 0]])) (fun i _ a => (i = 0 /\ a = (n, h ++ [ap.cells 162 [.int .i64 0, .nils, .nils, .nils, .int .i64 0, .int .i64 0, .int .i64 0, .int .i64 0, .nils, .nils, .nils, .int .i64 0, .int .i64 0, .int .i64 0]])) \/ (i = 1 /\ a = (n / m, h ++ [ap.cells 162 [.int .i64 0, .nils, .nils, .nils, .int .i64 0, .int .i64 0, .int .i64 0, .int .i64 x1.m.e, .vs 1 (ag x1.m.st), p1, q1, .int .i64 x1.c, .int .i64 x1.m.u, .int .i64 x1.wh]]))
  \/ (i = 2 /\ a.2 = h ++ [ap.cells 162 ([.int .i64 x0.m.e, .vs 1 (ag x0.m.st), p0, q0, .int .i64 x0.c, .int .i64 x0.m.u, .int .i64 x0.wh] ++ [.int .i64 x1.m.e, .vs 1 (ag x1.m.st), p1, q1, .int .i64 x1.c, .int .i64 x1.m.u, .int .i64 x1.wh])])) (by simp) (by show 2 < k; omega) rfl (.inl ⟨rfl, rfl⟩)
 ·rintro i x rst a hi hd hil hJ
  rcases hJ with ⟨rfl, rfl⟩ | ⟨rfl, rfl⟩ | ⟨rfl, _⟩
  ·have hlt : decide ((1 : Int) - ((0 : Nat) : Int) >= 0) = true := rfl
   have hj : 0 <= (1 : Int) - ((0 : Nat) : Int) /\ ((1 : Int) - ((0 : Nat) : Int)).toNat < 2 := by decide
   have hle : h.length <= h.length := Nat.le_refl _;have hH : (h ++ [ap.cells 162 [.int .i64 0, .nils, .nils, .nils, .int .i64 0, .int .i64 0, .int .i64 0, .int .i64 0, .nils, .nils, .nils, .int .i64 0, .int .i64 0, .int .i64 0]])[h.length]? = some (.cells 162 [.int .i64 0, .nils, .nils, .nils, .int .i64 0, .int .i64 0, .int .i64 0, .int .i64 0, .nils, .nils, .nils, .int .i64 0, .int .i64 0, .int .i64 0]) := by simp
   have hl2 : 0 + 2 * 7 = ([.int .i64 0, .nils, .nils, .nils, .int .i64 0, .int .i64 0, .int .i64 0, .int .i64 0, .nils, .nils, .nils, .int .i64 0, .int .i64 0, .int .i64 0] : List AV).length := rfl;clear hr0 hfin;(repeat' (first | apply ab | refine ah U U ?_ | (refine Wo 3 U ?_;refine Tc 1 U (Tt U U U (Tn ?_))) | (refine Wo 5 U ?_;refine Tc 5 U (Tg U (gu U U U ‹_›) ?_) <;> refine Tg U (bq U U U U U ‹_›) ?_ <;> refine Tg U U (Tg U (dc U U U U U ‹_› ‹_› ‹_›) ?_) <;> refine Tg U (aM U U U U ‹_› ⟨by assumption, U, U, Nb U⟩) ?_ <;> refine Tn ?_) | (refine Wo 6 U ?_;refine Tc 2 U (Tg U (l9 U U U ‹_›) ?_) <;> refine Tc 1 U (Tn ?_)) | refine Wr 4 U U ?_ | apply ak | apply ae));refine ⟨(IntKind.i64.wrap (n.tdiv m), (h ++ [ap.cells 162 [.int .i64 0, .nils, .nils, .nils, .int .i64 0, .int .i64 0, .int .i64 0, .int .i64 0, .nils, .nils, .nils, .int .i64 0, .int .i64 0, .int .i64 0]]).set h.length (.cells 162 (bb [.int .i64 0, .nils, .nils, .nils, .int .i64 0, .int .i64 0, .int .i64 0, .int .i64 0, .nils, .nils, .nils, .int .i64 0, .int .i64 0, .int .i64 0] (0 + 1 * 7) [.int .i64 x1.m.e, .vs 1 (ag x1.m.st), p1, q1, .int .i64 x1.c, .int .i64 x1.m.u, .int .i64 x1.wh]))), rfl, .inr (.inl ⟨rfl, ?_⟩)⟩;rw [hw]; simp [bb]
  ·have hlt : decide ((1 : Int) - ((1 : Nat) : Int) >= 0) = true := rfl
   have hj : 0 <= (1 : Int) - ((1 : Nat) : Int) /\ ((1 : Int) - ((1 : Nat) : Int)).toNat < 2 := by decide
   have hle : h.length <= h.length := Nat.le_refl _;have hH : (h ++ [ap.cells 162 [.int .i64 0, .nils, .nils, .nils, .int .i64 0, .int .i64 0, .int .i64 0, .int .i64 x1.m.e, .vs 1 (ag x1.m.st), p1, q1, .int .i64 x1.c, .int .i64 x1.m.u, .int .i64 x1.wh]])[h.length]? = some (.cells 162 [.int .i64 0, .nils, .nils, .nils, .int .i64 0, .int .i64 0, .int .i64 0, .int .i64 x1.m.e, .vs 1 (ag x1.m.st), p1, q1, .int .i64 x1.c, .int .i64 x1.m.u, .int .i64 x1.wh]) := by simp
   have hl2 : 0 + 2 * 7 = ([.int .i64 0, .nils, .nils, .nils, .int .i64 0, .int .i64 0, .int .i64 0, .int .i64 x1.m.e, .vs 1 (ag x1.m.st), p1, q1, .int .i64 x1.c, .int .i64 x1.m.u, .int .i64 x1.wh] : List AV).length := rfl;clear hr1 hfin;(repeat' (first | apply ab | refine ah U U ?_ | (refine Wo 3 U ?_;refine Tc 1 U (Tt U U U (Tn ?_))) | (refine Wo 5 U ?_;refine Tc 5 U (Tg U (gu U U U ‹_›) ?_) <;> refine Tg U (bq U U U U U ‹_›) ?_ <;> refine Tg U U (Tg U (dc U U U U U ‹_› ‹_› ‹_›) ?_) <;> refine Tg U (aM U U U U ‹_› ⟨by assumption, U, U, Nb U⟩) ?_ <;> refine Tn ?_) | (refine Wo 6 U ?_;refine Tc 2 U (Tg U (l9 U U U ‹_›) ?_) <;> refine Tc 1 U (Tn ?_)) | refine Wr 4 U U ?_ | apply ak | apply ae));refine ⟨(IntKind.i64.wrap ((n / m).tdiv m), (h ++ [ap.cells 162 [.int .i64 0, .nils, .nils, .nils, .int .i64 0, .int .i64 0, .int .i64 0, .int .i64 x1.m.e, .vs 1 (ag x1.m.st), p1, q1, .int .i64 x1.c, .int .i64 x1.m.u, .int .i64 x1.wh]]).set h.length (.cells 162 (bb [.int .i64 0, .nils, .nils, .nils, .int .i64 0, .int .i64 0, .int .i64 0, .int .i64 x1.m.e, .vs 1 (ag x1.m.st), p1, q1, .int .i64 x1.c, .int .i64 x1.m.u, .int .i64 x1.wh] (0 + 0 * 7) [.int .i64 x0.m.e, .vs 1 (ag x0.m.st), p0, q0, .int .i64 x0.c, .int .i64 x0.m.u, .int .i64 x0.wh]))), rfl, .inr (.inr ⟨rfl, ?_⟩)⟩;simp [bb]
  ·simp at hil
 ·rintro ⟨a1, a2⟩ hJ
  have hge : decide ((1 : Int) - ((([0, 1] : List Nat).length : Nat) : Int) >= 0) = false := rfl;rcases hJ with ⟨h2, _⟩ | ⟨h2, _⟩ | ⟨_, h3⟩
  ·simp at h2
  ·simp at h2
  ·dsimp only at h3
   subst h3;(repeat' (first | apply ab | refine af U U ?_ | (refine Wo 3 U ?_;refine Tc 1 U (Tf U U U (Tn ?_))) | refine Wr 7 U U ?_ | apply am | apply aC));exact ⟨.inl rfl, hfin⟩
def HY (h : aj) (l : List sV) (i : Int) (a : List (List Int)) : St :=
 {env := [(0, .v (.vs 2 (b6 l))), (3, .v (bo h 1 (ej a))), (4, .v (.int .i64 i))], loc := [], heap := aQ h 26 (ej a), inRound := false, lo := h.length }
theorem xL (l : List (List Int)) : ∀ r, r ∈ ej l -> r.length = 1 /\ ∀ x, x ∈ r -> bh x = true := by
 intro r hr;obtain ⟨y, _, rfl⟩ := List.mem_map.1 hr;exact ⟨rfl, fun x hx => by rw [List.mem_singleton] at hx; subst hx; rfl⟩
theorem mP (h : aj) (a : List (List Int)) (x : List Int) (hl : a.length < 1000000) : append ba.tab h.length (aQ h 26 (ej a)) 120 (bo h 1 (ej a)) (.vs 1 [[.vs 1 (ag x)]]) = some (bo h 1 (ej (a ++ [x])), aQ h 26 (ej (a ++ [x]))) := by
 have := cy (tab := ba.tab) (lo := h.length) (h := h) (t := 120) (e := 26) rfl rfl (by decide) (Nat.le_refl _) (ej a) [[.vs 1 (ag x)]] (fun r hr => (xL a r hr).1) (by rw [xt]; simp only [List.length_cons, List.length_nil, ca]; show (a.length + (0 + 1)) * 24 <= _; omega) (by rw [xt]; simp [ca]; omega);rw [show ej (a ++ [x]) = ej a ++ [[.vs 1 (ag x)]] by simp [ej]]
 exact this
theorem zO (x0 x1 : sV) (k : Nat) (hk : 100 <= k) (h : aj) (lo : Nat) : call Tryz.prog ba (k + 1) lo (.func 68) [.vs 2 (b6 [x0, x1])] h = some (.vs 1 (ej [x0.1, x1.1]), h) := by
 have hfin : ja true h (bo h 1 (ej [x0.1, x1.1])) (aQ h 26 (ej [x0.1, x1.1])) = some (.vs 1 (ej [x0.1, x1.1]), h) := ed (h := h) (e := 26) (sz := 1) (ej [x0.1, x1.1]) (xL _);apply ai Tryz.func68 U (Nb U) U U;(repeat' (first | apply ab | refine Wr 0 U U ?_ | refine Wr 1 U U ?_ | refine Wr 2 U U ?_ | apply ae));apply aS (S := HY h [x0, x1]) (l := [x0, x1]) (a0 := []) (fun _ rest a => a ++ rest.map (·.1) = [x0.1, x1.1] /\ a.length <= 2) (by simp) (by show 2 < k; omega) rfl ⟨rfl, by simp⟩
 ·rintro i ⟨s, pk⟩ rst a hi hd hil ⟨j1, j2⟩
  have hrow := sg hi;have hlt : decide ((i : Int) < ((b6 [x0, x1]).length : Int)) = true := decide_eq_true (by rw [cu]; omega);have hap := mP h a s (by omega);clear hfin;unfold nR at hrow;(repeat' (first | apply ab | refine ah U U ?_ | (refine Wo 3 U ?_;refine Tc 3 U (Tt U U ‹_› (Tn ?_))) | (refine Wo 5 U ?_;refine Tc 3 U (Tg U (aq U U U U U ‹_›) ?_) <;> refine Tc 1 U (Tg U U (Tc 1 U (Tg U (aN U U U U U ‹_›) ?_))) <;> refine Tc 1 U (Tn ?_)) | refine Wr 4 U U ?_ | apply ak | apply ae));refine ⟨a ++ [s], rfl, by rw [<- j1]; simp, ?_⟩
  have := congrArg List.length j1;simp at this ⊢;omega
 ·rintro a ⟨j1, j2⟩
  have hge : decide ((([x0, x1] : List sV).length : Int) < ((b6 [x0, x1]).length : Int)) = false := by rw [cu]; exact decide_eq_false (by omega)
  have e : a = [x0.1, x1.1] := by simpa using j1
  subst e;(repeat' (first | apply ab | refine af U U ?_ | (refine Wo 3 U ?_;refine Tc 3 U (Tf U U U (Tn ?_))) | refine Wr 6 U U ?_ | apply am | apply aC));exact ⟨.inl rfl, hfin⟩
def xM (p : bp) (low : Int) (pre post : aF) (s1 s2 : List Int) (r1 r2 : Rv) : Prop :=
 aY p.width.toNat p.vars [s1, s2] pre ≠ 0 -> r1.m.e = 0 -> r2.m.e = 0 -> fQ low r1.m.outs = fQ low r2.m.outs /\ aY p.width.toNat p.vars [r1.m.st, r2.m.st] post ≠ 0
structure DW (p : bp) (K : Nat) (e : aF) : Prop where
 form : df p.width.toNat p.vars 2 e = true
 B : dP e
 K : cM e + 60 <= K
def hoS (h : aj) (p : bp) (cl : List AV) (R : AV) (i : Int) (a : List (List Int)) : St :=
 {env := [(3, .v R), (4, .p 4 0), (5, .p 5 0), (9, .v (bo h 1 (ej a))), (10, .v (.int .i64 i))], loc := [(4, bY p), (5, cl)], heap := aQ h 26 (ej a), inRound := false, lo := h.length }
theorem zP {K : Nat} {v0 : List AV} {r0 : AV} {p : bp} (H : Pk p K) {low : Int} (h0 : 0 <= low) (h1 : low <= 15) {pre post : aF} (hp : DW p K pre) (hq : DW p K post) {s1 s2 : List Int} (hs1 : eG p.width.toNat p.vars s1) (hs2 : eG p.width.toNat p.vars s2) {x1 x2 : Rv} (hx1 : eG p.width.toNat p.vars x1.m.st) (hx2 : eG p.width.toNat p.vars x2.m.st)
  (ho1 : x1.m.outs.length <= 300) (ho2 : x2.m.outs.length <= 300) (hc : xM p low pre post s1 s2 x1 x2) (k : Nat) (hk : 2000 <= k) (h : aj) (lo : Nat) :
  call Tryz.prog (bn K v0 r0) (k + 1) lo (.func 67) [.agg (bY p), .agg (pY 2 pre post low 1), .vs 1 (ej [s1, s2]), .vs 7 (dp [x1, x2])] h = some (.bool true, h) := by
 have hK := H.hK;have hV1 := dk (k := k) (v0 := v0) (r0 := r0) rfl rfl (jJ H.hd.hd (S := [s1, s2]) (by simpa using ⟨hs1, hs2⟩) K pre hp.K hp.B hp.form h h.length) (by omega);have hV2 := dk (k := k) (v0 := v0) (r0 := r0) rfl rfl (jJ H.hd.hd (S := [x1.m.st, x2.m.st]) (by simpa using ⟨hx1, hx2⟩) K post hq.K hq.B hq.form ((aQ h 26 (ej [x1.m.st, x2.m.st])).set h.length .dead) h.length) (by omega);rw [H.hd.w] at hV1 hV2;unfold xM at hc;have hD := dk (k := k) (v0 := v0) (r0 := r0) rfl rfl (DV [x1, x2] (by simp) (K - 1) (by omega) h h.length) (by omega);have hH := dk (k := k) (v0 := v0) (r0 := r0) rfl rfl (qk 8 (by omega) (v := false) (by decide) (K - 1) h h.length) (by omega);rw [show K - 1 + 1 = K by omega] at hD hH
 have hRe : dp [x1, x2] = [[.int .i64 x1.m.e, .vs 1 (ag x1.m.st), bg 2 (cj x1.m.outs), bg 3 (cN x1.trs), .int .i64 x1.c, .int .i64 x1.m.u, .int .i64 x1.wh], [.int .i64 x2.m.e, .vs 1 (ag x2.m.st), bg 2 (cj x2.m.outs), bg 3 (cN x2.trs), .int .i64 x2.c, .int .i64 x2.m.u, .int .i64 x2.wh]] := rfl;have hdone : si [x1, x2] = (!(x1.m.e != 0) && (!(x2.m.e != 0) && true)) := rfl;have hA1 := fun (Hx : aj) => uH (K := K) (v0 := v0) (r0 := r0) (by omega) low h0 h1 pre post x1 x1 ho1 ho1 rfl (k - 1) (by omega) Hx h.length
 have hA2 := fun (hs : fQ low x1.m.outs = fQ low x2.m.outs) (Hx : aj) => uH (K := K) (v0 := v0) (r0 := r0) (by omega) low h0 h1 pre post x1 x2 ho1 ho2 hs (k - 1) (by omega) Hx h.length
 rw [show k - 1 + 1 = k by omega] at hA1 hA2
 have hb1 := mP h [] x1.m.st (by simp);have hb2 := mP h [x1.m.st] x2.m.st (by simp);rw [hRe] at hD ⊢;rw [pb, pb] at hA2;rw [pb] at hA1;obtain ⟨o1, n1, c1, l1⟩ := pre;obtain ⟨o2, n2, c2, l2⟩ := post;clear hp hq hs1 hs2 hx1 hx2 ho1 ho2 hRe H hK;generalize aY p.width.toNat p.vars [s1, s2] (.mk o1 n1 c1 l1) = w1 at *;generalize aY p.width.toNat p.vars [x1.m.st, x2.m.st] (.mk o2 n2 c2 l2) = w2 at *;generalize si [x1, x2] = dB at *;generalize bg 3 (cN x1.trs) = q1 at *;generalize bg 3 (cN x2.trs) = q2 at *;obtain ⟨w, vs, body⟩ := p;dsimp only at *;cases hz : (w1 == 0) with
 | true =>
  clear hA1 hA2 hb1 hb2 hV2;apply ai Tryz.func67 U (Nb U) U U;(repeat' (first | apply ab | refine ah U U ?_ | refine Wr 0 U U ?_ | (refine Wo 1 U ?_;refine Tc 7 U (Tg U (aa U U U U ‹_›) ?_) <;> refine Tt U U ‹_› (Tn ?_)) | refine Wr 2 U U ?_ | apply am));exact ⟨.inl rfl, rfl⟩
 | false =>
 cases dB with
 | false =>
  clear hA1 hA2 hb1 hb2 hV2;apply ai Tryz.func67 U (Nb U) U U;(repeat' (first | apply ab | refine ah U U ?_ | refine af U U ?_ | refine Wr 0 U U ?_ | (refine Wo 1 U ?_;refine Tc 7 U (Tg U (aa U U U U ‹_›) ?_) <;> refine Tf U U ‹_› (Tn ?_)) | (refine Wo 3 U ?_;refine Tc 2 U (Tf U (aa U U U U ‹_›) U ?_) <;> refine Tc 2 U (Tk U (Tc 2 U (Tn ?_)))) | (refine Wo 5 U ?_;refine Tc 1 U (Tf U (aa U U U U ‹_›) U ?_) <;> refine Tc 1 U (Tn ?_)) | refine Wr 6 U U ?_ | apply ak | apply am));exact ⟨.inl rfl, rfl⟩
 | true =>
 have hh : w1 ≠ 0 := by simpa using hz
 have hee := hdone.symm;simp at hee;obtain ⟨g1, g2⟩ := hc hh hee.1 hee.2;have hne : (w2 != 0) = true := by simpa using g2
 have hA2' := hA2 g1;clear hA2 hdone hee hc hh g2;have gA1 := hA1 (aQ h 26 (ej ([] ++ [x1.m.st])));have gA2 := hA2' (aQ h 26 (ej ([x1.m.st] ++ [x2.m.st])));clear hA1 hA2' g1;generalize bg 2 (cj x1.m.outs) = p1 at *;generalize bg 2 (cj x2.m.outs) = p2 at *;apply ai Tryz.func67 U (Nb U) U U;(repeat' (first | apply ab | refine af U U ?_ | refine Wr 0 U U ?_ | (refine Wo 1 U ?_;refine Tc 7 U (Tg U (aa U U U U ‹_›) ?_) <;> refine Tf U U ‹_› (Tn ?_)) | (refine Wo 3 U ?_;refine Tc 2 U (Tf U (aa U U U U ‹_›) U ?_) <;> refine Tc 2 U (Tk U (Tc 2 U (Tn ?_)))) | (refine Wo 5 U ?_;refine Tc 1 U (Tt U (aa U U U U ‹_›) U ?_) <;> refine Tc 1 U (Tn ?_)) | refine Wr 7 U U ?_ | refine Wr 8 U U ?_ | apply ak | apply ae));apply aS (S := hoS h ⟨w, vs, body⟩ (pY 2 (.mk o1 n1 c1 l1) (.mk o2 n2 c2 l2) low 1) (.vs 7 [[.int .i64 x1.m.e, .vs 1 (ag x1.m.st), p1, q1, .int .i64 x1.c, .int .i64 x1.m.u, .int .i64 x1.wh], [.int .i64 x2.m.e, .vs 1 (ag x2.m.st), p2, q2, .int .i64 x2.c, .int .i64 x2.m.u, .int .i64 x2.wh]])) (l := [0, 1]) (a0 := []) (fun i _ a => (i = 0 /\ a = []) \/ (i = 1 /\ a = [x1.m.st]) \/ (i = 2 /\ a = [x1.m.st, x2.m.st])) (by simp) (by show 2 < k; omega) rfl (.inl ⟨rfl, rfl⟩)
 ·rintro i x rst a hi hd hil hJ
  clear hV1 hV2 hD hH;rcases hJ with ⟨rfl, rfl⟩ | ⟨rfl, rfl⟩ | ⟨rfl, _⟩
  ·clear gA2 hb2
   (repeat' (first | apply ab | refine ah U U ?_ | refine af U U ?_ | (refine Wo 9 U ?_;refine Tc 3 U (Tt U U U (Tn ?_))) | (refine Wo 11 U ?_;refine Tc 3 U (Tg U U (Tc 1 U (Tg U U (Tc 1 U (Tg U (aN U U U U U ‹_›) ?_))))) <;> refine Tc 1 U (Tn ?_)) | (refine Wd 12 [0,0,2,6,0,0,48,112,255,511] U U (by decide +kernel) ?_;refine Uf U U U (Uf U U U (Uf U U U (Uf U U U (Uf U U U (Uf U U U (Uf U U U (Uf U U U (Ut U (aa U U U U ‹_›) U ?_)))))))) <;> refine Uo U U (Un ?_)) | refine Wr 10 U U ?_ | apply ak | apply ae));exact ⟨_, rfl, .inr (.inl ⟨rfl, rfl⟩)⟩
  ·clear gA1 hb1
   (repeat' (first | apply ab | refine ah U U ?_ | refine af U U ?_ | (refine Wo 9 U ?_;refine Tc 3 U (Tt U U U (Tn ?_))) | (refine Wo 11 U ?_;refine Tc 3 U (Tg U U (Tc 1 U (Tg U U (Tc 1 U (Tg U (aN U U U U U ‹_›) ?_))))) <;> refine Tc 1 U (Tn ?_)) | (refine Wd 12 [0,0,2,6,0,0,48,112,255,511] U U (by decide +kernel) ?_;refine Uf U U U (Uf U U U (Uf U U U (Uf U U U (Uf U U U (Uf U U U (Uf U U U (Uf U U U (Ut U (aa U U U U ‹_›) U ?_)))))))) <;> refine Uo U U (Un ?_)) | refine Wr 10 U U ?_ | apply ak | apply ae));exact ⟨_, rfl, .inr (.inr ⟨rfl, rfl⟩)⟩
  ·simp at hil
 ·rintro a hJ
  rcases hJ with ⟨h2, _⟩ | ⟨h2, _⟩ | ⟨_, rfl⟩
  ·simp at h2
  ·simp at h2
  ·have hh : (aQ h 26 (ej [x1.m.st, x2.m.st]))[h.length]? = some (.cells 26 [.vs 1 (ag x1.m.st), .vs 1 (ag x2.m.st)]) := by simp [aQ, ej]
   have hfrz : h.length <= h.length /\ 0 + 2 * 1 = ([.vs 1 (ag x1.m.st), .vs 1 (ag x2.m.st)] : List AV).length /\ ([.vs 1 (ag x1.m.st), .vs 1 (ag x2.m.st)] : List AV).all bh = true /\ cv 1 2 [.vs 1 (ag x1.m.st), .vs 1 (ag x2.m.st)] = ej [x1.m.st, x2.m.st] := ⟨Nat.le_refl _, rfl, rfl, rfl⟩;clear hV1 hD hH gA1 gA2 hb1 hb2;(repeat' (first | apply ab | refine af U U ?_ | (refine Wo 9 U ?_;refine Tc 3 U (Tf U U U (Tn ?_))) | (refine y9 (id := 14) (by first | assumption | exact frz_one U ‹_› ‹_› | exact vU U ‹_› ‹_› | rfl) ?_ <;> refine Tc 7 U (Tg U (aa U U U U ‹_›) ?_) <;> refine Tt U U ‹_› (Tc 1 U (Tn ?_))) | apply am | apply aC));exact ⟨.inl rfl, rfl⟩
def liS (h : aj) (p : bp) (cl : List AV) (L R : AV) (n : Int) (i : Int) (_ : Unit) : St :=
 {env := [(3, .p 3 0), (5, .p 5 0), (6, .p 6 0), (8, .v L), (10, .v (.int .i64 n)), (11, .v R), (12, .v (.int .i64 i))], loc := [(3, bY p), (5, cl), (6, [.bool false, .nils])], heap := h, inRound := false, lo := h.length }
abbrev LiOk (r : AV × aj) (h : aj) : Prop := ∃ x b, r = (.tup [.agg [.bool x, .nils], .bool b], h) /\ (b = false \/ x = true)
theorem xN {K : Nat} {v0 : List AV} {r0 : AV} {p : bp} (H : Pk p K) (hb6 : cH p <= 6) (fuel : Nat) (hf : fuel <= 60) {low : Int} (h0 : 0 <= low) (h1 : low <= 15) {pre post : aF} (hp : DW p K pre) (hq : DW p K post)
  (hc : ∀ x1 x2 r1 r2, jN p x1 -> jN p x2 -> vV p fuel x1 r1 -> vV p fuel x2 r2 -> xM p low pre post x1.1 x2.1 r1 r2) (k : Nat) (hk : 100000 <= k) (h : aj) (lo : Nat) :
  ∃ r, call Tryz.prog (bn K v0 r0) (k + 1) lo (.func 19) [.agg (bY p), .int .i64 fuel, .agg (pY 2 pre post low 1)] h = some r /\ LiOk r h := by
 have hK := H.hK;obtain ⟨b, l, hE, hl1, hl2⟩ := zK (K := K) (v0 := v0) (r0 := r0) H hb6 fuel hf (k - 1) (by omega) h h.length;rw [show k - 1 + 1 = k by omega] at hE
 cases b with
 | false =>
  obtain ⟨o1, n1, c1, t1⟩ := pre;obtain ⟨o2, n2, c2, t2⟩ := post;clear hc hp hq;obtain ⟨w, vs, body⟩ := p;rcases nU 2 (b6 l) with e | ⟨m, rows, e⟩
  ·rw [e] at hE
   apply cY Tryz.func19 U (Nb U) U U;(repeat' (first | apply ab | refine ah U U ?_ | refine Wr 0 U U ?_ | (refine Wo 1 U ?_;refine Tc 2 U (Tg U (aa U U U U ‹_›) ?_) <;> refine Tc 2 U (Tf U U U (Tc 2 U (Tn ?_)))) | refine Wr 2 U U ?_ | refine Wr 3 U U ?_ | apply am));exact ⟨.inl rfl, _, rfl, _, _, rfl, .inl rfl⟩
  ·rw [e] at hE
   apply cY Tryz.func19 U (Nb U) U U;(repeat' (first | apply ab | refine ah U U ?_ | refine Wr 0 U U ?_ | (refine Wo 1 U ?_;refine Tc 2 U (Tg U (aa U U U U ‹_›) ?_) <;> refine Tc 2 U (Tf U U U (Tc 2 U (Tn ?_)))) | refine Wr 2 U U ?_ | refine Wr 3 U U ?_ | apply am));exact ⟨.inl rfl, _, rfl, _, _, rfl, .inl rfl⟩
 | true =>
 obtain ⟨rs, hR, hrs⟩ := DT (K := K) (v0 := v0) (r0 := r0) H fuel hf l hl1 hl2 (k - 1) (by omega) h h.length;rw [show k - 1 + 1 = k by omega] at hR
 have hlen : (b6 l).length = l.length := cu l;have hP := dk (k := k) (v0 := v0) (r0 := r0) rfl rfl (Cb ((b6 l).length : Int) (by omega) (by omega) (K - 1) (by omega) h h.length) (by omega);rw [show K - 1 + 1 = K by omega] at hP
 cases l with
 | nil =>
  have hrs0 : rs = [] := List.length_eq_zero_iff.1 (by rw [hrs.1]; rfl);subst hrs0;have hP0 : EP ((b6 []).length : Int) = 0 := rfl;rw [hP0] at hP;have e1 : bg 2 (b6 []) = .nils := rfl;have e2 : bg 7 (dp []) = .nils := rfl;rw [e1] at hE hR;rw [e2] at hR;obtain ⟨o1, n1, c1, t1⟩ := pre;obtain ⟨o2, n2, c2, t2⟩ := post;clear hc hp hq e1 e2 hP0 hrs;obtain ⟨w, vs, body⟩ := p;replace hP : call Tryz.prog (bn K v0 r0) k h.length (.func 64) [.int .i64 0, .int .i64 2] h = some (.int .i64 0, h) := hP;apply cY Tryz.func19 U (Nb U) U U;(repeat' (first | apply ab | refine af U U ?_ | refine Wr 0 U U ?_ | (refine Wo 1 U ?_;refine Tc 2 U (Tg U (aa U U U U ‹_›) ?_) <;> refine Tc 2 U (Tt U U U (Tc 2 U (Tn ?_)))) | refine Wr 2 U U ?_ | (refine Wo 4 U ?_;refine Tc 4 U (Tg U (aa U U U U ‹_›) ?_) <;> refine Tc 1 U (Tn ?_)) | (refine Wo 5 U ?_;refine Tc 1 U (Tf U U U (Tn ?_))) | (refine Wo 7 U ?_;refine Tc 3 U (Tg U (aa U U U U ‹_›) ?_) <;> refine Tc 1 U (Tn ?_)) | refine Wr 8 U U ?_ | apply ak | apply ae));apply aS (S := liS h ⟨w, vs, body⟩ (pY 2 (.mk o1 n1 c1 t1) (.mk o2 n2 c2 t2) low 1) .nils .nils 0) (l := ([] : List Nat)) (a0 := ()) (fun _ _ _ => True) (by simp) (by show 0 < k; omega) rfl trivial
  ·intro i x rst a hi
   simp at hi
  ·intro a _
   (repeat' (first | apply ab | refine af U U ?_ | (refine Wo 9 U ?_;refine Tc 2 U (Tf U U U (Tn ?_))) | refine Wr 14 U U ?_ | apply am | apply aC));exact ⟨.inl rfl, _, rfl, _, _, rfl, .inr rfl⟩
 | cons l0 lr =>
  have e1 : bg 2 (b6 (l0 :: lr)) = .vs 2 (b6 (l0 :: lr)) := rfl;have hne : l0 :: lr ≠ [] := by simp
  have hlp : 1 <= (l0 :: lr).length := by simp
  have e2 : bg 7 (dp rs) = .vs 7 (dp rs) := by
   cases rs with
   | nil => have := hrs.1; simp at this
   | cons r rs => rfl
  rw [e1] at hE hR;rw [e2] at hR;clear e1 e2;generalize l0 :: lr = l at *;have hn0 : 0 <= EP ((b6 l).length : Int) \/ EP ((b6 l).length : Int) = -1 := by
   unfold EP
   split
   ·exact .inr rfl
   ·exact .inl (Int.mul_nonneg (by omega) (by omega))
  have hn1 : EP ((b6 l).length : Int) <= 65536 := by unfold EP; split <;> omega
  generalize EP ((b6 l).length : Int) = n at *;rcases hn0 with hn0 | rfl
  ·have hlt0 : decide (n < 0) = false := decide_eq_false (by omega)
   have hlpI : (0 : Int) < (l.length : Int) := by omega
   have hat : ∀ m : Int, 0 <= m -> ∃ x, l[(m % l.length).toNat]? = some x := fun m hm => ⟨_, List.getElem?_eq_getElem (by
    have := Int.emod_lt_of_pos m hlpI;have := Int.emod_nonneg m (show (l.length : Int) ≠ 0 by omega);omega)⟩
   have hstep : ∀ i : Int, 0 <= i -> i < n -> ∃ x0 x1 y0 y1, call Tryz.prog (bn K v0 r0) k h.length (.func 66) [.vs 2 (b6 l), .int .i64 2, .int .i64 i] h = some (.vs 2 (b6 [x0, x1]), h) /\
     call Tryz.prog (bn K v0 r0) k h.length (.func 68) [.vs 2 (b6 [x0, x1])] h = some (.vs 1 (ej [x0.1, x1.1]), h) /\
     call Tryz.prog (bn K v0 r0) k h.length (.func 69) [.vs 7 (dp rs), .int .i64 ((b6 l).length : Int), .int .i64 2, .int .i64 i] h = some (.vs 7 (dp [y0, y1]), h) /\
     call Tryz.prog (bn K v0 r0) k h.length (.func 67) [.agg (bY p), .agg (pY 2 pre post low 1), .vs 1 (ej [x0.1, x1.1]), .vs 7 (dp [y0, y1])] h = some (.bool true, h) := fun i i0 i1 => by
    have hd0 : 0 <= i / (l.length : Int) := Int.ediv_nonneg i0 (by omega);obtain ⟨x1, e1⟩ := hat i i0;obtain ⟨x0, e0⟩ := hat _ hd0;have hry : ∀ (j : Nat) x, l[j]? = some x -> ∃ y, rs[j]? = some y := fun j x hx => ⟨_, List.getElem?_eq_getElem (by rw [hrs.1]; exact (List.getElem?_eq_some_iff.1 hx).1)⟩
    obtain ⟨y1, f1⟩ := hry _ _ e1;obtain ⟨y0, f0⟩ := hry _ _ e0;have g1 := hrs.2 _ _ _ e1 f1;have g0 := hrs.2 _ _ _ e0 f0;have s1 := hl1 _ (List.mem_of_getElem? e1);have s0 := hl1 _ (List.mem_of_getElem? e0);refine ⟨x0, x1, y0, y1, ?_, ?_, ?_, ?_⟩
    ·have := zM l hl2 hne i i0 (by omega) e1 e0 (K - 1) (by omega) h h.length
     rw [show K - 1 + 1 = K by omega] at this
     exact dk rfl rfl this (by omega)
    ·have := zO x0 x1 (K - 1) (by omega) h h.length
     rw [show K - 1 + 1 = K by omega] at this
     exact dk rfl rfl this (by omega)
    ·have := zN rs (l.length : Int) hlpI (by omega) i i0 (by omega) f1 f0 (K - 1) (by omega) h h.length
     rw [show K - 1 + 1 = K by omega] at this
     rw [hlen];exact dk rfl rfl this (by omega)
    ·have := zP (K := K) (v0 := v0) (r0 := r0) H h0 h1 hp hq s0.1 s1.1 g0.2.2.1 g1.2.2.1 (by have := g0.2.2.2; omega) (by have := g1.2.2.2; omega) (hc x0 x1 y0 y1 s0 s1 g0 g1) (k - 1) (by omega) h h.length
     rw [show k - 1 + 1 = k by omega] at this
     exact this
   clear hc hp hq hat hrs hl1;obtain ⟨o1, n1, c1, t1⟩ := pre;obtain ⟨o2, n2, c2, t2⟩ := post;obtain ⟨w, vs, body⟩ := p;apply cY Tryz.func19 U (Nb U) U U;(repeat' (first | apply ab | refine af U U ?_ | refine Wr 0 U U ?_ | (refine Wo 1 U ?_;refine Tc 2 U (Tg U (aa U U U U ‹_›) ?_) <;> refine Tc 2 U (Tt U U U (Tc 2 U (Tn ?_)))) | refine Wr 2 U U ?_ | (refine Wo 4 U ?_;refine Tc 4 U (Tg U (aa U U U U ‹_›) ?_) <;> refine Tc 1 U (Tn ?_)) | (refine Wo 5 U ?_;refine Tc 1 U (Tf U U ‹_› (Tn ?_))) | (refine Wo 7 U ?_;refine Tc 3 U (Tg U (aa U U U U ‹_›) ?_) <;> refine Tc 1 U (Tn ?_)) | refine Wr 8 U U ?_ | apply ak | apply ae));apply aS (S := liS h ⟨w, vs, body⟩ (pY 2 (.mk o1 n1 c1 t1) (.mk o2 n2 c2 t2) low 1) (.vs 2 (b6 l)) (.vs 7 (dp rs)) n) (l := List.range n.toNat) (a0 := ()) (fun _ _ _ => True) (by rw [List.length_range]; omega) (by rw [List.length_range]; omega) rfl trivial
   ·intro i x rst a hi hd hil hJ
    rw [List.length_range] at hil;have hlt : decide ((i : Int) < n) = true := decide_eq_true (by omega);obtain ⟨x0, x1, y0, y1, q1, q2, q3, q4⟩ := hstep i (by omega) (by omega);clear hstep hE hR hP;(repeat' (first | apply ab | refine ah U U ?_ | refine af U U ?_ | (refine Wo 9 U ?_;refine Tc 2 U (Tt U U ‹_› (Tn ?_))) | (refine Wo 11 U ?_;refine Tc 4 U (Tg U (aa U U U U ‹_›) ?_) <;> refine Tc 1 U (Tn ?_)) | (refine Wd 12 [0,0,0,4,0,0,32,0,128,0,1020,2047,4095] U U (by decide +kernel) ?_;refine Uf U U U (Uf U U U (Uf U U U (Uf U (aa U U U U ‹_›) U ?_))) <;> refine Uf U U U (Uf U U U (Uf U U U (Uf U U U (Uf U U U (Uf U U U (Uf U (aa U U U U ‹_›) U ?_)))))) <;> refine Ut U (aa U U U U ‹_›) U ?_ <;> refine Uo U U (Un ?_)) | refine Wr 10 U U ?_ | apply ak | apply ae))
    exact ⟨(), rfl, trivial⟩
   ·intro a _
    have hge : decide (((List.range n.toNat).length : Int) < n) = false := by rw [List.length_range]; exact decide_eq_false (by omega)
    clear hstep hE hR hP;(repeat' (first | apply ab | refine af U U ?_ | (refine Wo 9 U ?_;refine Tc 2 U (Tf U U ‹_› (Tn ?_))) | refine Wr 14 U U ?_ | apply am | apply aC));exact ⟨.inl rfl, _, rfl, _, _, rfl, .inr rfl⟩
  ·have hlt0 : decide ((-1 : Int) < 0) = true := rfl
   obtain ⟨o1, n1, c1, t1⟩ := pre;obtain ⟨o2, n2, c2, t2⟩ := post;clear hc hp hq hrs hl1;obtain ⟨w, vs, body⟩ := p;apply cY Tryz.func19 U (Nb U) U U;(repeat' (first | apply ab | refine ah U U ?_ | refine af U U ?_ | refine Wr 0 U U ?_ | (refine Wo 1 U ?_;refine Tc 2 U (Tg U (aa U U U U ‹_›) ?_) <;> refine Tc 2 U (Tt U U U (Tc 2 U (Tn ?_)))) | refine Wr 2 U U ?_ | (refine Wo 4 U ?_;refine Tc 4 U (Tg U (aa U U U U ‹_›) ?_) <;> refine Tc 1 U (Tn ?_)) | (refine Wo 5 U ?_;refine Tc 1 U (Tt U U U (Tn ?_))) | refine Wr 6 U U ?_ | apply ak | apply am));exact ⟨.inl rfl, _, rfl, _, _, rfl, .inl rfl⟩
theorem nV {a b : Int} (ha : cb a) (hb : cb b) : be a b = ((a.toNat ||| b.toNat : Nat) : Int) := lG (Q := fun a b => be a b = ((a.toNat ||| b.toNat : Nat) : Int)) (by decide +kernel) ha hb
theorem pc {a b c : Int} (ha : cb a) (hb : cb b) (hc : cb c) : be (be a b) c = be a (be b c) := by
 rw [nV (bC ha hb) hc, nV ha (bC hb hc), nV ha hb, nV hb hc, Int.toNat_natCast, Int.toNat_natCast, Nat.or_assoc]
def eK (a b : Int) : Prop := be a b = b
theorem eL {a : Int} (ha : cb a) : eK a a := by unfold eK; rw [nV ha ha, Nat.or_self, Int.toNat_of_nonneg ha.1]
theorem a8 {a b c : Int} (ha : cb a) (hb : cb b) (hc : cb c) (h1 : eK a b) (h2 : eK b c) : eK a c := by
 unfold eK at *;rw [<- h2, <- pc ha hb hc, h1]
theorem iD {a b : Int} (ha : cb a) (hb : cb b) : eK a (be a b) := by
 unfold eK;rw [<- pc ha ha hb];have : be a a = a := eL ha;rw [this]
theorem fd {a b : Int} (ha : cb a) (hb : cb b) : eK b (be a b) := by rw [jA]; exact iD hb ha
theorem zQ {a b c : Int} (ha : cb a) (hb : cb b) (hc : cb c) (h1 : eK a c) (h2 : eK b c) : eK (be a b) c := by
 unfold eK at *;rw [pc ha hb hc, h2, h1]
theorem nW {a b c d : Int} (ha : cb a) (hb : cb b) (hc : cb c) (hd : cb d) (h1 : eK a c) (h2 : eK b d) : eK (be a b) (be c d) :=
 zQ ha hb (bC hc hd) (a8 ha hc (bC hc hd) h1 (iD hc hd)) (a8 hb hd (bC hc hd) h2 (fd hc hd))
theorem xO {b : Int} (hb : cb b) : eK 0 b := nE hb
theorem dF {a b : Int} (ha : cb a) (hb : cb b) : aW a b = true ↔ eK a b := lG (Q := fun a b => aW a b = true ↔ be a b = b) (by decide +kernel) ha hb
theorem FJ {a b : Int} (ha : cb a) (hb : cb b) (h : eK a b) : a <= b := by rw [<- h]; exact zw ha hb
def pZ (x y : List Int) : Prop := x.length = y.length /\ ∀ i : Nat, eK (x.getD i 0) (y.getD i 0)
theorem xP {x : List Int} (hx : bf x) : pZ x x := ⟨rfl, fun i => eL (aJ hx i)⟩
theorem Cc {x y z : List Int} (hx : bf x) (hy : bf y) (hz : bf z) (h1 : pZ x y) (h2 : pZ y z) : pZ x z :=
 ⟨h1.1.trans h2.1, fun i => a8 (aJ hx i) (aJ hy i) (aJ hz i) (h1.2 i) (h2.2 i)⟩
theorem sj (x : List Int) (i j : Nat) (v : Int) : (x.set i v).getD j 0 = if i = j /\ i < x.length then v else x.getD j 0 := by
 rw [List.getD_eq_getElem?_getD, List.getD_eq_getElem?_getD, List.getElem?_set]
 by_cases h : i = j
 ·subst h
  by_cases h2 : i < x.length
  ·simp [h2]
  ·simp [h2]
 ·simp [h]
theorem FK {x y : List Int} (h : pZ x y) {i : Nat} {v : Int} (hv : eK v (y.getD i 0)) : pZ (x.set i v) y := by
 refine ⟨by simpa using h.1, fun j => ?_⟩
 rw [sj]
 split
 ·rename_i e; rw [<- e.1]; exact hv
 ·exact h.2 j
mutual
theorem DX {x y : List Int} (h : pZ x y) (hx : bf x) (hy : bf y) : ∀ e : aF, eK (gB x e) (gB y e)
 | .mk op n _ es => by
  rw [gB, gB]
  split
  ·exact jO h hx hy es (aJ hx _) (aJ hy _) (h.2 _)
  ·exact jO h hx hy es cm cm (eL cm)
theorem jO {x y : List Int} (h : pZ x y) (hx : bf x) (hy : bf y) : ∀ (es : List aF) {a b : Int}, cb a -> cb b -> eK a b -> eK (bz x a es) (bz y b es)
 | [], a, b, _, _, hab => by rw [bz, bz]; exact hab
 | e :: es, a, b, ha, hb, hab => by
  rw [bz, bz];exact jO h hx hy es (bC ha (fa hx e)) (bC hb (fa hy e)) (nW ha (fa hx e) hb (fa hy e) hab (DX h hx hy e))
end
structure p7 (f : List Int -> Int) : Prop where
 B : ∀ x, bf x -> cb (f x)
 mono : ∀ x y, pZ x y -> bf x -> bf y -> eK (f x) (f y)
theorem p7.or {f : List Int -> Int} (h : p7 f) (a : List aF) : p7 (fun lv => be (f lv) (bz lv 0 a)) where
 B x hx := bC (h.B x hx) (cn hx a cm)
 mono x y hxy hx hy := nW (h.B x hx) (cn hx a cm) (h.B y hy) (cn hy a cm) (h.mono x y hxy hx hy) (jO hxy hx hy a cm cm (eL cm))
theorem Gq : p7 (fun _ => 0) := ⟨fun _ _ => cm, fun _ _ _ _ _ => eL cm⟩
structure Cn where
 at_ : Int
 op : Int
 nn : Int
 f : List Int -> Int
mutual
def DY : ay -> (List Int -> Int) -> Int -> List Cn
 | .mk op nn a t e, ar, n => ⟨n, op, nn, fun lv => be (ar lv) (bz lv 0 a)⟩ :: (uI t (fun lv => be (ar lv) (bz lv 0 a)) (IntKind.i64.wrap (n + 1)) ++ uI e (fun lv => be (ar lv) (bz lv 0 a)) (IntKind.i64.wrap (IntKind.i64.wrap (n + 1) + cW t 0)))
def uI : List ay -> (List Int -> Int) -> Int -> List Cn
 | [], _, _ => []
 | s :: l, ar, n => DY s ar n ++ uI l ar (jj s n)
end
def Cn.fl (lv : List Int) (c : Cn) : List (List AV) :=
 if c.op = 0 then ep c.at_ (c.f lv) (lv.getD c.nn.toNat 0) else if c.op = 4 then ep c.at_ (be (c.f lv) 16) (lv.getD c.nn.toNat 0) else if c.op = 3 then ep c.at_ (c.f lv) c.nn else []
mutual
theorem DZ (lv : List Int) : ∀ (s : ay) (ar : List Int -> Int) (n : Int), xg lv s (ar lv) n = (DY s ar n).flatMap (Cn.fl lv)
 | .mk op nn a t e, ar, n => by
  rw [xg, DY, List.flatMap_cons, List.flatMap_append, nX lv t (fun lv => be (ar lv) (bz lv 0 a)), nX lv e (fun lv => be (ar lv) (bz lv 0 a))]
  rfl
theorem nX (lv : List Int) : ∀ (l : List ay) (ar : List Int -> Int) (n : Int), eE lv l (ar lv) n = (uI l ar n).flatMap (Cn.fl lv)
 | [], ar, n => by rw [eE, uI]; rfl
 | s :: l, ar, n => by rw [eE, uI, List.flatMap_append, DZ lv s ar, nX lv l ar]
end
mutual
theorem D0 : ∀ (s : ay) {ar : List Int -> Int} (n : Int), p7 ar -> ∀ c, c ∈ DY s ar n -> p7 c.f
 | .mk op nn a t e, ar, n, h, c, hc => by
  rw [DY] at hc;rcases List.mem_cons.1 hc with rfl | hc
  ·exact h.or a
  ·rcases List.mem_append.1 hc with hc | hc
   ·exact lm t _ (h.or a) c hc
   ·exact lm e _ (h.or a) c hc
theorem lm : ∀ (l : List ay) {ar : List Int -> Int} (n : Int), p7 ar -> ∀ c, c ∈ uI l ar n -> p7 c.f
 | [], ar, n, h, c, hc => by rw [uI] at hc; cases hc
 | s :: l, ar, n, h, c, hc => by
  rw [uI] at hc;rcases List.mem_append.1 hc with hc | hc
  ·exact D0 s n h c hc
  ·exact lm l _ h c hc
end
def Cn.ok (lv : List Int) (c : Cn) : Prop := (c.op = 0 -> eK (c.f lv) (lv.getD c.nn.toNat 0)) /\ (c.op = 4 -> eK (be (c.f lv) 16) (lv.getD c.nn.toNat 0)) /\ (c.op = 3 -> eK (c.f lv) c.nn)
theorem jP {a f t : Int} (hf : cb f) (ht : cb t) : ep a f t = [] ↔ eK f t := by
 rw [<- dF hf ht];unfold ep
 split
 ·rename_i h; simp [h]
 ·rename_i h; simp [h]
theorem Cn.fl_nil {lv : List Int} (hB : bf lv) {c : Cn} (hg : p7 c.f) (h3 : c.op = 3 -> cb c.nn) : c.fl lv = [] ↔ c.ok lv := by
 unfold Cn.fl Cn.ok;have hf := hg.B lv hB;have ht := aJ hB c.nn.toNat
 by_cases o0 : c.op = 0
 ·rw [if_pos o0, jP hf ht]
  exact ⟨fun h => ⟨fun _ => h, fun o => by omega, fun o => by omega⟩, fun h => h.1 o0⟩
 rw [if_neg o0]
 by_cases o4 : c.op = 4
 ·rw [if_pos o4, jP (bC hf mb) ht]
  exact ⟨fun h => ⟨fun o => by omega, fun _ => h, fun o => by omega⟩, fun h => h.2.1 o4⟩
 rw [if_neg o4]
 by_cases o3 : c.op = 3
 ·rw [if_pos o3, jP hf (h3 o3)]
  exact ⟨fun h => ⟨fun o => by omega, fun o => by omega, fun _ => h⟩, fun h => h.2.2 o3⟩
 rw [if_neg o3];exact ⟨fun _ => ⟨fun o => by omega, fun o => by omega, fun o => by omega⟩, fun _ => rfl⟩
theorem Cd {lv : List Int} (hB : bf lv) {l : List ay} {ar : List Int -> Int} {n : Int} (hg : p7 ar) (h3 : ∀ c, c ∈ uI l ar n -> c.op = 3 -> cb c.nn) : eE lv l (ar lv) n = [] ↔ ∀ c, c ∈ uI l ar n -> c.ok lv := by
 rw [nX, List.flatMap_eq_nil_iff];exact ⟨fun h c hc => (Cn.fl_nil hB (lm l n hg c hc) (h3 c hc)).1 (h c hc), fun h c hc => (Cn.fl_nil hB (lm l n hg c hc) (h3 c hc)).2 (h c hc)⟩
section
variable (st : List Bool)
variable {st}
end
def Hb (m K : Nat) : Pl -> Prop
 | (_, .mk _ _ a _ _, lv, _) => cQ a <= K /\ a.length < 9223372036854775808 /\ jg a /\ s7 m a /\ lv.length = m
section
variable {pt : List Int -> Int -> ay -> List Int} {og : List Int -> List aF -> Int}
mutual
theorem Hc {m K : Nat} (H : Mv pt og m) : ∀ (s : ay) (lv : List Int) (ar n : Int), iy s <= K -> kP s -> mc m s -> lv.length = m -> bf lv -> cb ar -> ∀ p, p ∈ nG pt og s lv ar n -> Hb m K p
 | .mk op nn a t e, lv, ar, n, hK, hb, hv, hl, hB, har, p, hp => by
  obtain ⟨q1, q2⟩ := fF H (.mk op nn a t e) lv ar hl hB har hv;rw [iy] at hK;rw [kP] at hb;rw [mc] at hv;obtain ⟨⟨ha1, ha2⟩, ⟨ht1, ht2⟩, he1, he2⟩ := hb;rw [nG] at hp;have h0 : ∀ lv' : List Int, lv'.length = m -> Hb m K (n, .mk op nn a t e, lv', ar) := fun lv' hl' => ⟨by omega, ha1, ha2, hv.1, hl'⟩
  split at hp
  ·rcases List.mem_cons.1 hp with rfl | hp
   ·exact h0 lv hl
   ·rcases List.mem_append.1 hp with hp | hp
    ·exact sm H t lv _ _ (by omega) ht2 hv.2.2.2.1 hl hB (bC har (H.og lv a hB)) p hp
    ·exact sm H e lv _ _ (by omega) he2 hv.2.2.2.2 hl hB (bC har (H.og lv a hB)) p hp
  ·split at hp
   ·rcases List.mem_cons.1 hp with rfl | hp
    ·exact h0 _ q1
    ·exact sm H t _ _ _ (by omega) ht2 hv.2.2.2.1 q1 q2 (bC har (H.og _ a q2)) p hp
   ·rw [List.mem_singleton] at hp
    rw [hp];exact h0 lv hl
theorem sm {m K : Nat} (H : Mv pt og m) : ∀ (l : List ay) (lv : List Int) (ar n : Int), bA l <= K -> eQ l -> xi m l -> lv.length = m -> bf lv -> cb ar -> ∀ p, p ∈ iV pt og l lv ar n -> Hb m K p
 | [], lv, ar, n, _, _, _, _, _, _, p, hp => by rw [iV] at hp; cases hp
 | s :: l, lv, ar, n, hK, hb, hv, hl, hB, har, p, hp => by
  rw [bA] at hK;obtain ⟨q1, q2⟩ := fF H s lv ar hl hB har hv.1;rw [iV] at hp;rcases List.mem_append.1 hp with hp | hp
  ·exact Hc H s lv ar n (by omega) hb.1 hv.1 hl hB har p hp
  ·exact sm H l _ ar _ (by omega) hb.2 hv.2 q1 q2 har p hp
end
end
def ek : Pl -> List (List AV)
 | (n, .mk op nn a _ _, lv, ar) => if op = 3 then ep n (be ar (bz lv 0 a)) nn else []
theorem D1 (p : Pl) : ∀ r, r ∈ ek p -> r.length = 3 /\ ∀ x, x ∈ r -> bh x = true := by
 obtain ⟨n, ⟨op, nn, a, t, e⟩, lv, ar⟩ := p;intro r hr;unfold ek at hr;dsimp only at hr
 split at hr
 ·exact uq _ _ _ r hr
 ·cases hr
def gY (p : bp) : List Pl := iV (cX p.vars) dG p.body (bd p) 0 0
def kI (p : bp) : List Int := fb (cX p.vars) dG p.body (bd p) 0
def so (H : aj) (v : AV) (l : List Int) : Prop := v = .vs 1 (ag l) \/ ∃ id, v = .sl id 1 0 l.length /\ H[id]? = some (.cells 3 (ic l))
theorem so.sl {H : aj} {id : Nat} {l : List Int} (h : H[id]? = some (.cells 3 (ic l))) : so H (.sl id 1 0 l.length) l := .inr ⟨id, rfl, h⟩
theorem vW {H : aj} {lo : Nat} (hlo : lo <= H.length) {v : AV} {l : List Int} (hv : so H v l) (hl : l.length < 100000) :
  append ba.tab lo (H ++ [.cells 3 []]) 26 (.sl H.length 1 0 0) v = some (.sl H.length 1 0 l.length, H ++ [.cells 3 (ic l)]) := by
 have hg : (H ++ [ap.cells 3 []])[H.length]? = some (.cells 3 []) := by simp
 have hrow : fh (H ++ [ap.cells 3 []]) 1 v = some (ic l) /\ lenOf v = some l.length := by
  rcases hv with rfl | ⟨id, rfl, hid⟩
  ·simp [fh, lenOf, qi, bw]
  ·refine ⟨?_, rfl⟩
   have : (H ++ [ap.cells 3 []])[id]? = some (.cells 3 (ic l)) := by rw [List.getElem?_append_left (aV hid)]; exact hid
   unfold fh;dsimp only;rw [this];dsimp only;rw [if_pos ⟨rfl, by rw [fE]; omega⟩, List.drop_zero]
 unfold append;rw [show Go.Ev.look ba.tab 26 = some ⟨.slice 3, 1, 24, [.nils]⟩ from rfl]
 dsimp only;rw [show Go.Ev.look ba.tab 3 = some ⟨.int .i64, 1, 8, [.int .i64 0]⟩ from rfl]
 dsimp only;rw [hrow.1, hrow.2];dsimp only;rw [hg];dsimp only;rw [if_pos ⟨hlo, by trivial, by trivial, by trivial, by trivial, by decide, by simp only [ca]; omega, by simp only [ca]; omega⟩]
 simp
theorem sq {H : aj} {lo : Nat} (hlo : lo <= H.length) {v : AV} {l : List Int} (hv : so H v l) (hne : l ≠ []) (hl : l.length < 100000) (k : Nat) :
  call Tryz.prog ba (k + 1) lo (.func 117) [v] H = some (.sl H.length 1 0 l.length, H ++ [.cells 3 (ic l)]) := by
 have hap := vW hlo hv hl;rcases hv with rfl | ⟨id, rfl, hid⟩
 ·cases l with
  | nil => exact absurd rfl hne
  | cons x l =>
   apply ai Tryz.func117 U (Nb U) U U;(repeat' (first | apply ab | refine af U U ?_ | refine Wr 0 U U ?_ | (refine Wo 1 U ?_;refine Tc 1 U (Tf U U U (Tn ?_))) | (refine Wo 3 U ?_;refine Tc 2 U (Tg U (aN U U U U U ‹_›) ?_) <;> refine Tc 1 U (Tn ?_)) | apply ak | apply am));exact ⟨.inl rfl, rfl⟩
 ·apply ai Tryz.func117 U (Nb U) U U
  (repeat' (first | apply ab | refine af U U ?_ | refine Wr 0 U U ?_ | (refine Wo 1 U ?_;refine Tc 1 U (Tf U U U (Tn ?_))) | (refine Wo 3 U ?_;refine Tc 2 U (Tg U (aN U U U U U ‹_›) ?_) <;> refine Tc 1 U (Tn ?_)) | apply ak | apply am));exact ⟨.inl rfl, rfl⟩
def tgS (lo idb q m : Nat) (i : Int) (H : aj) : St :=
 {env := [(1, .v (.sl idb 1 0 m)), (5, .v (.sl q 1 0 m)), (10, .v (.int .i64 m)), (11, .v (.int .i64 i))], loc := [], heap := H, inRound := false, lo := lo }
theorem FL {x y cur : List Int} {i : Nat} {v w : Int} (hv : x[i]? = some v) (hw : y[i]? = some w) (hc : cur = bK (x.take i) (y.take i) ++ x.drop i) :
  cur[i]? = some v /\ cur.set i (be v w) = bK (x.take (i + 1)) (y.take (i + 1)) ++ x.drop (i + 1) := by
 have hix : i < x.length := by
  rcases Nat.lt_or_ge i x.length with h | h
  ·exact h
  ·rw [List.getElem?_eq_none h] at hv; cases hv
 have hiy : i < y.length := by
  rcases Nat.lt_or_ge i y.length with h | h
  ·exact h
  ·rw [List.getElem?_eq_none h] at hw; cases hw
 have hl : (bK (x.take i) (y.take i)).length = i := by simp [bK]; omega
 have hd : x.drop i = v :: x.drop (i + 1) := by
  rw [List.drop_eq_getElem_cons hix];rw [List.getElem?_eq_getElem hix] at hv;injection hv with hv; rw [hv]
 subst hc;constructor
 ·rw [List.getElem?_append_right (by omega), hl, Nat.sub_self, hd]; rfl
 ·rw [List.set_append_right _ _ (by omega), hl, Nat.sub_self, hd, List.set_cons_zero, nk hv, nk hw]
  unfold bK;rw [List.zipWith_append (by simp; omega), List.append_assoc]
  rfl
theorem nY {H : aj} {lo : Nat} (hlo : lo <= H.length) {ida idb : Nat} {x y : List Int} (hx : H[ida]? = some (.cells 3 (ic x))) (hy : H[idb]? = some (.cells 3 (ic y))) {m : Nat} (hxm : x.length = m) (hym : y.length = m) (hm : 1 <= m) (hm2 : m < 1000) (k : Nat) (hk : m + 2 < k) :
  call Tryz.prog ba (k + 1) lo (.func 118) [.sl ida 1 0 m, .sl idb 1 0 m] H = some (.sl H.length 1 0 m, H ++ [.cells 3 (ic (bK x y))]) := by
 have hne : x ≠ [] := fun e => by subst e; simp at hxm; omega
 have hC := sq hlo (so.sl hx) hne (by omega) (k - 1);rw [show k - 1 + 1 = k by omega, hxm] at hC
 apply ai Tryz.func118 U (Nb U) U U;(repeat' (first | apply ab | refine Wr 0 U U ?_ | (refine Wo 1 U ?_;refine Tc 1 U (Tg U (aa U U U U ‹_›) ?_) <;> refine Tc 1 U (Tn ?_)) | refine Wr 2 U U ?_ | apply ae));apply aS (S := tgS lo idb H.length m) (l := x) (a0 := H ++ [.cells 3 (ic x)]) (fun i rest H' => ∃ cur, cur = bK (x.take i) (y.take i) ++ x.drop i /\ H' = H ++ [.cells 3 (ic cur)]) (by omega) (by omega) rfl ⟨x, by simp [bK], rfl⟩
 ·intro i v rest H' hi hd hil hJ
  obtain ⟨cur, hcur, rfl⟩ := hJ;have hiy : i < y.length := by omega
  have hw : y[i]? = some y[i] := List.getElem?_eq_getElem hiy;obtain ⟨c1, c2⟩ := FL hi hw hcur;have hcl : cur.length = m := by rw [hcur]; simp [bK]; omega
  generalize y[i] = w at hw c2;have g1 : (H ++ [ap.cells 3 (ic cur)])[H.length]? = some (.cells 3 (ic cur)) := by simp
  have g2 : (H ++ [ap.cells 3 (ic cur)])[idb]? = some (.cells 3 (ic y)) := by rw [List.getElem?_append_left (aV hy)]; exact hy
  have hlt : decide ((i : Int) < (m : Int)) = true := decide_eq_true (by omega);have him : i < m := by omega
  have l1 : 0 + m * 1 = (ic cur).length := by rw [fE]; omega
  have l2 : 0 + m * 1 = (ic y).length := by rw [fE]; omega
  have p1 : (ic cur)[0 + i * 1]? = some (.int .i64 v) := by rw [show 0 + i * 1 = i by omega]; exact vI c1
  have p2 : (ic y)[0 + i * 1]? = some (.int .i64 w) := by rw [show 0 + i * 1 = i by omega]; exact vI hw
  have hs : lo <= H.length /\ (ic cur).length = (ic cur).length /\ 1 = 1 /\ (0 + i * 1) + 1 <= (ic cur).length := ⟨hlo, rfl, rfl, by rw [fE]; omega⟩
  (repeat' (first | apply ab | refine ah U U ?_ | (refine Wo 3 U ?_;refine Tt U U ‹_› (Tn ?_)) | refine Wr 4 U U ?_ | (refine Wd 5 [0,0,3,7,0,0,48,112,255,511,1023] U U (by decide +kernel) ?_;refine Uf U U U (Uf U U U (Uf U (dJ U U U U U ‹_› ‹_› ‹_›) U ?_)) <;> refine Uf U (aA U U U ‹_› U ‹_›) U ?_ <;> refine Uf U U U (Uf U U U (Uf U (dJ U U U U U ‹_› ‹_› ‹_›) U ?_)) <;> refine Uf U (aA U U U ‹_› U ‹_›) U ?_ <;> refine Uo U U (Uo U (dJ U U U U U ‹_› ‹_› ‹_›) ?_) <;> refine Uo U (aM U U U U ‹_› ‹_›) ?_ <;> refine Un ?_) | refine Wr 6 U U ?_ | apply ak | apply ae));refine ⟨_, rfl, cur.set i (be v w), c2, ?_⟩;have : bb (ic cur) (0 + i * 1) [.int .i64 (be v w)] = ic (cur.set i (be v w)) := by rw [show 0 + i * 1 = i by omega]; exact zv _ (by omega)
  show (H ++ [ap.cells 3 (ic cur)]).set H.length (.cells 3 (bb (ic cur) (0 + i * 1) [.int .i64 (be v w)])) = _;rw [this];simp
 ·intro H' hJ
  obtain ⟨cur, hcur, rfl⟩ := hJ;have hlt : decide ((x.length : Int) < (m : Int)) = false := decide_eq_false (by omega);have : cur = bK x y := by rw [hcur, List.take_of_length_le (Nat.le_refl _), List.take_of_length_le (by omega), List.drop_eq_nil_of_le (Nat.le_refl _), List.append_nil]
  subst this;(repeat' (first | apply ab | refine af U U ?_ | (refine Wo 3 U ?_;refine Tf U U ‹_› (Tn ?_)) | refine Wr 7 U U ?_ | apply am | apply aC));exact ⟨.inl rfl, rfl⟩
theorem xQ {H : aj} {id : Nat} {l : List Int} (hg : H[id]? = some (.cells 3 (ic l))) {b : AV} (hb : i9 H 0 b = some b) : mV H 0 [.sl id 1 0 l.length, b] = some [.vs 1 (ag l), b] := by
 have h1 : i9 H 0 (.sl id 1 0 l.length) = some (.vs 1 (ag l)) := rZ hg (Nat.zero_le _);simp only [mV, h1, hb]
theorem ss {H : aj} {id : Nat} {l : List Int} (hg : H[id]? = some (.cells 3 (ic l))) (es : List aF) (k : Nat) (hk : cQ es <= k) (hl : es.length < 9223372036854775808) (hb : jg es) (hr : s7 l.length es) (lo : Nat) :
  call Tryz.prog ba (k + 2) lo (.func 61) [.sl id 1 0 l.length, .vs 4 (bc es)] H = some (.int .i64 (bz l 0 es), H) :=
 oG rfl rfl rfl (xQ hg rfl) rfl (un es l k hk hl hb hr [] 0)
theorem D2 (H : aj) (e : aF) : i9 H 0 (.agg (cT e)) = some (.agg (cT e)) := by
 obtain ⟨op, n, c, l⟩ := e
 rfl
theorem ql {H : aj} {id : Nat} {l : List Int} (hg : H[id]? = some (.cells 3 (ic l))) (e : aF) (k : Nat) (hk : cM e <= k) (hb : dP e) (hr : E6 l.length e) (lo : Nat) :
  call Tryz.prog ba (k + 1) lo (.func 36) [.sl id 1 0 l.length, .agg (cT e)] H = some (.int .i64 (gB l e), H) :=
 oG rfl rfl rfl (xQ hg (D2 H e)) rfl (zg k e l hk hb hr 0 [])
def eqlS (h : aj) (x y : AV) (n : Nat) (i : Int) (_ : Unit) : St :=
 {env := [(0, .v x), (1, .v y), (12, .v (.int .i64 n)), (13, .v (.int .i64 i))], loc := [], heap := h, inRound := false, lo := h.length }
theorem Ce (x y : List Int) (hl : x.length < 100000) (k : Nat) (hk : x.length + 2 < k) (h : aj) (lo : Nat) :
  call Tryz.prog ba (k + 1) lo (.func 120) [.vs 1 (ag x), .vs 1 (ag y)] h = some (.bool (decide (x = y)), h) := by
 cases hc : (((ag x).length : Int) != ((ag y).length : Int)) with
 | true =>
  have : x ≠ y := fun e => by subst e; simp at hc
  rw [decide_eq_false this];apply ai Tryz.func120 U (Nb U) U U;(repeat' (first | apply ab | refine ah U U ?_ | refine Wr 0 U U ?_ | (refine Wo 1 U ?_;refine Tc 4 U (Tt U U ‹_› (Tn ?_))) | refine Wr 2 U U ?_ | apply am));exact ⟨.inl rfl, rfl⟩
 | false =>
  have hxy : x.length = y.length := by
   simp only [bw, bne_eq_false_iff_eq] at hc;omega
  apply ai Tryz.func120 U (Nb U) U U;(repeat' (first | apply ab | refine af U U ?_ | refine Wr 0 U U ?_ | (refine Wo 1 U ?_;refine Tc 4 U (Tf U U ‹_› (Tn ?_))) | refine Wr 3 U U ?_ | apply ak | apply ae));apply aS (S := eqlS h (.vs 1 (ag x)) (.vs 1 (ag y)) (ag x).length) (l := x) (a0 := ()) (fun i rest _ => (rest = y.drop i) = (x = y)) (by omega) (by omega) rfl (by simp)
  ·intro i v rest a hi hd hil hJ
   have hrow := mK hi;have hiy : i < y.length := by omega
   have hy : y[i]? = some y[i] := List.getElem?_eq_getElem hiy;have hrow2 := mK hy;have hlt := xy hil;rw [List.drop_eq_getElem_cons hiy, List.cons.injEq] at hJ;(repeat' (first | apply ab | refine ah U U ?_ | refine af U U ?_ | (refine Wo 4 U ?_;refine Tt U U ‹_› (Tn ?_)) | refine Wr 5 U U ?_ | (refine Wd 6 [0,0,3,7,0,0,48,112,255] U U (by decide +kernel) ?_;refine Uf U U U (Uf U U U (Uf U (aq U U U U U ‹_›) U ?_)) <;> refine Uf U U U (Uf U U U (Uf U U U (Uf U (aq U U U U U ‹_›) U ?_))) <;> refine Uf U U U ?_ <;> (refine aP U ?_; refine dA (by decide +kernel) U (fun _ => ?_) (fun _ => ?_)) <;> refine Un ?_) | refine Wr 7 U U ?_ | refine Wr 8 U U ?_ | apply ak | apply ae | apply am))
   ·rename_i hne
    simp only [bne_iff_ne, ne_eq] at hne;refine ⟨.inl rfl, Eq.trans (b := some (AV.bool false, _)) rfl ?_⟩;rw [decide_eq_false (by rw [<- hJ]; exact fun e => hne e.1)]
   ·rename_i hne
    simp only [bne_eq_false_iff_eq] at hne;exact ⟨(), rfl, by rw [<- hJ]; simp [hne]⟩
  ·intro a hJ
   have hlt := xz (l := x);(repeat' (first | apply ab | refine af U U ?_ | (refine Wo 4 U ?_;refine Tf U U ‹_› (Tn ?_)) | refine Wr 9 U U ?_ | apply am | apply aC));refine ⟨.inl rfl, Eq.trans (b := some (AV.bool true, _)) rfl ?_⟩;rw [decide_eq_true (by rw [<- hJ, hxy]; simp)]
theorem zR {H : aj} {ida idb : Nat} {x y : List Int} (hx : H[ida]? = some (.cells 3 (ic x))) (hy : H[idb]? = some (.cells 3 (ic y))) (hl : x.length < 100000) (k : Nat) (hk : x.length + 2 < k) (lo : Nat) :
  call Tryz.prog ba (k + 2) lo (.func 120) [.sl ida 1 0 x.length, .sl idb 1 0 y.length] H = some (.bool (decide (x = y)), H) := by
 refine oG (xs := [.vs 1 (ag x), .vs 1 (ag y)]) rfl rfl rfl ?_ rfl (Ce x y hl k hk [] 0);have h1 : i9 H 0 (.sl ida 1 0 x.length) = some (.vs 1 (ag x)) := rZ hx (Nat.zero_le _);have h2 : i9 H 0 (.sl idb 1 0 y.length) = some (.vs 1 (ag y)) := rZ hy (Nat.zero_le _);simp only [mV, h1, h2]
theorem D3 (k lo : Nat) (a b c d : AV) (h : aj) (op nn : Int) (ar : List aF) (t e : List ay) : call Tryz.prog ba (k + 1) lo (.func 119) [a, .agg (ig (.mk op nn ar t e)), c, d] h = some (.tup [], h) := by
 apply ai Tryz.func119 U (Nb U) U U;(repeat' refine Wr 0 U U ?_);exact ⟨.inr rfl, rfl⟩
theorem FM {H : aj} {id lo : Nat} {lv : List Int} (hg : H[id]? = some (.cells 3 (ic lv))) (hlo : lo <= id) {m : Nat} (hm : lv.length = m) (s : ay) (hv : mc m s) (ar : Int) (k : Nat) (hk : iy s + 2 <= k) (hb : kP s) :
  call Tryz.prog ba (k + 1) lo (.func 121) [.agg (ig s), .sl id 1 0 m, .int .i64 ar] H = some (.tup [], H.set id (.cells 3 (ic (bT lv ar s)))) := by
 obtain ⟨op, nn, a, t, e⟩ := s;rw [iy] at hk;rw [kP] at hb;rw [mc] at hv;obtain ⟨⟨ha1, ha2⟩, _⟩ := hb;have hA := ss hg a (k - 2) (by omega) ha1 ha2 (by rw [hm]; exact hv.1) lo;rw [show k - 2 + 2 = k by omega, hm] at hA
 have hself : H.set id (.cells 3 (ic lv)) = H := by
  have := aV hg;rw [List.getElem?_eq_getElem this] at hg;injection hg with hg;rw [<- hg, List.set_getElem_self]
 have hal := dd a;have hl : 0 + m * 1 = (ic lv).length := by rw [fE]; omega
 have hidx : (op = 0 \/ op = 4) -> (0 <= nn /\ nn.toNat < m) := fun ho => by have := hv.2.1 ho; omega
 have hset : ∀ z : Int, nn.toNat < m -> H.set id (.cells 3 (bb (ic lv) (0 + nn.toNat * 1) [.int .i64 z])) = H.set id (.cells 3 (ic (lv.set nn.toNat z))) := fun z hz => by
  rw [show 0 + nn.toNat * 1 = nn.toNat by omega, zv _ (by omega)]
 have hpv : nn.toNat < m -> (ic lv)[0 + nn.toNat * 1]? = some (.int .i64 (lv.getD nn.toNat 0)) := fun hz => by
  rw [show 0 + nn.toNat * 1 = nn.toNat by omega]
  refine vI ?_;rw [List.getD_eq_getElem?_getD, List.getElem?_eq_getElem (by omega)]; rfl
 have hst : nn.toNat < m -> (lo <= id /\ (ic lv).length = (ic lv).length /\ 1 = 1 /\ (0 + nn.toNat * 1) + 1 <= (ic lv).length) := fun hz => ⟨hlo, rfl, rfl, by rw [fE]; omega⟩
 by_cases o0 : op = 0
 ·have hj := hidx (.inl o0)
  have p1 := hpv hj.2;have hs := hst hj.2;have hset := fun z => hset z hj.2
  clear hidx hpv hst hself;have c0 : (op == 0) = true := by simp [o0]
  have c0n : (op != 0) = false := by simp [o0]
  have c4 : (op == 4) = false := by simp [o0]
  by_cases l2 : a.length = 2
  ·have d2 : (((bc a).length : Int) == 2) = true := by rw [hal, l2]; rfl
   have hp : bT lv ar (.mk op nn a t e) = lv.set nn.toNat (be (lv.getD nn.toNat 0) (be ar (bz lv 0 a))) := by
    unfold bT gw;dsimp only;rw [if_pos (.inl o0), if_pos (.inl l2), if_neg (by omega)]
   rw [hp, <- hset];apply ai Tryz.func121 U (Nb U) U U;(repeat' (first | apply ab | refine ah U U ?_ | refine af U U ?_ | refine Wr 0 U U ?_ | (refine Wo 1 U ?_;refine Tc 4 U (Tg U (aa U U U U ‹_›) ?_) <;> refine Tc 2 U (Tn ?_)) | (refine Wo 2 U ?_;refine Tc 3 U (Tt U U ‹_› (Tc 3 U (Tk U (Tc 4 U (Tk U (Tc 3 U (Tn ?_)))))))) | (refine Wo 3 U ?_;refine Tc 2 U (Tf U U ‹_› (Tn ?_))) | (refine Wo 6 U ?_;refine Tc 2 U (Tf U U ‹_› (Tc 3 U (Tk U (Tc 2 U (Tn ?_)))))) | refine Wr 7 U U ?_ | (refine Wo 8 U ?_;refine Tc 3 U (Tg U (dc U U U U U ‹_› ‹_› ‹_›) ?_) <;> refine Tg U (aA U U U ‹_› U ‹_›) ?_ <;> refine Tc 2 U (Tg U (dc U U U U U ‹_› ‹_› ‹_›) ?_) <;> refine Tg U (aM U U U U ‹_› ‹_›) ?_ <;> refine Tn ?_) | apply ak | apply ae))
   exact ⟨.inr rfl, rfl⟩
  ·have d2 : (((bc a).length : Int) == 2) = false := by rw [hal]; simp; omega
   have hp : bT lv ar (.mk op nn a t e) = lv.set nn.toNat (be ar (bz lv 0 a)) := by
    unfold bT gw;dsimp only;rw [if_pos (.inl o0), if_neg (by omega), if_neg (by omega)]
   rw [hp, <- hset];apply ai Tryz.func121 U (Nb U) U U;(repeat' (first | apply ab | refine af U U ?_ | refine Wr 0 U U ?_ | (refine Wo 1 U ?_;refine Tc 4 U (Tg U (aa U U U U ‹_›) ?_) <;> refine Tc 2 U (Tn ?_)) | (refine Wo 2 U ?_;refine Tc 3 U (Tf U U ‹_› (Tc 3 U (Tf U U ‹_› (Tc 4 U (Tk U (Tc 3 U (Tn ?_)))))))) | (refine Wo 3 U ?_;refine Tc 2 U (Tf U U ‹_› (Tn ?_))) | (refine Wo 5 U ?_;refine Tc 4 U (Tg U (dc U U U U U ‹_› ‹_› ‹_›) ?_) <;> refine Tg U (aM U U U U ‹_› ‹_›) ?_ <;> refine Tn ?_) | (refine Wo 6 U ?_;refine Tc 2 U (Tf U U ‹_› (Tc 3 U (Tk U (Tc 2 U (Tn ?_)))))) | refine Wr 7 U U ?_ | apply ak | apply ae))
   exact ⟨.inr rfl, rfl⟩
 by_cases o4 : op = 4
 ·have hj := hidx (.inr o4)
  have p1 := hpv hj.2;have hs := hst hj.2;have hset := fun z => hset z hj.2
  clear hidx hpv hst hself;have c0 : (op == 0) = false := by simp [o0]
  have c0n : (op != 0) = true := by simp [o0]
  have c4 : (op == 4) = true := by simp [o4]
  have c4n : (op != 4) = false := by simp [o4]
  by_cases l2 : a.length = 2
  ·have d2 : (((bc a).length : Int) == 2) = true := by rw [hal, l2]; rfl
   have hp : bT lv ar (.mk op nn a t e) = lv.set nn.toNat (be (lv.getD nn.toNat 0) (be (be ar (bz lv 0 a)) 16)) := by
    unfold bT gw;dsimp only;rw [if_pos (.inr o4), if_pos (.inl l2), if_pos o4]
   rw [hp, <- hset];apply ai Tryz.func121 U (Nb U) U U;(repeat' (first | apply ab | refine ah U U ?_ | refine af U U ?_ | refine Wr 0 U U ?_ | (refine Wo 1 U ?_;refine Tc 4 U (Tg U (aa U U U U ‹_›) ?_) <;> refine Tc 2 U (Tn ?_)) | (refine Wo 2 U ?_;refine Tc 3 U (Tt U U ‹_› (Tc 3 U (Tk U (Tc 4 U (Tk U (Tc 3 U (Tn ?_)))))))) | (refine Wo 3 U ?_;refine Tc 2 U (Tt U U ‹_› (Tn ?_))) | refine Wr 4 U U ?_ | (refine Wo 6 U ?_;refine Tc 2 U (Tt U U ‹_› (Tc 3 U (Tf U U ‹_› (Tc 2 U (Tn ?_)))))) | refine Wr 7 U U ?_ | (refine Wo 8 U ?_;refine Tc 3 U (Tg U (dc U U U U U ‹_› ‹_› ‹_›) ?_) <;> refine Tg U (aA U U U ‹_› U ‹_›) ?_ <;> refine Tc 2 U (Tg U (dc U U U U U ‹_› ‹_› ‹_›) ?_) <;> refine Tg U (aM U U U U ‹_› ‹_›) ?_ <;> refine Tn ?_) | apply ae))
   exact ⟨.inr rfl, rfl⟩
  ·have d2 : (((bc a).length : Int) == 2) = false := by rw [hal]; simp; omega
   by_cases l1 : a.length = 1
   ·have d1 : (((bc a).length : Int) == 1) = true := by rw [hal, l1]; rfl
    have hp : bT lv ar (.mk op nn a t e) = lv.set nn.toNat (be (lv.getD nn.toNat 0) (be (be ar (bz lv 0 a)) 16)) := by
     unfold bT gw;dsimp only;rw [if_pos (.inr o4), if_pos (.inr ⟨o4, l1⟩), if_pos o4]
    rw [hp, <- hset];apply ai Tryz.func121 U (Nb U) U U;(repeat' (first | apply ab | refine ah U U ?_ | refine af U U ?_ | refine Wr 0 U U ?_ | (refine Wo 1 U ?_;refine Tc 4 U (Tg U (aa U U U U ‹_›) ?_) <;> refine Tc 2 U (Tn ?_)) | (refine Wo 2 U ?_;refine Tc 3 U (Tf U U ‹_› (Tc 3 U (Tt U U ‹_› (Tc 4 U (Tt U U ‹_› (Tc 3 U (Tn ?_)))))))) | (refine Wo 3 U ?_;refine Tc 2 U (Tt U U ‹_› (Tn ?_))) | refine Wr 4 U U ?_ | (refine Wo 6 U ?_;refine Tc 2 U (Tt U U ‹_› (Tc 3 U (Tf U U ‹_› (Tc 2 U (Tn ?_)))))) | refine Wr 7 U U ?_ | (refine Wo 8 U ?_;refine Tc 3 U (Tg U (dc U U U U U ‹_› ‹_› ‹_›) ?_) <;> refine Tg U (aA U U U ‹_› U ‹_›) ?_ <;> refine Tc 2 U (Tg U (dc U U U U U ‹_› ‹_› ‹_›) ?_) <;> refine Tg U (aM U U U U ‹_› ‹_›) ?_ <;> refine Tn ?_) | apply ae))
    exact ⟨.inr rfl, rfl⟩
   ·have d1 : (((bc a).length : Int) == 1) = false := by rw [hal]; simp; omega
    have hp : bT lv ar (.mk op nn a t e) = lv.set nn.toNat (be (be ar (bz lv 0 a)) 16) := by
     unfold bT gw;dsimp only;rw [if_pos (.inr o4), if_neg (by omega), if_pos o4]
    rw [hp, <- hset];apply ai Tryz.func121 U (Nb U) U U;(repeat' (first | apply ab | refine ah U U ?_ | refine af U U ?_ | refine Wr 0 U U ?_ | (refine Wo 1 U ?_;refine Tc 4 U (Tg U (aa U U U U ‹_›) ?_) <;> refine Tc 2 U (Tn ?_)) | (refine Wo 2 U ?_;refine Tc 3 U (Tf U U ‹_› (Tc 3 U (Tt U U ‹_› (Tc 4 U (Tf U U ‹_› (Tc 3 U (Tn ?_)))))))) | (refine Wo 3 U ?_;refine Tc 2 U (Tt U U ‹_› (Tn ?_))) | refine Wr 4 U U ?_ | (refine Wo 5 U ?_;refine Tc 4 U (Tg U (dc U U U U U ‹_› ‹_› ‹_›) ?_) <;> refine Tg U (aM U U U U ‹_› ‹_›) ?_ <;> refine Tn ?_) | (refine Wo 6 U ?_;refine Tc 2 U (Tt U U ‹_› (Tc 3 U (Tf U U ‹_› (Tc 2 U (Tn ?_)))))) | refine Wr 7 U U ?_ | apply ae))
    exact ⟨.inr rfl, rfl⟩
 ·have c0 : (op == 0) = false := by simp [o0]
  have c0n : (op != 0) = true := by simp [o0]
  have c4 : (op == 4) = false := by simp [o4]
  have c4n : (op != 4) = true := by simp [o4]
  have hp : bT lv ar (.mk op nn a t e) = lv := by
   unfold bT;dsimp only;rw [if_neg (by omega)]
  rw [hp, hself];cases d2 : (((bc a).length : Int) == 2) <;>
  ·apply ai Tryz.func121 U (Nb U) U U
   (repeat' (first | apply ab | refine ah U U ?_ | refine af U U ?_ | refine Wr 0 U U ?_ | (refine Wo 1 U ?_;refine Tc 4 U (Tg U (aa U U U U ‹_›) ?_) <;> refine Tc 2 U (Tn ?_)) | (refine Wo 2 U ?_;refine Tc 3 U ?_ <;> (refine aK U ?_; first | refine bi U ‹_› ?_ | refine aT U ‹_› ?_) <;> refine Tc 3 U ?_ <;> (first | refine au U ?_ | (refine aK U ?_; refine aT U ‹_› ?_)) <;> refine Tc 4 U (Tk U (Tc 3 U (Tn ?_)))) | (refine Wo 3 U ?_;refine Tc 2 U (Tf U U ‹_› (Tn ?_))) | (refine Wo 6 U ?_;refine Tc 2 U (Tt U U ‹_› (Tc 3 U (Tt U U ‹_› (Tc 2 U (Tn ?_)))))) | apply ak | apply ae));exact ⟨.inr rfl, rfl⟩
def Fr (h : aj) (O : Nat -> Prop) (h' : aj) (O' : Nat -> Prop) : Prop := h.length <= h'.length /\ (∀ i, i < h.length -> ¬ O i -> h'[i]? = h[i]?) /\ ∀ i, O' i -> O i \/ h.length <= i
theorem Fr.refl (h : aj) (O : Nat -> Prop) : Fr h O h O := ⟨Nat.le_refl _, fun _ _ _ => rfl, fun _ h => .inl h⟩
theorem Fr.trans {h h1 h2 : aj} {O O1 O2 : Nat -> Prop} (a : Fr h O h1 O1) (b : Fr h1 O1 h2 O2) : Fr h O h2 O2 := by
 obtain ⟨a1, a2, a3⟩ := a;obtain ⟨b1, b2, b3⟩ := b;refine ⟨Nat.le_trans a1 b1, fun i hi ho => ?_, fun i hi => ?_⟩
 ·rw [b2 i (Nat.lt_of_lt_of_le hi a1) (fun e => by
                           rcases a3 i e with q | q
                           ·exact ho q
                           ·omega), a2 i hi ho]
 ·rcases b3 i hi with q | q
  ·exact a3 i q
  ·exact .inr (Nat.le_trans a1 q)
theorem Fr.get {h h' : aj} {O O' : Nat -> Prop} (a : Fr h O h' O') {i : Nat} {o : ap} (hg : h[i]? = some o) (hn : ¬ O i) : h'[i]? = some o := by
 rw [a.2.1 i (aV hg) hn, hg]
theorem Fr.not {h h' : aj} {O O' : Nat -> Prop} (a : Fr h O h' O') {i : Nat} (hi : i < h.length) (hn : ¬ O i) : ¬ O' i := fun e => by
 rcases a.2.2 i e with q | q
 ·exact hn q
 ·omega
theorem Fr.set {h h1 : aj} {O O1 : Nat -> Prop} (a : Fr h O h1 O1) {id : Nat} (hid : h.length <= id) (o : ap) : Fr h O (h1.set id o) O1 := by
 obtain ⟨a1, a2, a3⟩ := a;refine ⟨by simpa using a1, fun i hi ho => ?_, a3⟩
 rw [List.getElem?_set_ne (by omega), a2 i hi ho]
theorem Fr.app {h h1 : aj} {O O1 : Nat -> Prop} (a : Fr h O h1 O1) (more : aj) : Fr h O (h1 ++ more) O1 := by
 obtain ⟨a1, a2, a3⟩ := a;refine ⟨by simp; omega, fun i hi ho => ?_, a3⟩
 rw [List.getElem?_append_left (by omega), a2 i hi ho]
structure HE where
 σ : Type
 upd : σ -> Int -> ay -> List Int -> Int -> σ
 B : Nat -> σ -> aj -> (Nat -> Prop) -> Prop
 f : Nat
 caps : List AV
structure xR (S : HE) (m lo kY : Nat) : Prop where
 frame : ∀ {b x h O h'}, S.B b x h O -> h.length <= h'.length -> (∀ i, O i -> h'[i]? = h[i]?) -> S.B b x h' O
 mono : ∀ {b b' x h O}, S.B b x h O -> b' <= b -> S.B b' x h O
 rng : ∀ {b x h O i}, S.B b x h O -> O i -> i < h.length
 run : ∀ (k b : Nat) (x : S.σ) (h : aj) (O : Nat -> Prop) (id : Nat) (lv : List Int) (ar n : Int) (s : ay), S.B (b + 1) x h O -> h[id]? = some (.cells 3 (ic lv)) -> ¬ O id -> lv.length = m -> bf lv -> cb ar -> iy s + kY <= k /\ iy s <= 6200 -> kP s -> mc m s -> lo <= h.length ->
  ∃ (h' : aj) (O' : Nat -> Prop), call Tryz.prog ba k lo (.func S.f) ([.int .i64 n, .agg (ig s), .sl id 1 0 m, .int .i64 ar] ++ S.caps) h = some (.tup [], h') /\ S.B b (S.upd x n s lv ar) h' O' /\ Fr h O h' O'
def FN : HE := { σ := Unit, upd := fun _ _ _ _ _ => (), B := fun _ _ _ O => ∀ i, ¬ O i, f := 119, caps := [] }
theorem FO (m lo : Nat) : xR FN m lo 0 where
 frame h _ _ := h
 mono h _ := h
 rng h ho := absurd ho (h _)
 run k b x h O id lv ar n s hB _ _ _ _ _ hk _ _ _ := by
  obtain ⟨op, nn, a, t, e⟩ := s;rw [iy] at hk;have := D3 (k - 1) lo (.int .i64 n) .nils (.sl id 1 0 m) (.int .i64 ar) h op nn a t e;rw [show k - 1 + 1 = k by omega] at this
  exact ⟨h, O, this, hB, Fr.refl h O⟩
structure MA (σ : Type) where
 lv : List Int
 x : σ
 n : Int
 H : aj
 O : Nat -> Prop
 id : Nat
structure MW where
 lv : List Int
 H : aj
 id : Nat
def mvS {σ : Type} (lo m : Nat) (ar : Int) (l : List ay) (f : Nat) (caps : List AV) (i : Int) (a : MA σ) : St :=
 {env := [(1, .v (.sl a.id 1 0 m)), (2, .v (.int .i64 ar)), (3, .v (.int .i64 a.n)), (4, .v (.fn (.func f) caps)), (24, .v (.vs 5 (br l))), (25, .v (.int .i64 (br l).length)), (26, .v (.int .i64 i))], loc := [], heap := a.H, inRound := false, lo := lo }
def mwS (lo m : Nat) (ar : Int) (l : List ay) (f : Nat) (caps : List AV) (i n n1 : Int) (st : ay) (a : MW) : St :=
 {env := [(1, .v (.sl a.id 1 0 m)), (2, .v (.int .i64 ar)), (3, .v (.int .i64 n1)), (4, .v (.fn (.func f) caps)), (13, .p 13 0), (14, .v (.int .i64 n)), (24, .v (.vs 5 (br l))), (25, .v (.int .i64 (br l).length)), (26, .v (.int .i64 i))], loc := [(13, ig st)], heap := a.H, inRound := false, lo := lo }
def fP (t : List ay) (a : List aF) (ar : Int) (x : List Int) : List Int := bK x (fb bT fg t x (be ar (fg x a)))
theorem jQ (m : Nat) (hm1 : 1 <= m) (hm2 : m <= 18) : ∀ (k : Nat) (S : HE) (lo kY : Nat), xR S m lo kY -> ∀ (l : List ay) (lv : List Int) (ar n : Int) (x : S.σ) (h : aj) (O : Nat -> Prop) (v : AV) (b : Nat),
  bA l + kY + 1300 <= k /\ bA l <= 6200 -> l.length < 9223372036854775808 -> eQ l -> xi m l -> lv.length = m -> bf lv -> cb ar -> so h v lv -> lo <= h.length -> S.B (fD l + b) x h O ->
  ∃ (id : Nat) (h' : aj) (O' : Nat -> Prop), call Tryz.prog ba k lo (.func 77) [.vs 5 (br l), v, .int .i64 ar, .int .i64 n, .fn (.func S.f) S.caps] h = some (.tup [.sl id 1 0 m, .int .i64 (lI bT fg S.upd l lv ar x n).2], h') /\
   h'[id]? = some (.cells 3 (ic (fb bT fg l lv ar))) /\ S.B b (lI bT fg S.upd l lv ar x n).1 h' O' /\ Fr h O h' O' /\ ¬ O' id /\ h.length <= id
 | 0, S, lo, kY, hS, l, lv, ar, n, x, h, O, v, b, hk, _, _, _, _, _, _, _, _, _ => by omega
 | k + 1, S, lo, kY, hS, l, lv, ar, n, x, h, O, v, b, hk, hlen, hb, hvm, hlv, hB, har, hv, hlo, hSB => by
  have hMv := vK m;have hll := b9 l;have hne : lv ≠ [] := fun e => by subst e; simp at hlv; omega
  have hC := sq hlo hv hne (by omega) (k - 1);rw [show k - 1 + 1 = k by omega, hlv] at hC
  have key : ∃ out : AV × aj, call Tryz.prog ba (k + 1) lo (.func 77) [.vs 5 (br l), v, .int .i64 ar, .int .i64 n, .fn (.func S.f) S.caps] h = some out /\ ∃ e : MA S.σ, out = (.tup [.sl e.id 1 0 m, .int .i64 e.n], e.H) /\
    e.lv.length = m /\ bf e.lv /\ e.H[e.id]? = some (.cells 3 (ic e.lv)) /\ ¬ e.O e.id /\ h.length <= e.id /\ S.B (fD [] + b) e.x e.H e.O /\ Fr h O e.H e.O /\ fb bT fg [] e.lv ar = fb bT fg l lv ar /\ lI bT fg S.upd [] e.lv ar e.x e.n = lI bT fg S.upd l lv ar x n := by
   have hvv : ∃ q, v = q /\ so h q lv := ⟨v, rfl, hv⟩;apply cY Tryz.func77 U (Nb U) U U;(repeat' (first | apply ab | refine Wr 0 U U ?_ | (refine Wo 1 U ?_;refine Tc 1 U (Tg U (aa U U U U ‹_›) ?_) <;> refine Tc 1 U (Tn ?_)) | refine Wr 2 U U ?_ | apply ae));apply cg (S := mvS lo m ar l S.f S.caps) (l := l) (a0 := ⟨lv, x, n, h ++ [.cells 3 (ic lv)], O, h.length⟩)
    (fun rest a => a.lv.length = m /\ bf a.lv /\ a.H[a.id]? = some (.cells 3 (ic a.lv)) /\ ¬ a.O a.id /\ h.length <= a.id /\ S.B (fD rest + b) a.x a.H a.O /\ Fr h O a.H a.O /\ fb bT fg rest a.lv ar = fb bT fg l lv ar /\ lI bT fg S.upd rest a.lv ar a.x a.n = lI bT fg S.upd l lv ar x n) hlen (by omega) rfl
    ⟨hlv, hB, by simp, fun e => absurd (hS.rng hSB e) (Nat.lt_irrefl _), Nat.le_refl _, hS.frame hSB (by simp) (fun i hi => List.getElem?_append_left (hS.rng hSB hi)), (Fr.refl h O).app _, rfl, rfl⟩
   ·intro i st rest a hi hd hil hJ
    obtain ⟨alv, ax, an, aH, aO, aid⟩ := a;obtain ⟨j1, j2, j3, j4, j5, j6, j7, j8, j9⟩ := hJ;dsimp only at j1 j2 j3 j4 j5 j6 j7 j8 j9;have hlt := f5 hil;have hrow := de _ _ _ hi;have hmem := jt l i _ hi;have hbm := dt l i _ hb hi;have hvm1 := AD hvm hi;obtain ⟨q1, q2⟩ := fF hMv st alv ar j1 j2 har hvm1;have hloH : lo <= aH.length := Nat.le_trans hlo j7.1;have hloid : lo <= aid := Nat.le_trans hlo j5;rw [fb] at j8;rw [lI] at j9;rw [fD] at j6;obtain ⟨op, nn, a, t, e⟩ := st;have hbm' := hbm;have hvm1' := hvm1;rw [iy] at hmem;rw [kP] at hbm;rw [mc] at hvm1;obtain ⟨⟨ha1, ha2⟩, ⟨ht1, ht2⟩, he1, he2⟩ := hbm;obtain ⟨r1, r2, r3, r4, r5⟩ := hvm1;have hla := bB a;have hsc : rF (.mk op nn a t e) = 1 + fD t + fD e := by rw [rF]
    have hmk : iy (.mk op nn a t e) = cQ a + bA t + bA e + 1 := by rw [iy]
    by_cases o1 : op = 1
    ·have c1 : (op == 1) = true := by simp [o1]
     obtain ⟨x0, rfl⟩ := r3 (.inl o1);have hx0 : (bc [x0])[0]? = some (cT x0) := rfl;have hxk : cM x0 <= cQ [x0] := bX [x0] 0 x0 rfl;obtain ⟨H1, O1, s1, s2, s3⟩ := hS.run k (fD t + (fD e + (fD rest + b))) ax aH aO aid alv ar an _ (hS.mono j6 (by omega)) j3 j4 j1 j2 har (by omega) hbm' hvm1' hloH;have n1 := s3.not (aV j3) j4;have g1 := s3.get j3 j4;have hO := ql g1 x0 (k - 1) (by omega) ha2.1 (by rw [j1]; exact r1.1) lo;rw [show k - 1 + 1 = k by omega, j1] at hO
     have hfB : cb (be ar (gB alv x0)) := bC har (fa j2 x0);obtain ⟨id2, H2, O2, m1, m2, m3, m4, m5, m6⟩ := jQ m hm1 hm2 k S lo kY hS t alv (be ar (gB alv x0)) (IntKind.i64.wrap (an + 1)) _ H1 O1 (.sl aid 1 0 m) (fD e + (fD rest + b)) (by omega) ht1 ht2 r4 j1 j2 hfB (.inr ⟨aid, by rw [j1], g1⟩) (Nat.le_trans hloH s3.1) s2;have n2 := m4.not (aV g1) n1;have g2 := m4.get g1 n1;obtain ⟨id3, H3, O3, e1, e2, e3, e4, e5, e6⟩ := jQ m hm1 hm2 k S lo kY hS e alv (be ar (gB alv x0)) (lI bT fg S.upd t alv (be ar (gB alv x0)) (S.upd ax an (.mk op nn [x0] t e) alv ar) (IntKind.i64.wrap (an + 1))).2 _ H2 O2 (.sl aid 1 0 m) (fD rest + b) (by omega) he1 he2 r5 j1 j2 hfB (.inr ⟨aid, by rw [j1], g2⟩) (Nat.le_trans (Nat.le_trans hloH s3.1) m4.1) m3;have g3 := e4.get m2 m5;obtain ⟨t1, t2⟩ := cK hMv t alv (be ar (gB alv x0)) j1 j2 hfB r4;obtain ⟨u1, u2⟩ := cK hMv e alv (be ar (gB alv x0)) j1 j2 hfB r5;have hT := nY (Nat.le_trans (Nat.le_trans (Nat.le_trans hloH s3.1) m4.1) e4.1) g3 e2 t1 u1 hm1 (by omega) (k - 1) (by omega);rw [show k - 1 + 1 = k by omega] at hT
     have hm : gK bT fg (.mk op nn [x0] t e) alv ar = bK (fb bT fg t alv (be ar (gB alv x0))) (fb bT fg e alv (be ar (gB alv x0))) := by rw [gK, if_pos o1]; rfl
     have hsp : EN bT fg S.upd (.mk op nn [x0] t e) alv ar ax an = lI bT fg S.upd e alv (be ar (gB alv x0)) (lI bT fg S.upd t alv (be ar (gB alv x0)) (S.upd ax an (.mk op nn [x0] t e) alv ar) (IntKind.i64.wrap (an + 1))).1 (lI bT fg S.upd t alv (be ar (gB alv x0)) (S.upd ax an (.mk op nn [x0] t e) alv ar) (IntKind.i64.wrap (an + 1))).2 := by rw [EN, if_pos o1]; rfl
     rw [hm] at j8 j9 q1 q2;rw [hsp] at j9;have hFr : Fr h O H3 O3 := j7.trans (s3.trans (m4.trans e4));have hrg := fun i hi => hS.rng (i := i) e3 hi
     have hBf := hS.frame (h' := H3 ++ [.cells 3 (ic (bK (fb bT fg t alv (be ar (gB alv x0))) (fb bT fg e alv (be ar (gB alv x0)))))]) e3 (by simp) (fun i hi => List.getElem?_append_left (hrg i hi));generalize lI bT fg S.upd t alv (be ar (gB alv x0)) (S.upd ax an (.mk op nn [x0] t e) alv ar) (IntKind.i64.wrap (an + 1)) = X1 at *;generalize lI bT fg S.upd e alv (be ar (gB alv x0)) X1.1 X1.2 = X2 at *;generalize bK (fb bT fg t alv (be ar (gB alv x0))) (fb bT fg e alv (be ar (gB alv x0))) = J at *;obtain ⟨xo, xn, xc, xs⟩ := x0;(repeat' (first | apply ab | refine ah U U ?_ | (refine Wo 3 U ?_;refine Tt U U ‹_› (Tn ?_)) | (refine Wo 4 U ?_;refine Tg U (aq U U U U U ‹_›) ?_ <;> refine Tg U U (Tc 2 U (Tn ?_))) | refine Wr 5 U U ?_ | refine Wr 6 U U ?_ | refine Wr 7 U U ?_ | (refine Wo 10 U ?_;refine Tt U U ‹_› (Tc 1 U (Tn ?_))) | (refine Wo 11 U ?_;refine Tc 5 U (Tg U (aa U U U U ‹_›) ?_) <;> refine Tn ?_) | (refine Wo 12 U ?_;refine Tc 4 U (Tg U (aq U U U U U ‹_›) ?_) <;> refine Tg U U (Tg U (aa U U U U ‹_›) ?_) <;> refine Tc 2 U (Tn ?_)) | (refine Wo 13 U ?_;refine Tc 6 U (Tg U (aa U U U U ‹_›) ?_) <;> refine Tc 5 U (Tn ?_)) | (refine Wo 14 U ?_;refine Tc 6 U (Tg U (aa U U U U ‹_›) ?_) <;> refine Tc 5 U (Tn ?_)) | (refine Wo 15 U ?_;refine Tc 2 U (Tg U (aa U U U U ‹_›) ?_) <;> refine Tc 3 U (Tn ?_)) | refine Wr 23 U U ?_ | apply ak | apply ae));exact ⟨⟨J, X2.1, X2.2, H3 ++ [.cells 3 (ic J)], O3, H3.length⟩, rfl, q1, q2, by simp, fun q => absurd (hrg _ q) (Nat.lt_irrefl _), hFr.1, hBf, hFr.app _, j8, j9⟩
    have c1 : (op == 1) = false := by simp [o1]
    by_cases o2 : op = 2
    ·have c2 : (op == 2) = true := by simp [o2]
     obtain ⟨x0, rfl⟩ := r3 (.inr (.inl o2));have hx0 : (bc [x0])[0]? = some (cT x0) := rfl;have hxk : cM x0 <= cQ [x0] := bX [x0] 0 x0 rfl;have hm : gK bT fg (.mk op nn [x0] t e) alv ar = iG (fP t [x0] ar) 600 alv := by rw [gK, if_neg o1, if_pos o2]; rfl
     have hsp : EN bT fg S.upd (.mk op nn [x0] t e) alv ar ax an = lI bT fg S.upd t (iG (fP t [x0] ar) 600 alv) (be ar (gB (iG (fP t [x0] ar) 600 alv) x0)) (S.upd ax an (.mk op nn [x0] t e) (iG (fP t [x0] ar) 600 alv) ar) (IntKind.i64.wrap (an + 1)) := by rw [EN, if_neg o1, if_pos o2, hm]; rfl
     rw [hm] at j8 j9 q1 q2;rw [hsp] at j9;have hrm := rH j2;have hrg := fun i hi => hS.rng (i := i) j6 hi
     generalize hF : iG (fP t [x0] ar) 600 alv = F at *;(repeat' (first | apply ab | refine ah U U ?_ | refine af U U ?_ | (refine Wo 3 U ?_;refine Tt U U ‹_› (Tn ?_)) | (refine Wo 4 U ?_;refine Tg U (aq U U U U U ‹_›) ?_ <;> refine Tg U U (Tc 2 U (Tn ?_))) | refine Wr 5 U U ?_ | refine Wr 6 U U ?_ | refine Wr 7 U U ?_ | (refine Wo 10 U ?_;refine Tf U U ‹_› (Tc 1 U (Tn ?_))) | (refine Wo 16 U ?_;refine Tt U U ‹_› (Tc 1 U (Tn ?_))) | apply ak | apply ae));apply vl (S := mwS lo m ar l S.f S.caps i an (IntKind.i64.wrap (an + 1)) (.mk op nn [x0] t e)) (a0 := ⟨alv, aH, aid⟩)
      (fun q => q.lv.length = m /\ bf q.lv /\ q.H[q.id]? = some (.cells 3 (ic q.lv)) /\ ¬ aO q.id /\ h.length <= q.id /\ Fr aH (fun _ => False) q.H (fun _ => False) /\ ∃ c, eF q.lv < c /\ iG (fP t [x0] ar) c q.lv = F) (fun q => eF q.lv) (by show eF alv < k; omega) rfl ⟨j1, j2, j3, j4, j5, Fr.refl _ _, 600, by show eF alv < 600; omega, hF⟩
     intro q hq;obtain ⟨qlv, qH, qid⟩ := q;obtain ⟨w1, w2, w3, w4, w5, w6, c, w7, w8⟩ := hq;dsimp only at w1 w2 w3 w4 w5 w6 w7 w8;have hloq : lo <= qH.length := Nat.le_trans hloH w6.1;have hO := ql w3 x0 (k - 1) (by omega) ha2.1 (by rw [w1]; exact r1.1) qH.length;rw [show k - 1 + 1 = k by omega, w1] at hO
     have hfB : cb (be ar (gB qlv x0)) := bC har (fa w2 x0);obtain ⟨id2, H2, O2, m1, m2, m3, m4, m5, m6⟩ := jQ m hm1 hm2 k FN lo 0 (FO m lo) t qlv (be ar (gB qlv x0)) (IntKind.i64.wrap (an + 1)) () qH (fun _ => False) (.sl qid 1 0 m) 0 (by omega) ht1 ht2 r4 w1 w2 hfB (.inr ⟨qid, by rw [w1], w3⟩) hloq (fun _ h => h);have m1' : call Tryz.prog ba k lo (.func 77) [.vs 5 (br t), .sl qid 1 0 m, .int .i64 (be ar (gB qlv x0)), .int .i64 (IntKind.i64.wrap (an + 1)), .fn (.func 119) []] qH = some (.tup [.sl id2 1 0 m, .int .i64 (lI bT fg FN.upd t qlv (be ar (gB qlv x0)) () (IntKind.i64.wrap (an + 1))).2], H2) := m1;clear m1;generalize (lI bT fg FN.upd t qlv (be ar (gB qlv x0)) () (IntKind.i64.wrap (an + 1))).2 = nx at m1';have g2 := m4.get w3 (fun h => h);obtain ⟨t1, t2⟩ := cK hMv t qlv (be ar (gB qlv x0)) w1 w2 hfB r4;have hT := nY (Nat.le_trans hloq m4.1) g2 m2 w1 t1 hm1 (by omega) (k - 1) (by omega);rw [show k - 1 + 1 = k by omega] at hT
     obtain ⟨f1, f2, f3⟩ := nF hMv r4 har [x0] w1 w2;have hfx : bK qlv (fb bT fg t qlv (be ar (gB qlv x0))) = fP t [x0] ar qlv := rfl;have hfx' : bK qlv (fb bT fg t qlv (be ar (fg qlv [x0]))) = fP t [x0] ar qlv := rfl;rw [hfx'] at f1 f2 f3;rw [hfx] at hT;obtain ⟨c, rfl⟩ : ∃ c', c = c' + 1 := ⟨c - 1, by omega⟩
     rw [iG] at w8;generalize fP t [x0] ar qlv = fx at *;have g3 : (H2 ++ [ap.cells 3 (ic fx)])[H2.length]? = some (.cells 3 (ic fx)) := by simp
     have g4 : (H2 ++ [ap.cells 3 (ic fx)])[qid]? = some (.cells 3 (ic qlv)) := by rw [List.getElem?_append_left (aV g2)]; exact g2
     have hEq := zR g3 g4 (by omega) (k - 2) (by omega) lo;rw [show k - 2 + 2 = k by omega, f1, w1] at hEq
     have hFr2 : Fr aH (fun _ => False) (H2 ++ [ap.cells 3 (ic fx)]) (fun _ => False) := by
      have := (w6.trans m4).app [ap.cells 3 (ic fx)];exact ⟨this.1, this.2.1, fun _ h => h.elim⟩
     by_cases hs : fx = qlv
     ·rw [if_pos hs] at w8
      rw [decide_eq_true hs] at hEq;rw [<- w8] at j8 j9;have hB3 := hS.frame (h' := H2 ++ [ap.cells 3 (ic fx)]) j6 hFr2.1 (fun i hi => hFr2.2.1 i (hrg i hi) (fun h => h));obtain ⟨H4, O4, s1, s2, s3⟩ := hS.run k (fD t + (fD rest + b)) ax _ aO qid qlv ar an _ (hS.mono hB3 (by omega)) g4 w4 w1 w2 har (by omega) hbm' hvm1' (Nat.le_trans hloH hFr2.1);have n5 := s3.not (aV g4) w4;have g5 := s3.get g4 w4;have hO5 := ql g5 x0 (k - 1) (by omega) ha2.1 (by rw [w1]; exact r1.1) H4.length;rw [show k - 1 + 1 = k by omega, w1] at hO5
      obtain ⟨id6, H6, O6, p1, p2, p3, p4, p5, p6⟩ := jQ m hm1 hm2 k S lo kY hS t qlv (be ar (gB qlv x0)) (IntKind.i64.wrap (an + 1)) _ H4 O4 (.sl qid 1 0 m) (fD rest + b) (by omega) ht1 ht2 r4 w1 w2 hfB (.inr ⟨qid, by rw [w1], g5⟩) (Nat.le_trans (Nat.le_trans hloH hFr2.1) s3.1) s2;have n6 := p4.not (aV g5) n5;have g6 := p4.get g5 n5;have hFrA : Fr aH aO (H2 ++ [ap.cells 3 (ic fx)]) aO := ⟨hFr2.1, fun i hi _ => hFr2.2.1 i hi (fun h => h), fun _ h => .inl h⟩
      have hFr6 : Fr h O H6 O6 := j7.trans (hFrA.trans (s3.trans p4));generalize lI bT fg S.upd t qlv (be ar (gB qlv x0)) (S.upd ax an (.mk op nn [x0] t e) qlv ar) (IntKind.i64.wrap (an + 1)) = X1 at *;obtain ⟨xo, xn, xc, xs⟩ := x0;(repeat' (first | apply ab | refine ah U U ?_ | (refine Wd 17 [0,1,0,0,0,0,32,96,224,496,1016,0,4095,8191,16383,16383,32767,131071] U U (by decide +kernel) ?_;refine Uf U U U (Uf U U U (Uf U U U (Uf U U U (Uf U U U (Uf U U U (Uf U U U (Uf U (aq U U U U U ‹_›) U ?_))))))) <;> refine Uf U U U (Uf U (aa U U U U ‹_›) U ?_) <;> refine Uf U U U (Uf U U U (Uo U (aa U U U U ‹_›) ?_)) <;> refine Uo U U (Uf U U U (Uf U U U (Uf U U U (Uo U U (Un ?_)))))) | (refine Wo 18 U ?_;refine Tc 2 U (Tg U (aa U U U U ‹_›) ?_) <;> refine Tc 1 U (Tn ?_)) | (refine Wo 19 U ?_;refine Tc 2 U (Tt U (aa U U U U ‹_›) U ?_) <;> refine Tn ?_) | (refine Wo 21 U ?_;refine Tc 5 U (Tg U (aa U U U U ‹_›) ?_) <;> refine Tn ?_) | (refine Wd 22 [0,1,0,0,0,0,32,96,224,496,1016,0,0,8191,16383,32767,32767,131071] U U (by decide +kernel) ?_;refine Uf U U U (Uf U U U (Uf U U U (Uf U U U (Uf U U U (Uf U U U (Uf U U U (Uf U (aq U U U U U ‹_›) U ?_))))))) <;> refine Uf U U U (Uf U (aa U U U U ‹_›) U ?_) <;> refine Uf U U U (Uf U U U (Uf U U U (Uo U (aa U U U U ‹_›) ?_))) <;> refine Uo U U (Uf U U U (Uf U U U (Uo U U (Un ?_))))) | refine Wr 23 U U ?_ | apply ae | apply aC))
      exact ⟨⟨qlv, X1.1, X1.2, H6, O6, qid⟩, rfl, w1, w2, g6, n6, w5, p3, hFr6, j8, j9⟩
     ·rw [if_neg hs] at w8
      rw [decide_eq_false hs] at hEq;have hlt3 : eF fx < eF qlv := by
       rcases f3 with f3 | f3
       ·exact absurd f3 hs
       ·exact f3
      obtain ⟨xo, xn, xc, xs⟩ := x0;(repeat' (first | apply ab | refine af U U ?_ | (refine Wd 17 [0,1,0,0,0,0,32,96,224,496,1016,0,4095,8191,16383,16383,32767,131071] U U (by decide +kernel) ?_;refine Uf U U U (Uf U U U (Uf U U U (Uf U U U (Uf U U U (Uf U U U (Uf U U U (Uf U (aq U U U U U ‹_›) U ?_))))))) <;> refine Uf U U U (Uf U (aa U U U U ‹_›) U ?_) <;> refine Uf U U U (Uf U U U (Uo U (aa U U U U ‹_›) ?_)) <;> refine Uo U U (Uf U U U (Uf U U U (Uf U U U (Uo U U (Un ?_)))))) | (refine Wo 18 U ?_;refine Tc 2 U (Tg U (aa U U U U ‹_›) ?_) <;> refine Tc 1 U (Tn ?_)) | (refine Wo 19 U ?_;refine Tc 2 U (Tf U (aa U U U U ‹_›) U ?_) <;> refine Tn ?_) | refine Wr 20 U U ?_ | apply ak | apply ae))
      exact ⟨⟨fx, H2 ++ [.cells 3 (ic fx)], H2.length⟩, rfl, ⟨f1, f2, g3, fun q => by have h1 : H2.length < aH.length := hrg _ q; have := w6.1; have := m4.1; omega, by have := j7.1; have := w6.1; have := m4.1; show h.length <= H2.length; omega, hFr2, c, by show eF fx < c; omega, w8⟩, hlt3⟩
    ·have c2 : (op == 2) = false := by simp [o2]
     obtain ⟨H1, O1, s1, s2, s3⟩ := hS.run k (fD rest + b) ax aH aO aid alv ar an _ (hS.mono j6 (by omega)) j3 j4 j1 j2 har (by omega) hbm' hvm1' hloH;have n1 := s3.not (aV j3) j4;have g1 := s3.get j3 j4;have hP := FM g1 hloid j1 _ hvm1' ar (k - 1) (by omega) hbm';rw [show k - 1 + 1 = k by omega] at hP
     have hm : gK bT fg (.mk op nn a t e) alv ar = bT alv ar (.mk op nn a t e) := by rw [gK, if_neg o1, if_neg o2]
     have hsp : EN bT fg S.upd (.mk op nn a t e) alv ar ax an = (S.upd ax an (.mk op nn a t e) alv ar, IntKind.i64.wrap (an + 1)) := by rw [EN, if_neg o1, if_neg o2]
     rw [hm] at j8 j9 q1 q2;rw [hsp] at j9;generalize bT alv ar (.mk op nn a t e) = pl at *;have hBf := hS.frame (h' := H1.set aid (.cells 3 (ic pl))) s2 (by simp) (fun i hi => List.getElem?_set_ne (fun q => n1 (by rw [q]; exact hi)));have hget : (H1.set aid (ap.cells 3 (ic pl)))[aid]? = some (.cells 3 (ic pl)) := List.getElem?_set_self (aV g1);(repeat' (first | apply ab | refine ah U U ?_ | refine af U U ?_ | (refine Wo 3 U ?_;refine Tt U U ‹_› (Tn ?_)) | (refine Wo 4 U ?_;refine Tg U (aq U U U U U ‹_›) ?_ <;> refine Tg U U (Tc 2 U (Tn ?_))) | refine Wr 5 U U ?_ | refine Wr 6 U U ?_ | refine Wr 7 U U ?_ | (refine Wo 8 U ?_;refine Tc 5 U (Tg U (aa U U U U ‹_›) ?_) <;> refine Tn ?_) | (refine Wo 9 U ?_;refine Tc 3 U (Tg U (aa U U U U ‹_›) ?_) <;> refine Tn ?_) | (refine Wo 10 U ?_;refine Tf U U ‹_› (Tc 1 U (Tn ?_))) | (refine Wo 16 U ?_;refine Tf U U ‹_› (Tc 1 U (Tn ?_))) | refine Wr 23 U U ?_ | apply ak | apply ae));exact ⟨⟨pl, S.upd ax an (.mk op nn a t e) alv ar, IntKind.i64.wrap (an + 1), H1.set aid (.cells 3 (ic pl)), O1, aid⟩, rfl, q1, q2, hget, n1, j5, hBf, (j7.trans s3).set j5 _, j8, j9⟩
   ·intro a hJ
    have hlt := f8 (l := l);(repeat' (first | apply ab | refine af U U ?_ | (refine Wo 3 U ?_;refine Tf U U ‹_› (Tn ?_)) | refine Wr 24 U U ?_ | apply am | apply aC));exact ⟨.inl rfl, _, rfl, a, rfl, hJ⟩
  obtain ⟨_, h1, e, rfl, _, _, h4, h5, h6, h7, h8, h9, h10⟩ := key;rw [fb] at h9;rw [lI] at h10;rw [<- h9, <- h10];refine ⟨e.id, e.H, e.O, h1, h4, ?_, h8, h5, h6⟩;rw [fD, Nat.zero_add] at h7;exact h7
theorem AM (p : bp) (S : HE) (lo kY : Nat) (hS : xR S p.vars.length lo kY) (k : Nat) (hk : bA p.body + p.vars.length + kY + 1310 <= k /\ bA p.body <= 6200) (hb : lB p) (hv1 : 1 <= p.vars.length) (hv2 : p.vars.length <= 18) (hvm : xi p.vars.length p.body) (hB : bf (bd p))
  (x : S.σ) (h : aj) (hlo : lo <= h.length) (O : Nat -> Prop) (b : Nat) (hSB : S.B (fD p.body + b) x h O) :
  ∃ out : AV × aj, call Tryz.prog ba (k + 1) lo (.func 32) [.agg (bY p), .fn (.func S.f) S.caps] h = some out /\
  ∃ (id : Nat) (O' : Nat -> Prop), out.1 = .sl id 1 0 p.vars.length /\ out.2[id]? = some (.cells 3 (ic (fb bT fg p.body (bd p) 0))) /\ S.B b (lI bT fg S.upd p.body (bd p) 0 x 0).1 out.2 O' /\ Fr h O out.2 O' /\ ¬ O' id /\ h.length <= id := by
 have hL := mE p (k - 1) (by omega) (by omega) h h.length;rw [show k - 1 + 1 = k by omega, vD (vE hv1)] at hL
 obtain ⟨id, H', O', m1, m2, m3, m4, m5, m6⟩ := jQ p.vars.length hv1 hv2 k S lo kY hS p.body (bd p) 0 0 x h O (.vs 1 (ag (bd p))) b (by omega) hb.2.1 hb.2.2 hvm (cq p) hB cm (.inl rfl) hlo hSB;generalize hX : (lI bT fg S.upd p.body (bd p) 0 x 0).2 = n at m1;have hend : ∃ (id' : Nat) (O'' : Nat -> Prop), ((AV.sl id 1 0 p.vars.length, H') : AV × aj).1 = .sl id' 1 0 p.vars.length /\ ((AV.sl id 1 0 p.vars.length, H') : AV × aj).2[id']? = some (.cells 3 (ic (fb bT fg p.body (bd p) 0))) /\ S.B b (lI bT fg S.upd p.body (bd p) 0 x 0).1 ((AV.sl id 1 0 p.vars.length, H') : AV × aj).2 O'' /\ Fr h O ((AV.sl id 1 0 p.vars.length, H') : AV × aj).2 O'' /\ ¬ O'' id' /\ h.length <= id' := ⟨id, O', rfl, m2, m3, m4, m5, m6⟩;generalize fb bT fg p.body (bd p) 0 = M at hend;generalize (lI bT fg S.upd p.body (bd p) 0 x 0).1 = X at hend;generalize bd p = lv at hL m1;obtain ⟨w, vs, body⟩ := p;dsimp only at m1 hend;apply cY Tryz.func32 U (Nb U) U U;(repeat' (first | apply ab | refine Wr 0 U U ?_ | (refine Wd 1 [0,1,0,4,0,31,63,127,127,255,1023] U U (by decide +kernel) ?_;refine Uf U U U (Uf U U U (Uf U U U (Uf U (aa U U U U ‹_›) U ?_))) <;> refine Uf U U U (Uo U (aa U U U U ‹_›) ?_) <;> refine Uo U U (Uf U U U (Uf U U U (Uf U U U (Uo U U (Un ?_)))))) | refine Wr 2 U U ?_ | apply am));exact ⟨.inl rfl, _, rfl, hend⟩
def D4 (x : List (List AV)) (n : Int) (s : ay) (lv : List Int) (ar : Int) : List (List AV) := x ++ ek (n, s, lv, ar)
def Cg (L : Nat) : HE :=
 {σ := List (List AV), upd := D4
  B := fun b x h O => rE x /\ x.length + b <= 90000 /\ ((x = [] /\ h[L]? = some (.cells 46 [.nils]) /\ ∀ i, O i ↔ i = L) \/
   ∃ id, L < id /\ x ≠ [] /\ h[L]? = some (.cells 46 [.sl id 3 0 x.length]) /\ h[id]? = some (.cells 109 x.flatten) /\ ∀ i, O i ↔ i = L \/ i = id)
  f := 60, caps := [.hp L 1 0] }
theorem Ch {x : List (List AV)} (hx : rE x) (p : Pl) : rE (x ++ ek p) := fun r hr => by
 rcases List.mem_append.1 hr with hr | hr
 ·exact hx r hr
 ·exact D1 p r hr
theorem FP (L m lo : Nat) (hlo : lo <= L) : xR (Cg L) m lo 10 where
 frame := by
  rintro b (x : List (List AV)) h O h' ⟨h1, h2, h3⟩ hl hO;refine ⟨h1, h2, ?_⟩;rcases h3 with ⟨q1, q2, q3⟩ | ⟨id, q0, q1, q2, q3, q4⟩
  ·exact .inl ⟨q1, by rw [hO L ((q3 L).2 rfl)]; exact q2, q3⟩
  ·exact .inr ⟨id, q0, q1, by rw [hO L ((q4 L).2 (.inl rfl))]; exact q2, by rw [hO id ((q4 id).2 (.inr rfl))]; exact q3, q4⟩
 mono := by
  rintro b b' x h O ⟨h1, h2, h3⟩ hb;exact ⟨h1, by omega, h3⟩
 rng := by
  rintro b x h O i ⟨h1, h2, h3⟩ hi;rcases h3 with ⟨q1, q2, q3⟩ | ⟨id, q0, q1, q2, q3, q4⟩
  ·rw [(q3 i).1 hi]; exact aV q2
  ·rcases (q4 i).1 hi with e | e
   ·rw [e]; exact aV q2
   ·rw [e]; exact aV q3
 run := by
  rintro k b (x : List (List AV)) H O id lv ar n s ⟨h1, h2, h3⟩ hg hnO hlv hB har hk hbs hvm hloH;show ∃ (h' : aj) (O' : Nat -> Prop), call Tryz.prog ba k lo (.func 60) [.int .i64 n, .agg (ig s), .sl id 1 0 m, .int .i64 ar, .hp L 1 0] H = some (.tup [], h') /\ (Cg L).B b (x ++ ek (n, s, lv, ar)) h' O' /\ Fr H O h' O';obtain ⟨op, nn, a, t, e⟩ := s;have hrow3 := Ch h1 (n, .mk op nn a t e, lv, ar);rw [iy] at hk;rw [kP] at hbs;rw [mc] at hvm;obtain ⟨⟨ha1, ha2⟩, _⟩ := hbs;have hA := ss hg a (k - 3) (by omega) ha1 ha2 (by rw [hlv]; exact hvm.1) lo;rw [show k - 3 + 2 = k - 1 by omega, hlv] at hA
  have hW := d5 (be ar (bz lv 0 a)) nn (k - 2) lo H;rw [show k - 2 + 1 = k - 1 by omega] at hW
  obtain ⟨k, rfl⟩ : ∃ k', k = k' + 1 := ⟨k - 1, by omega⟩
  rw [Nat.add_sub_cancel] at hA hW;have stay : ek (n, .mk op nn a t e, lv, ar) = [] -> (Cg L).B b (x ++ ek (n, .mk op nn a t e, lv, ar)) H O /\ Fr H O H O := fun he => by
   rw [he, List.append_nil];exact ⟨⟨h1, by omega, h3⟩, Fr.refl H O⟩
  by_cases o3 : op = 3
  ·have c3 : (op == 3) = true := by simp [o3]
   cases hw : aW (be ar (bz lv 0 a)) nn with
   | true =>
    rw [hw] at hW;have hf : ek (n, .mk op nn a t e, lv, ar) = [] := by unfold ek ep; dsimp only; rw [if_pos o3, if_pos hw]
    obtain ⟨s1, s2⟩ := stay hf;refine ⟨H, O, ?_, s1, s2⟩;apply ai Tryz.func60 U (Nb U) U U;(repeat' (first | apply ab | refine af U U ?_ | refine Wr 0 U U ?_ | (refine Wo 1 U ?_;refine Tc 4 U (Tg U (aa U U U U ‹_›) ?_) <;> refine Tc 2 U (Tn ?_)) | (refine Wo 2 U ?_;refine Tc 2 U (Tt U U ‹_› (Tc 4 U (Tt U (aa U U U U ‹_›) U ?_))) <;> refine Tc 2 U (Tn ?_)) | apply ak));exact ⟨.inr rfl, rfl⟩
   | false =>
    rw [hw] at hW;have hf : ek (n, .mk op nn a t e, lv, ar) = [[.int .i64 n, .int .i64 (be ar (bz lv 0 a)), .int .i64 nn]] := by unfold ek ep; dsimp only; rw [if_pos o3, if_neg (by rw [hw]; simp)]
    rw [hf] at hrow3 ⊢;rcases h3 with ⟨q1, q2, q3⟩ | ⟨jd, q0, q1, q2, q3, q4⟩
    ·subst q1
     have hL := aV q2;have hap : append ba.tab lo H 46 .nils (.vs 3 [[.int .i64 n, .int .i64 (be ar (bz lv 0 a)), .int .i64 nn]]) = some (.sl H.length 3 0 1, H ++ [.cells 109 [.int .i64 n, .int .i64 (be ar (bz lv 0 a)), .int .i64 nn]]) := rfl;have g2 : (H ++ [ap.cells 109 [.int .i64 n, .int .i64 (be ar (bz lv 0 a)), .int .i64 nn]])[L]? = some (.cells 46 [.nils]) := by rw [List.getElem?_append_left hL]; exact q2
     refine ⟨(H ++ [ap.cells 109 [.int .i64 n, .int .i64 (be ar (bz lv 0 a)), .int .i64 nn]]).set L (.cells 46 [.sl H.length 3 0 1]), fun i => i = L \/ i = H.length, ?_, ⟨hrow3, by simp at h2 ⊢; omega, .inr ⟨H.length, hL, by simp, ?_, ?_, fun i => Iff.rfl⟩⟩, ?_⟩
     ·apply ai Tryz.func60 U (Nb U) U U
      (repeat' (first | apply ab | refine ah U U ?_ | refine Wr 0 U U ?_ | (refine Wo 1 U ?_;refine Tc 4 U (Tg U (aa U U U U ‹_›) ?_) <;> refine Tc 2 U (Tn ?_)) | (refine Wo 2 U ?_;refine Tc 2 U (Tt U U ‹_› (Tc 4 U (Tf U (aa U U U U ‹_›) U ?_))) <;> refine Tc 2 U (Tn ?_)) | (refine Wo 3 U ?_;refine Tg U (aA U U U ‹_› U U) ?_ <;> refine Tc 6 U (Tg U (aN U U U U U ‹_›) ?_) <;> refine Tg U (aM U U U U ‹_› ⟨by assumption, U, U, Nb U⟩) ?_ <;> refine Tn ?_)));exact ⟨.inr rfl, rfl⟩
     ·exact List.getElem?_set_self (by simp; omega)
     ·rw [List.getElem?_set_ne (by omega)]; simp
     ·refine ⟨by simp, fun i hi ho => ?_, fun i hi => ?_⟩
      ·rw [List.getElem?_set_ne (fun q => ho ((q3 i).2 q.symm)), List.getElem?_append_left hi]
      ·rcases hi with rfl | rfl
       ·exact .inl ((q3 _).2 rfl)
       ·exact .inr (Nat.le_refl _)
    ·have hL := aV q2
     have hJ := aV q3;have hap : append ba.tab lo H 46 (.sl jd 3 0 x.length) (.vs 3 [[.int .i64 n, .int .i64 (be ar (bz lv 0 a)), .int .i64 nn]]) = some (.sl jd 3 0 (x.length + 1), H.set jd (.cells 109 (x.flatten ++ [.int .i64 n, .int .i64 (be ar (bz lv 0 a)), .int .i64 nn]))) := by
      have := r8 (tab := ba.tab) (lo := lo) (h := H) (t := 46) (e := 109) (id := jd) (len := x.length) (xs := x.flatten) rfl rfl q3 (by omega) (by rw [dg _ (fun r hr => (h1 r hr).1)]) (by decide) [[.int .i64 n, .int .i64 (be ar (bz lv 0 a)), .int .i64 nn]] (by simp only [ca, List.length_cons, List.length_nil]; show (x.length + (0 + 1)) * 24 <= _; omega) (by simp only [ca, List.length_cons, List.length_nil]; omega);rw [List.flatten_cons, List.flatten_nil, List.append_nil] at this;exact this
     have g2 : (H.set jd (ap.cells 109 (x.flatten ++ [.int .i64 n, .int .i64 (be ar (bz lv 0 a)), .int .i64 nn])))[L]? = some (.cells 46 [.sl jd 3 0 x.length]) := by rw [List.getElem?_set_ne (by omega)]; exact q2
     refine ⟨(H.set jd (ap.cells 109 (x.flatten ++ [.int .i64 n, .int .i64 (be ar (bz lv 0 a)), .int .i64 nn]))).set L (.cells 46 [.sl jd 3 0 (x.length + 1)]), fun i => i = L \/ i = jd, ?_, ⟨hrow3, by simp at h2 ⊢; omega, .inr ⟨jd, q0, by simp, ?_, ?_, fun i => Iff.rfl⟩⟩, ?_⟩
     ·apply ai Tryz.func60 U (Nb U) U U
      (repeat' (first | apply ab | refine ah U U ?_ | refine Wr 0 U U ?_ | (refine Wo 1 U ?_;refine Tc 4 U (Tg U (aa U U U U ‹_›) ?_) <;> refine Tc 2 U (Tn ?_)) | (refine Wo 2 U ?_;refine Tc 2 U (Tt U U ‹_› (Tc 4 U (Tf U (aa U U U U ‹_›) U ?_))) <;> refine Tc 2 U (Tn ?_)) | (refine Wo 3 U ?_;refine Tg U (aA U U U ‹_› U U) ?_ <;> refine Tc 6 U (Tg U (aN U U U U U ‹_›) ?_) <;> refine Tg U (aM U U U U ‹_› ⟨by assumption, U, U, Nb U⟩) ?_ <;> refine Tn ?_)));exact ⟨.inr rfl, rfl⟩
     ·rw [List.getElem?_set_self (by simp; omega)]; simp
     ·rw [List.getElem?_set_ne (by omega), List.getElem?_set_self hJ]; simp
     ·refine ⟨by simp, fun i hi ho => ?_, fun i hi => .inl ((q4 i).2 hi)⟩
      rw [List.getElem?_set_ne (fun q => ho ((q4 i).2 (.inl q.symm))), List.getElem?_set_ne (fun q => ho ((q4 i).2 (.inr q.symm)))]
  ·have c3 : (op == 3) = false := by simp [o3]
   have hf : ek (n, .mk op nn a t e, lv, ar) = [] := by unfold ek; dsimp only; rw [if_neg o3]
   obtain ⟨s1, s2⟩ := stay hf;refine ⟨H, O, ?_, s1, s2⟩;apply ai Tryz.func60 U (Nb U) U U;(repeat' (first | apply ab | refine af U U ?_ | refine Wr 0 U U ?_ | (refine Wo 1 U ?_;refine Tc 4 U (Tg U (aa U U U U ‹_›) ?_) <;> refine Tc 2 U (Tn ?_)) | (refine Wo 2 U ?_;refine Tc 2 U (Tf U U ‹_› (Tc 4 U (Tk U (Tc 2 U (Tn ?_)))))) | apply ak));exact ⟨.inr rfl, rfl⟩
theorem lL {m : Int} (h1 : 0 < m) (h2 : m <= 10000) : IntKind.i64.wrap (m - 1) = m - 1 := Go.Ev.wrap_small (by omega) (by omega)
mutual
theorem Ci : ∀ (e : aF) (m : Int), m <= 10000 -> fM e m <= m \/ fM e m <= 0
 | .mk op n c l, m, hm => by
  rw [fM]
  split
  ·exact .inr (by omega)
  ·rw [lL (by omega) hm]
   rcases gb l (m - 1) (by omega) with h | h
   ·exact .inl (by omega)
   ·exact .inr h
theorem gb : ∀ (l : List aF) (m : Int), m <= 10000 -> cD l m <= m \/ cD l m <= 0
 | [], m, _ => by rw [cD]; exact .inl (Int.le_refl _)
 | e :: l, m, hm => by
  rw [cD];rcases Ci e m hm with h | h
  ·rcases gb l (fM e m) (by omega) with h' | h'
   ·exact .inl (by omega)
   ·exact .inr h'
  ·rcases gb l (fM e m) (by omega) with h' | h'
   ·exact .inr (by omega)
   ·exact .inr h'
end
mutual
theorem FQ : ∀ (e : aF) (m : Int), m <= 10000 -> 0 < fM e m -> (cM e : Int) + 2 * fM e m <= 2 * m
 | .mk op n c l, m, hm, h => by
  rw [fM] at h ⊢
  split at h
  ·omega
  ·rename_i hc
   rw [if_neg hc];rw [lL (by omega) hm] at h ⊢;have := su l (m - 1) (by omega) h;rw [cM]; omega
theorem su : ∀ (l : List aF) (m : Int), m <= 10000 -> 0 < cD l m -> (cQ l : Int) + 2 * cD l m <= 2 * m + 1
 | [], m, _, _ => by rw [cD, cQ]; omega
 | e :: l, m, hm, h => by
  rw [cD] at h ⊢;have h0 : 0 < fM e m := by
   rcases Int.lt_or_le 0 (fM e m) with h' | h'
   ·exact h'
   ·rcases gb l (fM e m) (by omega) with h'' | h'' <;> omega
  have h1 := FQ e m hm h0;have h2 := su l (fM e m) (by have := fA e; omega) h;rw [cQ]; omega
end
mutual
theorem sv : ∀ (s : ay) (m : Int), 0 < m -> m <= 10000 -> fY s m <= m \/ fY s m <= 0
 | .mk op n a t e, m, h0, hm => by
  rw [fY, lL h0 hm];have h1 := gb a (m - 1) (by omega);have h2 := gc t (cD a (m - 1)) (by omega);have h3 := gc e (cU t (cD a (m - 1))) (by omega);omega
theorem gc : ∀ (l : List ay) (m : Int), m <= 10000 -> cU l m <= m \/ cU l m <= 0
 | [], m, _ => by rw [cU]; exact .inl (Int.le_refl _)
 | s :: l, m, hm => by
  rw [cU]
  split
  ·rename_i h0
   have h1 := sv s m h0 hm;have h2 := gc l (fY s m) (by omega);omega
  ·exact .inl (Int.le_refl _)
end
mutual
theorem D5 : ∀ (s : ay) (m : Int), 0 < m -> m <= 10000 -> 0 < fY s m -> (iy s : Int) + 10 * fY s m <= 10 * m
 | .mk op n a t e, m, h0, hm, h => by
  rw [fY, lL h0 hm] at h ⊢;have l1 := gb a (m - 1) (by omega);have l2 := gc t (cD a (m - 1)) (by omega);have l3 := gc e (cU t (cD a (m - 1))) (by omega);have k3 := nZ e _ (by omega) h;have k2 := nZ t (cD a (m - 1)) (by omega) (by omega);have k1 := su a (m - 1) (by omega) (by omega);rw [iy]; omega
theorem nZ : ∀ (l : List ay) (m : Int), m <= 10000 -> 0 < cU l m -> (bA l : Int) + 10 * cU l m <= 10 * m + 2
 | [], m, _, _ => by rw [cU, bA]; omega
 | s :: l, m, hm, h => by
  rw [cU] at h ⊢
  split at h
  ·rename_i h0
   rw [if_pos h0];have l1 := sv s m h0 hm;have l2 := gc l (fY s m) (by omega);have k1 := D5 s m h0 hm (by omega);have k2 := nZ l (fY s m) (by omega) h;rw [bA]; omega
  ·rename_i h0; omega
end
theorem zS {l : List ay} (h : pL l 600 = true) : bA l <= 6100 := by
 have h1 : 0 < cU l 601 := of_decide_eq_true h;have := nZ l 601 (by omega) h1;omega
theorem sw {all : List bk} : ∀ (vs : List bk) (i sum : Int), ey all vs i sum = true -> ∀ v, v ∈ vs -> fN v.name = true /\ rn v = true
 | [], _, _, _, v, hv => by cases hv
 | x :: vs, i, sum, h, v, hv => by
  rw [ey] at h;simp only [Bool.and_eq_true] at h;obtain ⟨⟨⟨h1, h2⟩, _⟩, h4⟩ := h;rcases List.mem_cons.1 hv with rfl | hv
  ·exact ⟨h1, h2⟩
  ·exact sw vs _ _ h4 v hv
theorem FR {p : bp} (h : iF p = true) {v : bk} (hv : v ∈ p.vars) : fN v.name = true /\ rn v = true := by
 unfold iF at h;simp only [Bool.and_eq_true] at h;have h1 := h.1.1.1;unfold iz at h1;simp only [Bool.and_eq_true] at h1;exact sw p.vars 0 0 h1.2 v hv
theorem Cj {p : bp} (h : iF p = true) (hs : bt p = true) {v : bk} (hv : v ∈ p.vars) : 0 <= v.level /\ v.level <= 15 := by
 have h1 := (FR h hv).2;unfold rn at h1;simp only [Bool.and_eq_true, Bool.not_eq_true', decide_eq_false_iff_not] at h1;unfold bt at hs;simp only [Bool.and_eq_true] at hs;have h2 := List.all_eq_true.1 hs.1 v hv;simp only [Bool.not_eq_true', decide_eq_false_iff_not] at h2;omega
theorem eR {p : bp} (h : iF p = true) (hs : bt p = true) : bf (bd p) := fun x hx => by
 obtain ⟨v, hv, rfl⟩ := List.mem_map.1 hx;have := Cj h hs hv;unfold cb; omega
theorem zT {h H : aj} {a b a' b' : AV} {n : Int} (h1 : er H h.length a = some a') (h2 : er H h.length b = some b') (n1 : ∀ xs, a ≠ .agg xs) (n2 : ∀ xs, b ≠ .agg xs) : ja true h (.tup [a, b, .int .i64 n]) H = some (.tup [a', b', .int .i64 n], h) := by
 have q1 : i9 H h.length a = some a' := by
  unfold i9
  split
  ·exact absurd rfl (n1 _)
  ·exact h1
 have q2 : i9 H h.length b = some b' := by
  unfold i9
  split
  ·exact absurd rfl (n2 _)
  ·exact h2
 have q3 : i9 H h.length (.int .i64 n) = some (.int .i64 n) := rfl;unfold ja;rw [if_pos rfl];simp only [frz, mV, q1, q2, q3]
def cO (p : bp) : List Int := fb bT fg p.body (bd p) 0
def zU (p : bp) : List (List AV) := (iV bT fg p.body (bd p) 0 0).flatMap ek
theorem sx {α β : Type} (f : α -> List β) : ∀ (l : List α) (x : List β), l.foldl (fun x p => x ++ f p) x = x ++ l.flatMap f
 | [], x => by simp
 | a :: l, x => by rw [List.foldl_cons, sx f l, List.flatMap_cons, List.append_assoc]
theorem He {p : bp} (hP : iF p = true) (hN : bu p.body <= 600) : (lI bT fg D4 p.body (bd p) 0 [] 0).1 = zU p := by
 rw [oT D4 p.body (bd p) 0 _ 0 (bV hP) (by omega) (by omega)];have : zx D4 = fun x q => x ++ ek q := rfl
 dsimp only;rw [this, sx, List.nil_append]
 rfl
theorem zV (p : bp) (hP : iF p = true) (hS : bt p = true) (hN : bu p.body <= 600) (k : Nat) (hk : bA p.body + p.vars.length + 1340 <= k) (hb : lB p) (h : aj) (lo : Nat) :
  call Tryz.prog ba (k + 1) lo (.func 16) [.agg (bY p)] h = some (.tup [.vs 1 (ag (cO p)), bg 3 (zU p), .int .i64 0], h) := by
 obtain ⟨_, hv1, hv2⟩ := fC hP;have hvm := dE _ (bV hP);have hsk := zS (l := p.body) (by rw [ny _ _ (by omega) (by omega)]; exact decide_eq_true (by omega));have hB := eR hP hS;have hC := eg p (k - 1) (by omega) hb h h.length;have hf : cx p = 0 := by unfold cx; rw [hP, hS]; rfl
 rw [show k - 1 + 1 = k by omega, oQ p hN, hf] at hC
 have hsc := d6 p.body;have hSB : (Cg h.length).B (fD p.body + 0) ([] : List (List AV)) (h ++ [ap.cells 46 [.nils]]) (fun i => i = h.length) := by
  refine ⟨(fun r hr => by cases hr), (by simp; omega), .inl ⟨rfl, by simp, fun i => Iff.rfl⟩⟩
 obtain ⟨out, c1, id, O', o1, o2, o3, o4, o5, o6⟩ := AM p (Cg h.length) h.length 10 (FP h.length p.vars.length h.length (Nat.le_refl _)) (k - 1) (by omega) hb hv1 hv2 hvm hB ([] : List (List AV)) (h ++ [ap.cells 46 [.nils]]) (by simp) (fun i => i = h.length) 0 hSB;have c1' : call Tryz.prog ba k h.length (.func 32) [.agg (bY p), .fn (.func 60) [.hp h.length 1 0]] (h ++ [.cells 46 [.nils]]) = some out := by
  rw [show k - 1 + 1 = k by omega] at c1
  exact c1
 clear c1;obtain ⟨ov, H'⟩ := out;dsimp only at o1 o2 o3 o4 o6;subst o1;have o3' : (Cg h.length).B 0 (lI bT fg D4 p.body (bd p) 0 [] 0).1 H' O' := o3;clear o3;rw [He hP hN] at o3';have hlast : (cO p).length = p.vars.length := (cK (vK p.vars.length) p.body (bd p) 0 (cq p) hB cm hvm).1;have o2' : H'[id]? = some (.cells 3 (ic (cO p))) := o2;have z1 := rZ o2' (show h.length <= id by simp at o6; omega);rw [hlast] at z1;have z2 : ∃ ov, H'[h.length]? = some (.cells 46 [ov]) /\ er H' h.length ov = some (bg 3 (zU p)) /\ ∀ xs, ov ≠ .agg xs := by
  obtain ⟨r1, r2, r3⟩ := o3';generalize zU p = X at r1 r2 r3;rcases r3 with ⟨rfl, q2, _⟩ | ⟨jd, q0, q1, q2, q3, _⟩
  ·exact ⟨.nils, q2, rfl, fun _ => by simp⟩
  ·refine ⟨_, q2, ?_, fun _ => by simp⟩
   rw [xx X (fun r hr => r1 r hr) q3 (by omega)];cases X with
   | nil => exact absurd rfl q1
   | cons _ _ => rfl
 obtain ⟨fv, z2, z3, z4⟩ := z2;have hfin := zT (n := 0) z1 z3 (fun _ => by simp) z4;generalize cO p = M at hfin;generalize zU p = X at hfin;obtain ⟨w, vs, body⟩ := p;dsimp only at hfin c1';apply ai Tryz.func16 U (Nb U) U U;(repeat' (first | apply ab | refine af U U ?_ | refine Wr 0 U U ?_ | (refine Wo 1 U ?_;refine Tc 1 U (Tg U (aa U U U U ‹_›) ?_) <;> refine Tc 1 U (Tn ?_)) | (refine Wo 2 U ?_;refine Tc 1 U (Tf U U U (Tn ?_))) | refine Wr 4 U U ?_ | (refine Wo 5 U ?_;refine Tc 2 U (Tg U (aa U U U U ‹_›) ?_) <;> refine Tc 1 U (Tn ?_)) | (refine Wd 6 [0,0,1,7,15] U U (by decide +kernel) ?_;refine Uf U U U (Uf U (aA U U U ‹_› U U) U ?_) <;> refine Uf U U U (Uo U U (Uo U U (Un ?_)))) | apply ak | apply am));exact ⟨.inl rfl, hfin⟩
theorem pd : ∀ l : List Pl, ∃ fl : List (Int × Int × Int), l.flatMap ek = fl.map HC
 | [] => ⟨[], rfl⟩
 | p :: l => by
  obtain ⟨f2, h2⟩ := pd l;obtain ⟨f1, h1⟩ : ∃ f1 : List (Int × Int × Int), ek p = f1.map HC := by
   obtain ⟨n, ⟨op, nn, a, t, e⟩, lv, ar⟩ := p;unfold ek;dsimp only
   split
   ·exact BU _ _ _
   ·exact ⟨[], rfl⟩
  exact ⟨f1 ++ f2, by rw [List.flatMap_cons, h1, h2, List.map_append]⟩
def csP (p : bp) : List Cn := uI p.body (fun _ => 0) 0
def EQ (a : Int) : Prop := 0 <= a /\ a < 16
theorem EQ.B {a : Int} (h : EQ a) : cb a := by unfold EQ at h; unfold cb; omega
theorem AN {f : List Int -> List Int} {Q : List Int -> Prop} (hQ : ∀ x, Q x -> Q (f x)) (hr : ∀ x, Q x -> f x = x \/ eF (f x) < eF x) : ∀ (n : Nat) (x : List Int), Q x -> eF x < n -> f (iG f n x) = iG f n x
 | 0, x, _, h => by omega
 | n + 1, x, hx, h => by
  rw [iG]
  split
  ·assumption
  ·rename_i hne
   rcases hr x hx with e | e
   ·exact absurd e hne
   ·exact AN hQ hr n _ (hQ x hx) (by omega)
theorem uJ {vs : List bk} {n : Int} {a : List aF} {t e : List ay} (h : iP vs (.mk 3 n a t e) = true) : 0 <= n := by
 unfold iP at h;dsimp only at h;rw [if_neg (by omega), if_neg (by omega), if_neg (by omega), if_pos rfl] at h;simp only [Bool.and_eq_true, decide_eq_true_eq] at h;exact h.1.1.2
mutual
theorem FT {w : Int} {vs : List bk} : ∀ (s : ay) (ar : List Int -> Int) (n : Int), dT w vs s = true -> s8 s = true -> ∀ c, c ∈ DY s ar n -> c.op = 3 -> EQ c.nn
 | .mk op nn a t e, ar, n, hr, hl, c, hc, h3 => by
  rw [dT] at hr;simp only [Bool.and_eq_true] at hr;obtain ⟨⟨⟨hh, ht⟩, he⟩, _⟩ := hr;rw [s8] at hl;simp only [Bool.and_eq_true, Bool.not_eq_true'] at hl;obtain ⟨⟨l1, l2⟩, l3⟩ := hl;rw [DY] at hc;rcases List.mem_cons.1 hc with rfl | hc
  ·dsimp only at h3 ⊢
   subst h3;have := uJ hh;simp at l1;unfold EQ; omega
  ·rcases List.mem_append.1 hc with hc | hc
   ·exact qm t _ _ ht l2 c hc h3
   ·exact qm e _ _ he l3 c hc h3
theorem qm {w : Int} {vs : List bk} : ∀ (l : List ay) (ar : List Int -> Int) (n : Int), ce w vs l = true -> dL l = true -> ∀ c, c ∈ uI l ar n -> c.op = 3 -> EQ c.nn
 | [], ar, n, _, _, c, hc, _ => by rw [uI] at hc; cases hc
 | s :: l, ar, n, hr, hl, c, hc, h3 => by
  rw [ce, Bool.and_eq_true] at hr;rw [dL, Bool.and_eq_true] at hl;rw [uI] at hc;rcases List.mem_append.1 hc with hc | hc
  ·exact FT s ar n hr.1 hl.1 c hc h3
  ·exact qm l ar _ hr.2 hl.2 c hc h3
end
theorem D6 {p : bp} (hP : iF p = true) (hS : bt p = true) {c : Cn} (hc : c ∈ csP p) (h3 : c.op = 3) : EQ c.nn := by
 have hlow : dL p.body = true := by unfold bt at hS; simp only [Bool.and_eq_true] at hS; exact hS.2
 exact qm p.body _ _ (bV hP) hlow c hc h3
theorem Ck {p : bp} (hP : iF p = true) (hS : bt p = true) {x : List Int} (hx : bf x) : eE x p.body 0 0 = [] ↔ ∀ c, c ∈ csP p -> c.ok x :=
 Cd (ar := fun _ => 0) hx Gq fun c hc h3 => (D6 hP hS hc h3).B
theorem xS {x y L : List Int} (hx : bf x) (hy : bf y) (hL : bf L) (h1 : pZ x L) (h2 : pZ y L) : pZ (bK x y) L := by
 have hxy : x.length = y.length := h1.1.trans h2.1.symm;refine ⟨by rw [jC hxy]; exact h1.1, fun i => ?_⟩
 have g1 := h1.2 i;have g2 := h2.2 i;have b1 := aJ hx i;have b2 := aJ hy i;have b3 := aJ hL i;have e : (bK x y).getD i 0 = if i < x.length then be (x.getD i 0) (y.getD i 0) else 0 := by
  unfold bK;rw [List.getD_eq_getElem?_getD, List.getElem?_zipWith, List.getD_eq_getElem?_getD, List.getD_eq_getElem?_getD]
  by_cases hi : i < x.length
  ·rw [if_pos hi, List.getElem?_eq_getElem hi, List.getElem?_eq_getElem (by omega)]
   rfl
  ·rw [if_neg hi, List.getElem?_eq_none (by omega)]
   rfl
 rw [e]
 split
 ·exact zQ b1 b2 b3 g1 g2
 ·exact xO b3
section
variable {vs : List bk} {L : List Int}
mutual
theorem Hf (hL : bf L) : ∀ (s : ay) {lv : List Int} {ar : Int} {g : List Int -> Int} (n m : Int), mc vs.length s -> p7 g -> lv.length = vs.length -> bf lv -> cb ar -> pZ lv L -> eK ar (g L) -> (∀ c, c ∈ DY s g n -> c.ok L /\ (c.op = 3 -> cb c.nn)) ->
  pZ (gK (cX vs) dG s lv ar) L /\ ∀ q, q ∈ nG (cX vs) dG s lv ar m -> ek q = []
 | .mk op nn a t e, lv, ar, g, n, m, hv, hg, hl, hB, har, hle, hag, hc => by
  have hMv := dQ vs vs.length;have hv' := hv;rw [mc] at hv;have hfB : ∀ {x : List Int}, bf x -> cb (be ar (dG x a)) := fun hx => bC har (cn hx a cm)
  have hgB := (hg.or a).B L hL;have hmono : ∀ {x : List Int}, bf x -> pZ x L -> eK (be ar (dG x a)) (be (g L) (bz L 0 a)) := fun hx hxl => nW har (cn hx a cm) (hg.B L hL) (cn hL a cm) hag (jO hxl hx hL a cm cm (eL cm))
  have hc0 := hc ⟨n, op, nn, fun lv => be (g lv) (bz lv 0 a)⟩ (by rw [DY]; exact List.mem_cons_self ..)
  have hct : ∀ c, c ∈ uI t (fun lv => be (g lv) (bz lv 0 a)) (IntKind.i64.wrap (n + 1)) -> c.ok L /\ (c.op = 3 -> cb c.nn) := fun c h => hc c (by rw [DY]; exact List.mem_cons_of_mem _ (List.mem_append_left _ h))
  have hce : ∀ c, c ∈ uI e (fun lv => be (g lv) (bz lv 0 a)) (IntKind.i64.wrap (IntKind.i64.wrap (n + 1) + cW t 0)) -> c.ok L /\ (c.op = 3 -> cb c.nn) := fun c h => hc c (by rw [DY]; exact List.mem_cons_of_mem _ (List.mem_append_right _ h))
  have hno : op ≠ 3 -> ∀ x : List Int, ek (m, .mk op nn a t e, x, ar) = [] := fun h3 x => by unfold ek; dsimp only; rw [if_neg h3]
  rw [gK, nG]
  by_cases o1 : op = 1
  ·rw [if_pos o1, if_pos o1]
   obtain ⟨_, t2⟩ := cK hMv t lv (be ar (dG lv a)) hl hB (hfB hB) hv.2.2.2.1;obtain ⟨_, e2⟩ := cK hMv e lv (be ar (dG lv a)) hl hB (hfB hB) hv.2.2.2.2;obtain ⟨a1, a2⟩ := pe hL t (IntKind.i64.wrap (n + 1)) (IntKind.i64.wrap (m + 1)) hv.2.2.2.1 (hg.or a) hl hB (hfB hB) hle (hmono hB hle) hct;obtain ⟨b1, b2⟩ := pe hL e (IntKind.i64.wrap (IntKind.i64.wrap (n + 1) + cW t 0)) (IntKind.i64.wrap (IntKind.i64.wrap (m + 1) + cW t 0)) hv.2.2.2.2 (hg.or a) hl hB (hfB hB) hle (hmono hB hle) hce;refine ⟨xS t2 e2 hL a1 b1, fun q hq => ?_⟩
   rcases List.mem_cons.1 hq with rfl | hq
   ·exact hno (by omega) lv
   ·rcases List.mem_append.1 hq with hq | hq
    ·exact a2 q hq
    ·exact b2 q hq
  ·rw [if_neg o1, if_neg o1]
   by_cases o2 : op = 2
   ·rw [if_pos o2, if_pos o2]
    have hm : gK (cX vs) dG (.mk op nn a t e) lv ar = iG (fun x => bK x (fb (cX vs) dG t x (be ar (dG x a)))) 600 lv := by rw [gK, if_neg o1, if_pos o2]
    have key := lH (f := fun x => bK x (fb (cX vs) dG t x (be ar (dG x a)))) (Q := fun x => (x.length = vs.length /\ bf x) /\ pZ x L) (fun x hx => by
     obtain ⟨q1, q2, _⟩ := nF hMv hv.2.2.2.1 har a hx.1.1 hx.1.2;obtain ⟨_, t2⟩ := cK hMv t x (be ar (dG x a)) hx.1.1 hx.1.2 (hfB hx.1.2) hv.2.2.2.1;have h1 := (pe hL t (IntKind.i64.wrap (n + 1)) 0 hv.2.2.2.1 (hg.or a) hx.1.1 hx.1.2 (hfB hx.1.2) hx.2 (hmono hx.1.2 hx.2) hct).1;exact ⟨⟨q1, q2⟩, xS hx.1.2 t2 hL hx.2 h1⟩) 600 lv ⟨⟨hl, hB⟩, hle⟩
    rw [hm];obtain ⟨⟨k1, k2⟩, k3⟩ := key;refine ⟨k3, fun q hq => ?_⟩
    rcases List.mem_cons.1 hq with rfl | hq
    ·exact hno (by omega) _
    ·exact (pe hL t (IntKind.i64.wrap (n + 1)) (IntKind.i64.wrap (m + 1)) hv.2.2.2.1 (hg.or a) k1 k2 (hfB k2) k3 (hmono k2 k3) hct).2 q hq
   ·rw [if_neg o2, if_neg o2]
    have hfr : (op = 0 \/ op = 4) -> eK (gw lv ar op a) (L.getD nn.toNat 0) := fun ho => by
     unfold gw;rcases ho with ho | ho
     ·rw [if_neg (by omega)]
      exact a8 (hfB hB) hgB (aJ hL _) (hmono hB hle) (hc0.1.1 ho)
     ·rw [if_pos ho]
      exact a8 (bC (hfB hB) mb) (bC hgB mb) (aJ hL _) (nW (hfB hB) mb hgB mb (hmono hB hle) (eL mb)) (hc0.1.2.1 ho)
    constructor
    ·unfold cX
     dsimp only
     split
     ·rename_i ho
      refine FK hle (zQ (eh hB har op a) (gl hB vs nn) (aJ hL _) (hfr ho) ?_);unfold pO
      split
      ·exact hle.2 _
      ·exact xO (aJ hL _)
     ·exact hle
    ·intro q hq
     rw [List.mem_singleton] at hq;subst hq
     by_cases o3 : op = 3
     ·unfold ek
      dsimp only;rw [if_pos o3];refine (jP (hfB hB) (show cb nn from hc0.2 o3)).2 ?_;exact a8 (hfB hB) hgB (hc0.2 o3) (hmono hB hle) (hc0.1.2.2 o3)
     ·exact hno o3 lv
theorem pe (hL : bf L) : ∀ (l : List ay) {lv : List Int} {ar : Int} {g : List Int -> Int} (n m : Int), xi vs.length l -> p7 g -> lv.length = vs.length -> bf lv -> cb ar -> pZ lv L -> eK ar (g L) -> (∀ c, c ∈ uI l g n -> c.ok L /\ (c.op = 3 -> cb c.nn)) ->
  pZ (fb (cX vs) dG l lv ar) L /\ ∀ q, q ∈ iV (cX vs) dG l lv ar m -> ek q = []
 | [], lv, ar, g, n, m, hv, hg, hl, hB, har, hle, hag, hc => by
  rw [fb, iV];exact ⟨hle, fun q hq => by cases hq⟩
 | s :: l, lv, ar, g, n, m, hv, hg, hl, hB, har, hle, hag, hc => by
  obtain ⟨a1, a2⟩ := Hf hL s n m hv.1 hg hl hB har hle hag (fun c h => hc c (by rw [uI]; exact List.mem_append_left _ h));obtain ⟨q1, q2⟩ := fF (dQ vs vs.length) s lv ar hl hB har hv.1;obtain ⟨b1, b2⟩ := pe hL l (jj s n) (jj s m) hv.2 hg q1 q2 har a1 hag (fun c h => hc c (by rw [uI]; exact List.mem_append_right _ h));rw [fb, iV];refine ⟨b1, fun q hq => ?_⟩
  rcases List.mem_append.1 hq with hq | hq
  ·exact a2 q hq
  ·exact b2 q hq
end
end
theorem zW {p : bp} (hP : iF p = true) (hS : bt p = true) (hfl : eE (bd p) p.body 0 0 = []) : pZ (kI p) (bd p) /\ (gY p).flatMap ek = [] := by
 have hB := eR hP hS;have hok := (Ck hP hS hB).1 hfl;obtain ⟨h1, h2⟩ := pe (vs := p.vars) hB p.body (g := fun _ => 0) 0 0 (dE _ (bV hP)) Gq (cq p) hB cm (xP hB) (eL cm) (fun c hc => ⟨hok c hc, fun h3 => (D6 hP hS hc h3).B⟩);exact ⟨h1, List.flatMap_eq_nil_iff.2 h2⟩
end Go.Proofs.YtelobnllkhnpaaaGreat.L
