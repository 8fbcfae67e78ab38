/- Aw as an oracle. -/
import Derived.Test.YtelobnllkhnpaaaGreatK4
set_option linter.unusedVariables false
set_option linter.unusedSimpArgs false
set_option maxHeartbeats 40000000
set_option maxRecDepth 1000000
open Go Go.Proofs Go.Ev
namespace Go.Proofs.YtelobnllkhnpaaaGreat.E
theorem BC : gD Tryz.prog orc := by
 intro lo g vs h r h' hk base Γ I hb hH args hargs;unfold orc at hk
 split at hk
 ·injection hk with hk; injection hk with e1 e2; subst e1 e2
  cases hh : args.toList with
  | cons v l => rw [hh] at hargs; cases hargs
  | nil =>
   have ha : args = #[] := by apply Array.ext'; simpa using hh
   subst ha;refine ⟨⟨Tryz.f6, Tryz.func6, by decide, rfl⟩, callsIn_wide.2 ((Aw Γ.w).mono fun e w' he => ?_)⟩
   cases e with
   | returned v =>
    obtain ⟨rfl, hbel⟩ := he;have hx : cA lo (fun _ => False) Γ { Γ with w := w' } :=
     {cA.refl lo (fun _ => False) Γ with
      sizes := fun b arr T fr hb' => ⟨arr, fr, (hbel.block b (dq hb')).trans hb', rfl⟩
      keep := fun b hb' _ _ => hbel.block b hb'
      barrier := fun id _ _ => ⟨rfl, rfl, fun b _ hlt => hbel.block b hlt⟩
      size := hbel.size, os := hbel.os, tape := hbel.tape, output := hbel.output }
    exact ⟨{ Γ with w := w' }, rfl, hH, hx, I.same hx (fun _ _ h => h) rfl rfl rfl (fun id b e => hbel.block b (I.dom id b e).2.1), .bool _⟩
   | panicked c => exact he.elim
   | outgrown => exact he.elim
 ·cases hk
theorem sound : l5 Tryz.prog ba := ⟨zf.tab, ze, BC⟩
end Go.Proofs.YtelobnllkhnpaaaGreat.E
open Go Go.Proofs Go.Ev Go.Proofs.YtelobnllkhnpaaaGreat.E
namespace Go.Proofs.YtelobnllkhnpaaaGreat.L
def be (a b : Int) : Int := IntKind.i64.wrap ((BitVec.ofInt 64 a) ||| (BitVec.ofInt 64 b)).toNat
mutual
def gB (l : List Int) : aF -> Int
 | .mk op n _ es => bz l (if op = 1 then l.getD n.toNat 0 else 0) es
def bz (l : List Int) (a : Int) : List aF -> Int
 | [] => a
 | e :: es => bz l (be a (gB l e)) es
end
mutual
def E6 (m : Nat) : aF -> Prop
 | .mk op n _ es => (op = 1 -> 0 <= n /\ n < m) /\ s7 m es
def s7 (m : Nat) : List aF -> Prop
 | [] => True
 | e :: es => E6 m e /\ s7 m es
end
theorem rj {m : Nat} : ∀ {l : List aF} {i : Nat} {e : aF}, s7 m l -> l[i]? = some e -> E6 m e
 | [], i, e, _, h => by simp at h
 | a :: l, 0, e, hb, h => by simp at h; subst h; exact hb.1
 | a :: l, i + 1, e, hb, h => by simp at h; exact rj hb.2 h
def ag (l : List Int) : List (List AV) := l.map fun n => [.int .i64 n]
theorem rk {l : List Int} {n : Int} (h : 0 <= n /\ n < l.length) : 0 <= n /\ (ag l)[n.toNat]? = some [.int .i64 (l.getD n.toNat 0)] := by
 refine ⟨h.1, ?_⟩;have : n.toNat < l.length := by omega
 simp [ag, List.getElem?_map, List.getElem?_eq_getElem this, List.getD_eq_getElem?_getD]
theorem di {l : List aF} {i : Nat} (h : i < l.length) : decide ((i : Int) < ((bc l).length : Int)) = true := decide_eq_true (by rw [dd]; omega)
theorem dj {l : List aF} : decide ((l.length : Int) < ((bc l).length : Int)) = false := decide_eq_false (by rw [dd]; omega)
def ofS (h : aj) (lo : Nat) (l : List Int) (es : List aF) (j : Int) (a : Int) : St :=
 {env := [(0, .v (.vs 1 (ag l))), (5, .v (.int .i64 a)), (17, .v (.vs 4 (bc es))), (18, .v (.int .i64 (bc es).length)), (19, .v (.int .i64 j))], loc := [], heap := h, inRound := false, lo := lo }
theorem zg : ∀ (k : Nat) (e : aF) (l : List Int), cM e <= k -> dP e -> E6 l.length e -> ∀ (lo : Nat) (h : aj),
  call Tryz.prog ba k lo (.func 36) [.vs 1 (ag l), .agg (cT e)] h = some (.int .i64 (gB l e), h)
 | 0, e, l, hk, _, _, _, _ => by have := fA e; omega
 | k + 1, .mk op n cp es, l, hk, hb, hr, lo, h => by
  rw [cM] at hk;rw [dP] at hb;rw [E6] at hr;have hlen := bB es;have hbk := hb.1;apply ai Tryz.func36 U (Nb U) U U;have hrow : (op == 1) = true -> _ := fun hop => rk (hr.1 (by simpa using hop))
  cases hc : (op == 1)
  case' true => replace hrow := hrow hc
  all_goals
   (repeat' (first | apply ab | refine ah U U ?_ | refine af U U ?_ | refine Wr 0 U U ?_ | refine Wr 1 U U ?_ | (refine Wo 2 U ?_;refine Tc 2 U ?_ <;> (refine aK U ?_; first | refine bi U ‹_› ?_ | refine aT U ‹_› ?_) <;> refine Tn ?_) | (refine Wo 3 U ?_;refine Tc 3 U (Tg U (bq U U U U U ‹_›) ?_) <;> refine Tg U U (Tc 1 U (Tn ?_))) | refine Wr 4 U U ?_ | apply ak | apply ae));apply cg (S := ofS h h.length l es) (l := es) (fun rest a => bz l a rest = gB l (.mk op n cp es)) (by omega) (by omega) rfl (by simp only [gB]; simp at hc; simp [hc])
   ·intro i e rest a hi hd hil hJ
    have hrow := bQ _ _ _ hi;have ih := zg k e l (by have := bX es i _ hi; omega) (bL es i _ hb.2 hi) (rj hr.2 hi) h.length h;have hlt := di hil;obtain ⟨op', n', cp', es'⟩ := e;(repeat' (first | apply ab | refine ah U U ?_ | (refine Wo 5 U ?_;refine Tt U U ‹_› (Tn ?_)) | (refine Wo 6 U ?_;refine Tg U (aq U U U U U ‹_›) ?_ <;> refine Tg U U (Tc 2 U (Tn ?_))) | (refine Wo 7 U ?_;refine Tc 3 U (Tg U (aa U U U U ‹_›) ?_) <;> refine Tc 2 U (Tn ?_)) | refine Wr 8 U U ?_ | apply ak | apply ae));exact ⟨_, rfl, by rw [<- hJ]; rfl⟩
   ·intro a hJ
    have hlt := dj (l := es);(repeat' (first | apply ab | refine af U U ?_ | (refine Wo 5 U ?_;refine Tf U U ‹_› (Tn ?_)) | refine Wr 9 U U ?_ | apply am | apply aC));exact ⟨.inl rfl, by rw [<- hJ]; rfl⟩
variable (k lo : Nat) (h : aj)
def eb (c : Int) : Bool := decide (c >= 97) && decide (c <= 122)
theorem rl (c : Int) : call Tryz.prog ba (k + 1) lo (.func 152) [.int .u8 c] h = some (.bool (eb c), h) := by
 apply ai Tryz.func152 U (Nb U) U U;(repeat' (first | apply ab | refine Wr 0 U U ?_ | (refine Wo 1 U ?_;refine Tc 1 U (Ts U U (fun _ => ?_) (fun _ => ?_)) <;> refine Tc 2 U ?_ <;> (first | refine au U ?_ | (refine aK U ?_; refine aB U (fun _ => ?_) (fun _ => ?_))) <;> refine Tc 2 U (Tn ?_)) | apply am))
 all_goals exact ⟨.inl rfl, Eq.trans (b := some (AV.bool _, _)) rfl (by simp [eb, *])⟩
def vn (c : Int) : Bool := decide (c >= 48) && decide (c <= 57)
theorem BD (c : Int) : call Tryz.prog ba (k + 1) lo (.func 154) [.int .u8 c] h = some (.bool (vn c), h) := by
 apply ai Tryz.func154 U (Nb U) U U;(repeat' (first | apply ab | refine Wr 0 U U ?_ | (refine Wo 1 U ?_;refine Tc 1 U (Ts U U (fun _ => ?_) (fun _ => ?_)) <;> refine Tc 2 U ?_ <;> (first | refine au U ?_ | (refine aK U ?_; refine aB U (fun _ => ?_) (fun _ => ?_))) <;> refine Tc 2 U (Tn ?_)) | apply am))
 all_goals exact ⟨.inl rfl, Eq.trans (b := some (AV.bool _, _)) rfl (by simp [vn, *])⟩
def lD (c : Int) : Bool := eb c || vn c || c == 95
theorem zh (c : Int) : call Tryz.prog ba (k + 1) lo (.func 182) [.int .u8 c] h = some (.bool (lD c), h) := by
 apply ai Tryz.func182 U (Nb U) U U;(repeat' (first | apply ab | refine Wr 0 U U ?_ | (refine Wo 1 U ?_;refine Tc 1 U (Ts U U (fun _ => ?_) (fun _ => ?_)) <;> refine Tc 2 U ?_ <;> (first | refine au U ?_ | (refine aK U ?_; refine aB U (fun _ => ?_) (fun _ => ?_))) <;> refine Tc 3 U ?_ <;> (first | refine au U ?_ | (refine aK U ?_; refine aB U (fun _ => ?_) (fun _ => ?_))) <;> refine Tc 2 U ?_ <;> (first | refine au U ?_ | (refine aK U ?_; refine aB U (fun _ => ?_) (fun _ => ?_))) <;> refine Tc 4 U ?_ <;> (first | refine au U ?_ | (refine aK U ?_; refine aB U (fun _ => ?_) (fun _ => ?_))) <;> refine Tc 2 U (Tn ?_)) | apply am))
 all_goals exact ⟨.inl rfl, Eq.trans (b := some (AV.bool _, _)) rfl (by simp [lD, eb, vn, *])⟩
def kp (w : Int) : Bool := decide (w >= 1) && decide (w <= 8)
theorem t9 (w : Int) : call Tryz.prog ba (k + 1) lo (.func 124) [.int .i64 w] h = some (.bool (kp w), h) := by
 apply ai Tryz.func124 U (Nb U) U U;(repeat' (first | apply ab | refine Wr 0 U U ?_ | (refine Wo 1 U ?_;refine Tc 1 U (Ts U U (fun _ => ?_) (fun _ => ?_)) <;> refine Tc 2 U ?_ <;> (first | refine au U ?_ | (refine aK U ?_; refine aB U (fun _ => ?_) (fun _ => ?_))) <;> refine Tc 2 U (Tn ?_)) | apply am))
 all_goals exact ⟨.inl rfl, Eq.trans (b := some (AV.bool _, _)) rfl (by simp [kp, *])⟩
def fe (b : Bool) : Int := if b then 1 else 0
theorem lE (b : Bool) : call Tryz.prog ba (k + 1) lo (.func 168) [.bool b] h = some (.int .i64 (fe b), h) := by
 apply ai Tryz.func168 U (Nb U) U U;(repeat' (first | apply ab | refine Wr 0 U U ?_ | refine Wr 1 U U ?_ | refine Wr 2 U U ?_ | refine Wr 3 U U ?_ | apply ak | apply am | refine y8 U (fun _ => ?_) (fun _ => ?_)))
 all_goals exact ⟨.inl rfl, Eq.trans (b := some (AV.int .i64 _, _)) rfl (by simp [fe, *])⟩
def E7 (op : Int) : Bool := decide (op >= 2) && decide (op <= 11) || op == 13 || op == 14
theorem E8 (op : Int) : call Tryz.prog ba (k + 1) lo (.func 183) [.int .i64 op] h = some (.bool (E7 op), h) := by
 apply ai Tryz.func183 U (Nb U) U U;(repeat' (first | apply ab | refine Wr 0 U U ?_ | (refine Wo 1 U ?_;refine Tc 1 U (Ts U U (fun _ => ?_) (fun _ => ?_)) <;> refine Tc 2 U ?_ <;> (first | refine au U ?_ | (refine aK U ?_; refine aB U (fun _ => ?_) (fun _ => ?_))) <;> refine Tc 3 U ?_ <;> (first | refine au U ?_ | (refine aK U ?_; refine aB U (fun _ => ?_) (fun _ => ?_))) <;> refine Tc 3 U ?_ <;> (first | refine au U ?_ | (refine aK U ?_; refine aB U (fun _ => ?_) (fun _ => ?_))) <;> refine Tc 2 U (Tn ?_)) | apply am))
 all_goals exact ⟨.inl rfl, Eq.trans (b := some (AV.bool _, _)) rfl (by simp_all [E7] <;> omega)⟩
def ua (op : Int) : Int := if op = 0 then 0 else if op = 12 then 1 else if op = 15 then 3 else if E7 op then 2 else -1
theorem wJ (op : Int) : call Tryz.prog ba (k + 2) lo (.func 175) [.int .i64 op] h = some (.int .i64 (ua op), h) := by
 have h2 := E8 k h.length h op;apply ai Tryz.func175 U (Nb U) U U;(repeat' (first | apply ab | refine ah U U ?_ | refine af U U ?_ | refine Wr 0 U U ?_ | refine Wr 1 U U ?_ | (refine Wo 2 U ?_;refine Ts U U (fun _ => ?_) (fun _ => ?_) <;> refine Tc 1 U (Tn ?_)) | refine Wr 3 U U ?_ | (refine Wo 4 U ?_;refine Ts U U (fun _ => ?_) (fun _ => ?_) <;> refine Tc 1 U (Tn ?_)) | refine Wr 5 U U ?_ | (refine Wo 6 U ?_;refine Ts U U (fun _ => ?_) (fun _ => ?_) <;> refine Tc 1 U (Tn ?_)) | refine Wr 7 U U ?_ | (refine Wo 8 U ?_;refine Tc 1 U (Ts U (aa U U U U ‹_›) (fun _ => ?_) (fun _ => ?_)) <;> refine Tn ?_) | refine Wr 9 U U ?_ | refine Wr 10 U U ?_ | apply ak | apply ae | apply am))
 all_goals exact ⟨.inl rfl, Eq.trans (b := some (AV.int .i64 _, _)) rfl (by simp_all [ua])⟩
def oI (s : ByteArray) : Bool :=
 (s.toList == ByteArray.toList ⟨#[119, 105, 100, 116, 104]⟩) ||
 (s.toList == ByteArray.toList ⟨#[118, 97, 114]⟩) ||
 (s.toList == ByteArray.toList ⟨#[105, 102]⟩) ||
 (s.toList == ByteArray.toList ⟨#[101, 108, 115, 101]⟩) ||
 (s.toList == ByteArray.toList ⟨#[119, 104, 105, 108, 101]⟩) ||
 (s.toList == ByteArray.toList ⟨#[111, 117, 116]⟩) ||
 (s.toList == ByteArray.toList ⟨#[112, 105, 99, 107]⟩) ||
 (s.toList == ByteArray.toList ⟨#[110, 101, 101, 100]⟩) ||
 (s.toList == ByteArray.toList ⟨#[109, 117, 115, 116]⟩) ||
 (s.toList == ByteArray.toList ⟨#[108, 101, 118, 101, 108]⟩) ||
 (s.toList == ByteArray.toList ⟨#[115, 101, 101, 115]⟩)
theorem BE (s : ByteArray) : call Tryz.prog ba (k + 1) lo (.func 153) [.str s] h = some (.bool (oI s), h) := by
 apply ai Tryz.func153 U (Nb U) U U;(repeat' (first | apply ab | refine ah U U ?_ | refine af U U ?_ | refine Wr 0 U U ?_ | refine Wr 1 U U ?_ | (refine Wo 2 U ?_;refine Ts U U (fun _ => ?_) (fun _ => ?_) <;> refine Tc 1 U (Tn ?_)) | (refine Wo 3 U ?_;refine Ts U U (fun _ => ?_) (fun _ => ?_) <;> refine Tc 1 U (Tn ?_)) | (refine Wo 4 U ?_;refine Ts U U (fun _ => ?_) (fun _ => ?_) <;> refine Tc 1 U (Tn ?_)) | (refine Wo 5 U ?_;refine Ts U U (fun _ => ?_) (fun _ => ?_) <;> refine Tc 1 U (Tn ?_)) | (refine Wo 6 U ?_;refine Ts U U (fun _ => ?_) (fun _ => ?_) <;> refine Tc 1 U (Tn ?_)) | (refine Wo 7 U ?_;refine Ts U U (fun _ => ?_) (fun _ => ?_) <;> refine Tc 1 U (Tn ?_)) | (refine Wo 8 U ?_;refine Ts U U (fun _ => ?_) (fun _ => ?_) <;> refine Tc 1 U (Tn ?_)) | (refine Wo 9 U ?_;refine Ts U U (fun _ => ?_) (fun _ => ?_) <;> refine Tc 1 U (Tn ?_)) | (refine Wo 10 U ?_;refine Ts U U (fun _ => ?_) (fun _ => ?_) <;> refine Tc 1 U (Tn ?_)) | (refine Wo 11 U ?_;refine Ts U U (fun _ => ?_) (fun _ => ?_) <;> refine Tc 1 U (Tn ?_)) | (refine Wo 12 U ?_;refine Ts U U (fun _ => ?_) (fun _ => ?_) <;> refine Tc 1 U (Tn ?_)) | refine Wr 13 U U ?_ | refine Wr 14 U U ?_ | apply ak | apply ae | apply am))
 all_goals exact ⟨.inl rfl, Eq.trans (b := some (AV.bool _, _)) rfl (by simp only [oI, Bool.true_or, Bool.or_true, Bool.false_or, Bool.or_false, *])⟩
theorem f5 {l : List ay} {i : Nat} (h : i < l.length) : decide ((i : Int) < ((br l).length : Int)) = true := decide_eq_true (by rw [eC]; omega)
theorem f8 {l : List ay} : decide ((l.length : Int) < ((br l).length : Int)) = false := decide_eq_false (by rw [eC]; omega)
def HM (h : aj) (lo : Nat) (op m cp : Int) (l : List aF) (i : Int) (n : Int) : St :=
 {env := [(2, .p 2 0), (5, .v (.int .i64 n)), (6, .v (.int .i64 i))], loc := [(2, [.int .i64 op, .int .i64 m, .int .i64 cp, .vs 4 (bc l)])], heap := h, inRound := false, lo := lo }
theorem rm : ∀ (k : Nat) (e : aF), cM e <= k -> dP e -> ∀ (most : Int) (h : aj) (lo : Nat), call Tryz.prog ba k lo (.func 70) [.agg (cT e), .int .i64 most] h = some (.int .i64 (fM e most), h)
 | 0, e, hk, _, _, _, _ => by have := fA e; omega
 | k + 1, .mk op m cp es, hk, hb, most, h, lo => by
  rw [cM] at hk;rw [dP] at hb;rw [fM];have hlen := bB es;apply ai Tryz.func70 U (Nb U) U U;(repeat' (first | apply ab | refine ah U U ?_ | refine af U U ?_ | refine Wr 0 U U ?_ | (refine Wo 1 U ?_;refine Tc 1 U (Ts U U (fun _ => ?_) (fun _ => ?_)) <;> refine Tn ?_) | refine Wr 2 U U ?_ | refine Wr 3 U U ?_ | refine Wr 4 U U ?_ | apply ak | apply ae | apply am))
  ·exact ⟨.inl rfl, by rename_i hc; rw [if_pos (of_decide_eq_true hc)]; rfl⟩
  ·rename_i hc
   rw [if_neg (of_decide_eq_false hc)];apply cg (S := HM h h.length op m cp es) (l := es) (fun rest a => cD rest a = cD es (IntKind.i64.wrap (most - 1))) hb.1 (by omega) rfl rfl
   ·intro i e rest a hi hd hil hJ
    have hrow := bQ _ _ _ hi;have ih := rm k e (by have := bX es i _ hi; omega) (bL es i _ hb.2 hi) a h h.length;have hlt := di hil;obtain ⟨op', n', cp', es'⟩ := e;(repeat' (first | apply ab | refine ah U U ?_ | (refine Wo 5 U ?_;refine Tc 4 U (Tt U U ‹_› (Tn ?_))) | refine Wr 6 U U ?_ | (refine Wo 7 U ?_;refine Tc 3 U (Tg U (aq U U U U U ‹_›) ?_) <;> refine Tg U U (Tc 1 U (Tg U (aa U U U U ‹_›) ?_)) <;> refine Tc 1 U (Tn ?_)) | apply ak | apply ae));exact ⟨_, rfl, by rw [<- hJ]; rfl⟩
   ·intro a hJ
    have hlt := dj (l := es);(repeat' (first | apply ab | refine af U U ?_ | (refine Wo 5 U ?_;refine Tc 4 U (Tf U U ‹_› (Tn ?_))) | refine Wr 8 U U ?_ | apply am | apply aC));exact ⟨.inl rfl, by rw [<- hJ]; rfl⟩
def lsS (h : aj) (lo : Nat) (l : List ay) (i : Int) (m : Int) : St :=
 {env := [(0, .v (.vs 5 (br l))), (1, .v (.int .i64 m)), (5, .v (.int .i64 i))], loc := [], heap := h, inRound := false, lo := lo }
def lsI (h : aj) (lo : Nat) (l : List ay) (i j : Int) (m : Int) : St :=
 {env := [(0, .v (.vs 5 (br l))), (1, .v (.int .i64 m)), (5, .v (.int .i64 i)), (6, .v (.int .i64 j))], loc := [], heap := h, inRound := false, lo := lo }
theorem oJ : ∀ (k : Nat) (l : List ay), bA l <= k -> l.length < 9223372036854775808 -> eQ l -> ∀ (m : Int) (h : aj) (lo : Nat), call Tryz.prog ba k lo (.func 20) [.vs 5 (br l), .int .i64 m] h = some (.int .i64 (cU l m), h)
 | 0, l, hk, _, _, _, _, _ => by have := b9 l; omega
 | k + 1, l, hk, hlen, hb, m, h, lo => by
  have hll := b9 l;apply ai Tryz.func20 U (Nb U) U U;(repeat' (first | apply ab | refine Wr 0 U U ?_ | refine Wr 1 U U ?_ | apply ae));apply cg (S := lsS h h.length l) (l := l) (fun rest a => cU rest a = cU l m) hlen (by omega) rfl rfl
  ·intro i st rest m hi hd hil hJ
   have hlt := f5 hil;have hrow := de _ _ _ hi;have hmem := dY l i _ hi;have hbm := dt l i _ hb hi;obtain ⟨op, nn, a, t, e⟩ := st;rw [iy] at hmem;rw [kP] at hbm;obtain ⟨⟨ha1, ha2⟩, ⟨ht1, ht2⟩, he1, he2⟩ := hbm;have hla := bB a;rw [cU] at hJ;have iht := oJ k t (by omega) ht1 ht2 (cD a (IntKind.i64.wrap (m - 1))) h h.length;have ihe := oJ k e (by omega) he1 he2 (cU t (cD a (IntKind.i64.wrap (m - 1)))) h h.length;(repeat' (first | apply ab | refine ah U U ?_ | refine af U U ?_ | (refine Wo 2 U ?_;refine Tc 3 U (Tt U U ‹_› (Tc 2 U (Ts U U (fun _ => ?_) (fun _ => ?_)))) <;> refine Tc 1 U (Tn ?_)) | refine Wr 4 U U ?_ | refine Wr 5 U U ?_ | apply ak | apply ae | apply aC))
   ·rename_i hm
    rw [if_pos (of_decide_eq_true hm)] at hJ;apply cg (S := lsI h h.length l i) (l := a) (fun rest b => cD rest b = cD a (IntKind.i64.wrap (m - 1))) ha1 (by omega) rfl rfl
    ·intro j e' rest' b hj hd' hjl hJ'
     have hrj := bQ _ _ _ hj;have ihj := rm k e' (by have := bX a j _ hj; omega) (bL a j _ ha2 hj) b h h.length;have hjt := di hjl;obtain ⟨op', m', cp', l'⟩ := e';(repeat' (first | apply ab | refine ah U U ?_ | (refine Wo 6 U ?_;refine Tc 3 U (Tg U (aq U U U U U ‹_›) ?_) <;> refine Tc 1 U (Tg U U (Tc 1 U (Tt U U ‹_› (Tn ?_))))) | refine Wr 7 U U ?_ | (refine Wo 8 U ?_;refine Tc 2 U (Tg U (aq U U U U U ‹_›) ?_) <;> refine Tc 1 U (Tg U U (Tc 1 U (Tg U (aq U U U U U ‹_›) ?_))) <;> refine Tg U U (Tc 1 U (Tg U (aa U U U U ‹_›) ?_)) <;> refine Tc 1 U (Tn ?_)) | apply ak | apply ae));exact ⟨_, rfl, by rw [<- hJ']; rfl⟩
    ·intro b hJ'
     have hjt := dj (l := a);have hJ'' : b = cD a (IntKind.i64.wrap (m - 1)) := by rw [<- hJ']; rfl
     subst hJ'';(repeat' (first | apply ab | refine af U U ?_ | (refine Wo 6 U ?_;refine Tc 3 U (Tg U (aq U U U U U ‹_›) ?_) <;> refine Tc 1 U (Tg U U (Tc 1 U (Tf U U ‹_› (Tn ?_))))) | (refine Wo 9 U ?_;refine Tc 2 U (Tg U (aq U U U U U ‹_›) ?_) <;> refine Tc 1 U (Tg U U (Tc 1 U (Tg U (aa U U U U ‹_›) ?_))) <;> refine Tc 1 U (Tn ?_)) | (refine Wo 10 U ?_;refine Tc 2 U (Tg U (aq U U U U U ‹_›) ?_) <;> refine Tc 1 U (Tg U U (Tc 1 U (Tg U (aa U U U U ‹_›) ?_))) <;> refine Tc 1 U (Tn ?_)) | refine Wr 3 U U ?_ | apply aC));exact ⟨_, rfl, by rw [<- hJ]; simp only [fY]⟩
   ·rename_i hm
    rw [if_neg (of_decide_eq_false hm)] at hJ;(repeat' (first | refine Wr 11 U U ?_ | apply am));exact ⟨.inl rfl, by rw [<- hJ]; rfl⟩
  ·intro m hJ
   have hlt := f8 (l := l);(repeat' (first | apply ab | refine af U U ?_ | (refine Wo 2 U ?_;refine Tc 3 U (Tf U U ‹_› (Tc 2 U (Tk U (Tc 1 U (Tn ?_)))))) | refine Wr 11 U U ?_ | apply am | apply aC));exact ⟨.inl rfl, by rw [<- hJ]; rfl⟩
variable (k : Nat) (h : aj) (lo : Nat)
def l7 (e : aF) (m : Int) : Bool := decide (fM e (IntKind.i64.wrap (m + 1)) > 0)
theorem oK (e : aF) (hk : cM e <= k) (hb : dP e) (m : Int) :
  call Tryz.prog ba (k + 1) lo (.func 90) [.agg (cT e), .int .i64 m] h = some (.bool (l7 e m), h) := by
 have ih := rm k e hk hb (IntKind.i64.wrap (m + 1)) h h.length;obtain ⟨op, n, c, l⟩ := e;apply ai Tryz.func90 U (Nb U) U U;(repeat' (first | apply ab | refine Wr 0 U U ?_ | (refine Wo 1 U ?_;refine Tc 3 U (Tg U (aa U U U U ‹_›) ?_) <;> refine Ts U U (fun _ => ?_) (fun _ => ?_) <;> refine Tc 1 U (Tn ?_)) | apply am))
 all_goals exact ⟨.inl rfl, Eq.trans (b := some (AV.bool _, _)) rfl (by simp [l7, *])⟩
def pL (l : List ay) (m : Int) : Bool := decide (cU l (IntKind.i64.wrap (m + 1)) > 0)
theorem ub (l : List ay) (hk : bA l <= k) (hl : l.length < 9223372036854775808) (hb : eQ l) (m : Int) :
  call Tryz.prog ba (k + 1) lo (.func 5) [.vs 5 (br l), .int .i64 m] h = some (.bool (pL l m), h) := by
 have ih := oJ k l hk hl hb (IntKind.i64.wrap (m + 1)) h h.length;apply ai Tryz.func5 U (Nb U) U U;(repeat' (first | apply ab | refine Wr 0 U U ?_ | (refine Wo 1 U ?_;refine Tc 3 U (Tg U (aa U U U U ‹_›) ?_) <;> refine Ts U U (fun _ => ?_) (fun _ => ?_) <;> refine Tc 1 U (Tn ?_)) | apply am))
 all_goals exact ⟨.inl rfl, Eq.trans (b := some (AV.bool _, _)) rfl (by simp [pL, *])⟩
def ii (vs : List bk) : List (List AV) := vs.map E5
theorem fB (vs : List bk) : (ii vs).length = vs.length := by simp [ii]
theorem gk {vs : List bk} {i : Nat} {v : bk} (h : vs[i]? = some v) : (ii vs)[i]? = some (E5 v) := by simp [ii, h]
theorem my {vs : List bk} {n : Int} (h0 : 0 <= n) (h : n < vs.length) : ∃ v, vs[n.toNat]? = some v /\ (0 <= n /\ (ii vs)[n.toNat]? = some (E5 v)) := by
 have : n.toNat < vs.length := by omega
 exact ⟨vs[n.toNat], List.getElem?_eq_getElem this, h0, gk (List.getElem?_eq_getElem this)⟩
def aI (vs : List bk) (n : Int) : Int := match vs[n.toNat]? with | some v => v.cells | none => 0
theorem E9 (w : Int) (h1 : 1 <= w) (h2 : w <= 8) (k lo : Nat) (h : aj) : call Tryz.prog ba (k + 12) lo (.func 58) [.int .i64 w] h = some (.int .i64 (2 ^ w.toNat), h) := by
 have : w = 1 \/ w = 2 \/ w = 3 \/ w = 4 \/ w = 5 \/ w = 6 \/ w = 7 \/ w = 8 := by omega
 rcases this with rfl | rfl | rfl | rfl | rfl | rfl | rfl | rfl <;> rfl
def uc (w a : Int) : Bool := kp w && decide (0 <= a) && decide (a < 2 ^ w.toNat)
theorem wK (w a : Int) (k lo : Nat) (h : aj) : call Tryz.prog ba (k + 13) lo (.func 176) [.int .i64 w, .int .i64 a] h = some (.bool (uc w a), h) := by
 have hw := t9 (k + 11) h.length h w;cases hb : kp w
 ·rw [hb] at hw
  apply ai Tryz.func176 U (Nb U) U U;(repeat' (first | apply ab | refine Wr 0 U U ?_ | (refine Wo 1 U ?_;refine Tc 1 U (Tf U (aa U U U U ‹_›) U ?_) <;> refine Tc 2 U (Tk U (Tc 4 U (Tk U (Tk U (Tc 2 U (Tn ?_))))))) | apply am))
  all_goals exact ⟨.inl rfl, Eq.trans (b := some (AV.bool _, _)) rfl (by simp [uc, *])⟩
 ·rw [hb] at hw
  have hp := E9 w (by simp [kp] at hb; omega) (by simp [kp] at hb; omega) k h.length h;apply ai Tryz.func176 U (Nb U) U U;(repeat' (first | apply ab | refine Wr 0 U U ?_ | (refine Wo 1 U ?_;refine Tc 1 U (Tt U (aa U U U U ‹_›) U ?_) <;> refine Tc 2 U (Ts U U (fun _ => ?_) (fun _ => ?_)) <;> refine Tc 4 U ?_ <;> (first | refine au U ?_ | (refine aK U ?_; refine ev (aa U U U U ‹_›) ?_)) <;> (first | refine au U ?_ | (refine aK U ?_; refine aB U (fun _ => ?_) (fun _ => ?_))) <;> refine Tc 2 U (Tn ?_)) | apply am))
  all_goals exact ⟨.inl rfl, Eq.trans (b := some (AV.bool _, _)) rfl (by simp_all [uc] <;> omega)⟩
def kG (w : Int) (vs : List bk) (c : Int) : aF -> Bool
 | .mk op n cp es =>
  if op = 1 then decide (0 <= n) && decide (n < vs.length) && decide (0 <= cp) && decide (cp < c) && ((es.length : Int) == fe (decide (1 < aI vs n)))
  else cp == 0 && (es.length : Int) == ua op && (if op = 0 then uc w n else n == 0)
theorem Db (w : Int) (vs : List bk) (c : Int) (e : aF) (k lo : Nat) (h : aj) : call Tryz.prog ba (k + 14) lo (.func 160) [.int .i64 w, .vs 3 (ii vs), .int .i64 c, .agg (cT e)] h = some (.bool (kG w vs c e), h) := by
 obtain ⟨op, n, cp, es⟩ := e;have hel := dd es;have hvl := fB vs
 by_cases hin : 0 <= n /\ n < vs.length
 ·obtain ⟨v, hv, hrow⟩ := my hin.1 hin.2
  obtain ⟨name, level, cells⟩ := v;have hone1 := lE (k + 12) h.length h true;have hone0 := lE (k + 12) h.length h false;have hargs := wJ (k + 11) h.length h op;have hword := wK w n k h.length h;apply ai Tryz.func160 U (Nb U) U U;(repeat' (first | apply ab | refine ah U U ?_ | refine af U U ?_ | refine Wr 0 U U ?_ | (refine Wo 1 U ?_;refine Tc 2 U (Ts U U (fun _ => ?_) (fun _ => ?_)) <;> refine Tn ?_) | (refine Wo 2 U ?_;refine Tc 2 U (Ts U U (fun _ => ?_) (fun _ => ?_)) <;> refine Tc 5 U ?_ <;> (first | refine au U ?_ | (refine aK U ?_; refine aB U (fun _ => ?_) (fun _ => ?_))) <;> refine Tc 4 U ?_ <;> (first | refine au U ?_ | (refine aK U ?_; refine aB U (fun _ => ?_) (fun _ => ?_))) <;> refine Tc 5 U ?_ <;> (first | refine au U ?_ | (refine aK U ?_; refine aB U (fun _ => ?_) (fun _ => ?_))) <;> refine Tc 1 U (Tn ?_)) | refine Wr 3 U U ?_ | (refine Wd 4 [0,1,3,0,0,16,56,120,248,504,1016,2047,4095] U U (by decide +kernel) ?_;refine Uf U U U (Uf U U U (Uf U U U (Uf U U U (Uf U U U (Uf U U U (Uf U (bq U U U U U ‹_›) U ?_)))))) <;> refine Uf U U U (Uf U U U ?_) <;> (refine aP U ?_; refine qd (by decide +kernel) U U U U U (fun _ => ?_) (fun _ => ?_)) <;> refine Uf U (aa U U U U ‹_›) U ?_ <;> (refine aP U ?_; refine dA (by decide +kernel) U (fun _ => ?_) (fun _ => ?_)) <;> refine Uo U U (Un ?_)) | (refine Wd 5 [0,1,3,7,15,31,63,15,143,399,1023,2047] U U (by decide +kernel) ?_;refine Uo U U (Uo U U ?_) <;> (refine aP U ?_; refine dA (by decide +kernel) U (fun _ => ?_) (fun _ => ?_)) <;> refine Uo U U ?_ <;> (first | refine aL U ?_ | (refine aP U ?_; refine aU (by decide +kernel) U U U U U ?_)) <;> (first | refine aL U ?_ | (refine aP U ?_; refine aU (by decide +kernel) U U U U U ?_)) <;> (first | refine aL U ?_ | (refine aP U ?_; refine aU (by decide +kernel) U U U U U ?_)) <;> (first | refine aL U ?_ | (refine aP U ?_; refine aU (by decide +kernel) U U U U U ?_)) <;> (first | refine aL U ?_ | (refine aP U ?_; refine aU (by decide +kernel) U U U U U ?_)) <;> (first | refine aL U ?_ | (refine aP U ?_; refine aU (by decide +kernel) U (aa U U U U ‹_›) U U U ?_)) <;> (first | refine aL U ?_ | (refine aP U ?_; refine dA (by decide +kernel) U (fun _ => ?_) (fun _ => ?_))) <;> refine Uo U U (Un ?_)) | refine Wr 6 U U ?_ | (refine Wo 7 U ?_;refine Tc 2 U (Ts U U (fun _ => ?_) (fun _ => ?_)) <;> refine Tn ?_) | (refine Wo 8 U ?_;refine Tc 3 U (Ts U (aa U U U U ‹_›) (fun _ => ?_) (fun _ => ?_)) <;> refine Tc 1 U (Tn ?_)) | (refine Wo 9 U ?_;refine Tc 2 U (Ts U U (fun _ => ?_) (fun _ => ?_)) <;> refine Tc 1 U (Tn ?_)) | apply ak | apply am))
  all_goals exact ⟨.inl rfl, Eq.trans (b := some (AV.bool _, _)) rfl (by first | (simp_all [kG, aI, fe]; done) | grind [kG, aI, fe])⟩
 ·have hargs := wJ (k + 11) h.length h op
  have hword := wK w n k h.length h;apply ai Tryz.func160 U (Nb U) U U;(repeat' (first | apply ab | refine ah U U ?_ | refine af U U ?_ | refine Wr 0 U U ?_ | (refine Wo 1 U ?_;refine Tc 2 U (Ts U U (fun _ => ?_) (fun _ => ?_)) <;> refine Tn ?_) | (refine Wo 2 U ?_;refine Tc 2 U (Ts U U (fun _ => ?_) (fun _ => ?_)) <;> refine Tc 5 U ?_ <;> (first | refine au U ?_ | (refine aK U ?_; refine aB U (fun _ => ?_) (fun _ => ?_))) <;> refine Tc 4 U ?_ <;> (first | refine au U ?_ | (refine aK U ?_; refine aB U (fun _ => ?_) (fun _ => ?_))) <;> refine Tc 5 U ?_ <;> (first | refine au U ?_ | (refine aK U ?_; refine aB U (fun _ => ?_) (fun _ => ?_))) <;> refine Tc 1 U (Tn ?_)) | refine Wr 3 U U ?_ | (refine Wd 5 [0,1,3,7,15,31,63,15,143,399,1023,2047] U U (by decide +kernel) ?_;refine Uo U U (Uo U U ?_) <;> (refine aP U ?_; refine dA (by decide +kernel) U (fun _ => ?_) (fun _ => ?_)) <;> refine Uo U U ?_ <;> (first | refine aL U ?_ | (refine aP U ?_; refine aU (by decide +kernel) U U U U U ?_)) <;> (first | refine aL U ?_ | (refine aP U ?_; refine aU (by decide +kernel) U U U U U ?_)) <;> (first | refine aL U ?_ | (refine aP U ?_; refine aU (by decide +kernel) U U U U U ?_)) <;> (first | refine aL U ?_ | (refine aP U ?_; refine aU (by decide +kernel) U U U U U ?_)) <;> (first | refine aL U ?_ | (refine aP U ?_; refine aU (by decide +kernel) U U U U U ?_)) <;> (first | refine aL U ?_ | (refine aP U ?_; refine aU (by decide +kernel) U (aa U U U U ‹_›) U U U ?_)) <;> (first | refine aL U ?_ | (refine aP U ?_; refine dA (by decide +kernel) U (fun _ => ?_) (fun _ => ?_))) <;> refine Uo U U (Un ?_)) | refine Wr 6 U U ?_ | (refine Wo 7 U ?_;refine Tc 2 U (Ts U U (fun _ => ?_) (fun _ => ?_)) <;> refine Tn ?_) | (refine Wo 8 U ?_;refine Tc 3 U (Ts U (aa U U U U ‹_›) (fun _ => ?_) (fun _ => ?_)) <;> refine Tc 1 U (Tn ?_)) | (refine Wo 9 U ?_;refine Tc 2 U (Ts U U (fun _ => ?_) (fun _ => ?_)) <;> refine Tc 1 U (Tn ?_)) | apply ak | apply am))
  all_goals first
   | exact ⟨.inl rfl, Eq.trans (b := some (AV.bool _, _)) rfl (by first | (simp_all [kG, aI, fe]; done) | grind [kG, aI, fe])⟩
   | (exfalso; grind)
theorem ud (bs : ByteArray) : bs.size = bs.data.toList.length := by rw [Array.length_toList]; rfl
theorem Ax (bs : ByteArray) : ∀ (n i : Nat) (r : List UInt8), bs.size - i = n -> ByteArray.toList.loop bs i r = r.reverse ++ bs.data.toList.drop i
 | 0, i, r, h => by
  rw [ByteArray.toList.loop];have : ¬ i < bs.size := by omega
  rw [if_neg this, List.drop_eq_nil_of_le (by rw [<- ud]; omega), List.append_nil]
 | n + 1, i, r, h => by
  rw [ByteArray.toList.loop];have hi : i < bs.size := by omega
  rw [if_pos hi, Ax bs n (i + 1) _ (by omega)];have hd : bs.data.toList.drop i = bs.get! i :: bs.data.toList.drop (i + 1) := by
   rw [List.drop_eq_getElem_cons (by rw [<- ud]; exact hi)];congr 1;have hi' : i < bs.data.size := hi;cases bs; simp [ByteArray.get!];rw [getElem!_pos]
  rw [hd]; simp
theorem ju (bs : ByteArray) : bs.toList = bs.data.toList := by
 unfold ByteArray.toList;rw [Ax bs _ 0 [] rfl]; simp
theorem zi {a b : ByteArray} (h : a.toList = b.toList) : a = b := by
 rw [ju, ju] at h;cases a; cases b; congr 1; exact Array.ext' h
theorem nq (b : ByteArray) (i : Nat) : b[i]? = b.data.toList[i]? := by
 rw [Array.getElem?_toList]; simp [getElem?_def]; rfl
def BF (c : UInt8) : Bool := lD c.toNat
def fN (s : ByteArray) : Bool := decide (1 <= (s.size : Int)) && decide ((s.size : Int) <= 12) && (match s.data.toList with | [] => false | c :: _ => eb c.toNat) && !oI s && s.data.toList.all BF
def nmS (h : aj) (lo : Nat) (s : ByteArray) (i : Int) (_ : Unit) : St :=
 {env := [(0, .v (.str s)), (3, .v (.int .i64 i))], loc := [], heap := h, inRound := false, lo := lo }
theorem Ay {s : ByteArray} {i : Nat} (h : i < s.data.toList.length) : decide ((i : Int) < (s.size : Int)) = true := decide_eq_true (by rw [ud]; omega)
theorem Az {s : ByteArray} : decide ((s.data.toList.length : Int) < (s.size : Int)) = false := decide_eq_false (by rw [ud]; omega)
theorem Dc (s : ByteArray) (k : Nat) (hk : 14 <= k) (h : aj) (lo : Nat) : call Tryz.prog ba (k + 1) lo (.func 125) [.str s] h = some (.bool (fN s), h) := by
 have hT := BE (k - 1) h.length h s;rw [show k - 1 + 1 = k by omega] at hT
 have hs := ud s
 by_cases h0 : decide ((s.size : Int) < 1) = true
 ·have hn : fN s = false := by unfold fN; rw [decide_eq_false (show ¬ (1 : Int) <= (s.size : Int) by have := of_decide_eq_true h0; omega)]; simp only [Bool.false_and]
  rw [hn];apply ai Tryz.func125 U (Nb U) U U;(repeat' (first | apply ab | refine ah U U ?_ | refine Wr 0 U U ?_ | (refine Wo 1 U ?_;refine Tc 2 U (Tt U U ‹_› (Tc 3 U (Tk U (Tc 3 U (Tk U (Tk U (Tc 4 U (Tk U (Tc 1 U (Tn ?_))))))))))) | refine Wr 2 U U ?_ | apply am))
  exact ⟨.inl rfl, rfl⟩
 have h0' : decide ((s.size : Int) < 1) = false := by simpa using h0
 obtain ⟨c, r, hcr⟩ : ∃ c r, s.data.toList = c :: r := by
  cases hc : s.data.toList with
  | nil => rw [hc] at hs; have := of_decide_eq_false h0'; simp only [List.length_nil] at hs; omega
  | cons c r => exact ⟨c, r, rfl⟩
 have hb0 : (0 : Int) <= 0 /\ s[Int.toNat 0]? = some c := ⟨Int.le_refl _, by rw [nq, hcr]; rfl⟩
 have hL := rl (k - 1) h.length h c.toNat;rw [show k - 1 + 1 = k by omega] at hL
 by_cases h12 : decide ((s.size : Int) > 12) = true
 ·have hn : fN s = false := by unfold fN; rw [decide_eq_false (show ¬ (s.size : Int) <= 12 by have := of_decide_eq_true h12; omega)]; simp only [Bool.false_and, Bool.and_false]
  rw [hn];apply ai Tryz.func125 U (Nb U) U U;(repeat' (first | apply ab | refine ah U U ?_ | refine Wr 0 U U ?_ | (refine Wo 1 U ?_;refine Tc 2 U (Tf U U ‹_› (Tc 3 U (Tt U U ‹_› (Tc 3 U (Tk U (Tk U (Tc 4 U (Tk U (Tc 1 U (Tn ?_))))))))))) | refine Wr 2 U U ?_ | apply am))
  exact ⟨.inl rfl, rfl⟩
 have h12' : decide ((s.size : Int) > 12) = false := by simpa using h12
 have hle : s.size <= 12 := by have := of_decide_eq_false h12'; omega
 have hn : fN s = (eb c.toNat && !oI s && s.data.toList.all BF) := by
  simp only [fN];rw [decide_eq_true (show (1 : Int) <= (s.size : Int) by have := of_decide_eq_false h0'; omega), decide_eq_true (show (s.size : Int) <= 12 by omega), hcr];simp
 rw [hn];apply ai Tryz.func125 U (Nb U) U U;(repeat' (first | apply ab | refine ah U U ?_ | refine af U U ?_ | refine Wr 0 U U ?_ | (refine Wo 1 U ?_;refine Tc 2 U (Tf U U ‹_› (Tc 3 U (Tf U U ‹_› (Tc 3 U (Tg U (mw U U U U ‹_›) ?_))))) <;> refine Ts U (aa U U U U ‹_›) (fun _ => ?_) (fun _ => ?_) <;> refine Tc 4 U ?_ <;> (first | refine au U ?_ | (refine aK U ?_; refine aB (aa U U U U ‹_›) (fun _ => ?_) (fun _ => ?_))) <;> refine Tc 1 U (Tn ?_)) | refine Wr 2 U U ?_ | refine Wr 3 U U ?_ | apply ak | apply ae | apply am))
 ·rename_i h1 h2; exact ⟨.inl rfl, by rw [h2]; simp only [Bool.not_true, Bool.and_false, Bool.false_and]; rfl⟩
 ·rename_i h1 h2
  apply cg (S := nmS h h.length s) (l := s.data.toList) (a0 := ()) (fun rest _ => rest.all BF = s.data.toList.all BF) (by omega) (by omega) rfl rfl
  ·intro i x rest _ hi hd hil hJ
   have hlt := Ay hil;have hb : 0 <= (i : Int) /\ s[Int.toNat (i : Int)]? = some x := ⟨Int.natCast_nonneg i, by rw [nq]; exact hi⟩
   have hL := rl (k - 1) h.length h x.toNat;have hD := BD (k - 1) h.length h x.toNat;rw [show k - 1 + 1 = k by omega] at hL hD
   (repeat' (first | apply ab | refine ah U U ?_ | refine af U U ?_ | (refine Wo 4 U ?_;refine Tc 3 U (Tt U U ‹_› (Tn ?_))) | refine Wr 5 U U ?_ | (refine Wo 6 U ?_;refine Tc 2 U (Tg U (mw U U U U ‹_›) ?_) <;> refine Ts U (aa U U U U ‹_›) (fun _ => ?_) (fun _ => ?_) <;> refine Tc 4 U ?_ <;> (first | refine au U ?_ | (refine aK U ?_; refine ev (mw U U U U ‹_›) ?_)) <;> (first | refine au U ?_ | (refine aK U ?_; refine aB (aa U U U U ‹_›) (fun _ => ?_) (fun _ => ?_))) <;> refine Tc 5 U ?_ <;> (first | refine au U ?_ | (refine aK U ?_; refine ev (mw U U U U ‹_›) ?_)) <;> (first | refine au U ?_ | (refine aK U ?_; refine aB U (fun _ => ?_) (fun _ => ?_))) <;> refine Tc 1 U (Tn ?_)) | refine Wr 7 U U ?_ | apply ak | apply ae | apply am))
   all_goals first
    | exact ⟨(), rfl, by
               rw [<- hJ, List.all_cons]; have hx : BF x = true := by grind [BF, lD]
               rw [hx, Bool.true_and]⟩
    | exact ⟨.inl rfl, Eq.trans (b := some (AV.bool _, _)) rfl (by
      rw [h1, h2, <- hJ, List.all_cons]; have hx : BF x = false := by grind [BF, lD]
      rw [hx]; rfl)⟩
  ·intro _ hJ
   have hlt := Az (s := s);(repeat' (first | apply ab | refine af U U ?_ | (refine Wo 4 U ?_;refine Tc 3 U (Tf U U ‹_› (Tn ?_))) | refine Wr 8 U U ?_ | apply am | apply aC));exact ⟨.inl rfl, by rw [h1, h2, <- hJ]; rfl⟩
 ·rename_i h1; exact ⟨.inl rfl, by rw [h1]; simp only [Bool.false_and]; rfl⟩
theorem wL (k lo : Nat) (hk : 1 <= k) (h : aj) (c : Int) : call Tryz.prog ba k lo (.func 182) [.int .u8 c] h = some (.bool (lD c), h) := by
 have := zh (k - 1) lo h c;rwa [show k - 1 + 1 = k by omega] at this
theorem zj (s : ByteArray) (k : Nat) (hk : 14 <= k) (h : aj) (lo : Nat) : call Tryz.prog ba (k + 1) lo (.func 171) [.str s] h = some (.bool (fN s), h) := by
 have hs := ud s;have hsl := ju s
 by_cases h0 : (s.toList == ByteArray.toList ⟨#[]⟩) = true
 ·have hn : fN s = false := by
   have : s.data.toList = [] := by rw [<- hsl]; simpa [ju] using h0
   simp [fN, this]
  rw [hn];apply ai Tryz.func171 U (Nb U) U U;(repeat' (first | apply ab | refine ah U U ?_ | refine Wr 0 U U ?_ | (refine Wo 1 U ?_;refine Tc 1 U (Tt U U ‹_› (Tc 3 U (Tk U (Tc 3 U (Tk U (Tk U (Tc 3 U (Tk U (Tk U (Tc 1 U (Tn ?_)))))))))))) | refine Wr 2 U U ?_ | apply am))
  exact ⟨.inl rfl, rfl⟩
 have h0' : (s.toList == ByteArray.toList ⟨#[]⟩) = false := by simpa using h0
 obtain ⟨c, r, hcr⟩ : ∃ c r, s.data.toList = c :: r := by
  cases hc : s.data.toList with
  | nil => rw [hsl, hc] at h0; simp [ju] at h0
  | cons c r => exact ⟨c, r, rfl⟩
 have h1' : 1 <= s.size := by rw [hs, hcr]; simp
 have hb0 : (0 : Int) <= 0 /\ s[Int.toNat 0]? = some c := ⟨Int.le_refl _, by rw [nq, hcr]; rfl⟩
 by_cases h12 : decide ((s.size : Int) > 12) = true
 ·have hn : fN s = false := by unfold fN; rw [decide_eq_false (show ¬ (s.size : Int) <= 12 by have := of_decide_eq_true h12; omega)]; simp only [Bool.false_and, Bool.and_false]
  rw [hn];apply ai Tryz.func171 U (Nb U) U U;(repeat' (first | apply ab | refine ah U U ?_ | refine Wr 0 U U ?_ | (refine Wo 1 U ?_;refine Tc 1 U (Tf U U ‹_› (Tc 3 U (Tt U U ‹_› (Tc 3 U (Tk U (Tk U (Tc 3 U (Tk U (Tk U (Tc 1 U (Tn ?_)))))))))))) | refine Wr 2 U U ?_ | apply am))
  exact ⟨.inl rfl, rfl⟩
 have h12' : decide ((s.size : Int) > 12) = false := by simpa using h12
 have hle : s.size <= 12 := by have := of_decide_eq_false h12'; omega
 have hn : fN s = (eb c.toNat && !oI s && s.data.toList.all BF) := by
  simp only [fN];rw [decide_eq_true (show (1 : Int) <= (s.size : Int) by omega), decide_eq_true (show (s.size : Int) <= 12 by omega), hcr];simp
 rw [hn];apply ai Tryz.func171 U (Nb U) U U;(repeat' (first | apply ab | refine ah U U ?_ | refine af U U ?_ | refine Wr 0 U U ?_ | (refine Wo 1 U ?_;refine Tc 1 U (Tf U U ‹_› (Tc 3 U (Tf U U ‹_› (Tc 3 U (Tg U (mw U U U U ‹_›) ?_))))) <;> refine Ts U U (fun _ => ?_) (fun _ => ?_) <;> refine Tc 3 U ?_ <;> (first | refine au U ?_ | (refine aK U ?_; refine ev (mw U U U U ‹_›) ?_)) <;> (first | refine au U ?_ | (refine aK U ?_; refine aB U (fun _ => ?_) (fun _ => ?_))) <;> refine Tc 1 U (Tn ?_)) | refine Wr 2 U U ?_ | refine Wr 3 U U ?_ | apply ak | apply ae | apply am))
 ·rename_i h1; exact ⟨.inl rfl, by rw [show eb c.toNat = false by simp [eb]; have := of_decide_eq_true h1; omega]; simp only [Bool.false_and]; rfl⟩
 ·rename_i h1 h2; exact ⟨.inl rfl, by rw [show eb c.toNat = false by simp [eb]; have := of_decide_eq_true h2; omega]; simp only [Bool.false_and]; rfl⟩
 ·rename_i h1 h2
  have hl : eb c.toNat = true := by simp [eb]; have := of_decide_eq_false h1; have := of_decide_eq_false h2; omega
  rw [hl, Bool.true_and];apply cg (S := nmS h h.length s) (l := s.data.toList) (a0 := ()) (fun rest _ => rest.all BF = s.data.toList.all BF) (by omega) (by omega) rfl rfl
  ·intro i x rest _ hi hd hil hJ
   have hlt := Ay hil;have hb : 0 <= (i : Int) /\ s[Int.toNat (i : Int)]? = some x := ⟨Int.natCast_nonneg i, by rw [nq]; exact hi⟩
   have hI := wL k h.length (by omega) h x.toNat;(repeat' (first | apply ab | refine ah U U ?_ | refine af U U ?_ | (refine Wo 4 U ?_;refine Tc 3 U (Tt U U ‹_› (Tn ?_))) | refine Wr 5 U U ?_ | (refine Wo 6 U ?_;refine Tc 2 U (Tg U (mw U U U U ‹_›) ?_) <;> refine Ts U (aa U U U U ‹_›) (fun _ => ?_) (fun _ => ?_) <;> refine Tc 1 U (Tn ?_)) | refine Wr 7 U U ?_ | apply ak | apply ae | apply am))
   ·rename_i ho; exact ⟨(), rfl, by rw [<- hJ, List.all_cons]; simp [BF, ho]⟩
   ·rename_i ho; exact ⟨.inl rfl, by rw [<- hJ, List.all_cons]; simp only [BF, ho, Bool.false_and, Bool.and_false]; rfl⟩
  ·intro _ hJ
   have hlt := Az (s := s);rw [<- hJ];clear hsl hcr hJ hn;(repeat' (first | apply ab | refine ah U U ?_ | refine af U U ?_ | (refine Wo 4 U ?_;refine Tc 3 U (Tf U U ‹_› (Tn ?_))) | refine Wr 8 U U ?_ | (refine Wo 9 U ?_;refine Ts U U (fun _ => ?_) (fun _ => ?_) <;> refine Tc 1 U (Tn ?_)) | (refine Wo 10 U ?_;refine Ts U U (fun _ => ?_) (fun _ => ?_) <;> refine Tc 1 U (Tn ?_)) | (refine Wo 11 U ?_;refine Ts U U (fun _ => ?_) (fun _ => ?_) <;> refine Tc 1 U (Tn ?_)) | (refine Wo 12 U ?_;refine Ts U U (fun _ => ?_) (fun _ => ?_) <;> refine Tc 1 U (Tn ?_)) | (refine Wo 13 U ?_;refine Ts U U (fun _ => ?_) (fun _ => ?_) <;> refine Tc 1 U (Tn ?_)) | (refine Wo 14 U ?_;refine Ts U U (fun _ => ?_) (fun _ => ?_) <;> refine Tc 1 U (Tn ?_)) | (refine Wo 15 U ?_;refine Ts U U (fun _ => ?_) (fun _ => ?_) <;> refine Tc 1 U (Tn ?_)) | (refine Wo 16 U ?_;refine Ts U U (fun _ => ?_) (fun _ => ?_) <;> refine Tc 1 U (Tn ?_)) | (refine Wo 17 U ?_;refine Ts U U (fun _ => ?_) (fun _ => ?_) <;> refine Tc 1 U (Tn ?_)) | (refine Wo 18 U ?_;refine Ts U U (fun _ => ?_) (fun _ => ?_) <;> refine Tc 1 U (Tn ?_)) | (refine Wo 19 U ?_;refine Ts U U (fun _ => ?_) (fun _ => ?_) <;> refine Tc 1 U (Tn ?_)) | refine Wr 20 U U ?_ | refine Wr 21 U U ?_ | apply ak | apply ae | apply am | apply aC))
   all_goals exact ⟨.inl rfl, Eq.trans (b := some (AV.bool _, _)) rfl (by simp only [oI, Bool.true_or, Bool.or_true, Bool.false_or, Bool.or_false, List.all_nil, Bool.not_true, Bool.not_false, Bool.and_true, *])⟩
theorem ld {l : List bk} {i : Nat} (h : i < l.length) : decide ((i : Int) < ((ii l).length : Int)) = true := decide_eq_true (by rw [fB]; omega)
theorem lf {l : List bk} : decide ((l.length : Int) < ((ii l).length : Int)) = false := decide_eq_false (by rw [fB]; omega)
def kH (name : ByteArray) : List bk -> Int -> Int
 | [], _ => -1
 | v :: r, i => if (v.name.toList == name.toList) then i else kH name r (i + 1)
def fdS (h : aj) (lo : Nat) (vs : List bk) (name : ByteArray) (i : Int) (_ : Unit) : St :=
 {env := [(0, .v (.vs 3 (ii vs))), (1, .v (.str name)), (5, .v (.int .i64 i))], loc := [], heap := h, inRound := false, lo := lo }
theorem Dd (vs : List bk) (name : ByteArray) (k : Nat) (hk : vs.length < k) (hl : vs.length < 100) (h : aj) (lo : Nat) : call Tryz.prog ba (k + 1) lo (.func 126) [.vs 3 (ii vs), .str name] h = some (.int .i64 (kH name vs 0), h) := by
 apply ai Tryz.func126 U (Nb U) U U;(repeat' (first | apply ab | refine Wr 0 U U ?_ | refine Wr 1 U U ?_ | apply ae));apply aS (S := fdS h h.length vs name) (l := vs) (a0 := ()) (fun i rest _ => kH name rest i = kH name vs 0) (by omega) (by omega) rfl rfl
 ·intro i v rest _ hi hd hil hJ
  have hrow := gk hi;have hlt := ld hil;obtain ⟨nm, level, cells⟩ := v;rw [kH] at hJ;dsimp only at hJ;(repeat' (first | apply ab | refine ah U U ?_ | refine af U U ?_ | (refine Wo 2 U ?_;refine Tc 3 U (Tt U U ‹_› (Tn ?_))) | refine Wr 3 U U ?_ | (refine Wo 4 U ?_;refine Tc 2 U (Tg U (aq U U U U U ‹_›) ?_) <;> refine Tc 1 U (Tg U U (Tc 1 U (Ts U U (fun _ => ?_) (fun _ => ?_)))) <;> refine Tn ?_) | refine Wr 5 U U ?_ | apply ak | apply ae | apply am))
  ·rename_i hc; exact ⟨.inl rfl, by rw [<- hJ, if_pos hc]; rfl⟩
  ·rename_i hc; exact ⟨(), rfl, by rw [<- hJ, if_neg (by rw [hc]; simp)]; rfl⟩
 ·intro _ hJ
  have hlt := lf (l := vs);(repeat' (first | apply ab | refine af U U ?_ | (refine Wo 2 U ?_;refine Tc 3 U (Tf U U ‹_› (Tn ?_))) | refine Wr 6 U U ?_ | apply am | apply aC));exact ⟨.inl rfl, by rw [<- hJ]; rfl⟩
def rn (v : bk) : Bool := !decide (v.level < 0) && !decide (v.level > 47) && !decide (v.cells < 1) && !decide (v.cells > 8)
def ey (all : List bk) : List bk -> Int -> Int -> Bool
 | [], _, sum => decide (sum <= 48)
 | v :: r, i, sum => fN v.name && rn v && (kH v.name all 0 == i) && ey all r (i + 1) (IntKind.i64.wrap (sum + v.cells))
def iz (w : Int) (vs : List bk) : Bool := kp w && !decide ((vs.length : Int) < 1) && !decide ((vs.length : Int) > 18) && ey vs vs 0 0
def hrS (h : aj) (lo : Nat) (vs : List bk) (i : Int) (sum : Int) : St :=
 {env := [(1, .v (.vs 3 (ii vs))), (5, .v (.int .i64 sum)), (6, .v (.int .i64 i))], loc := [], heap := h, inRound := false, lo := lo }
theorem BG (w : Int) (vs : List bk) (k : Nat) (hk : 40 <= k) (h : aj) (lo : Nat) : call Tryz.prog ba (k + 1) lo (.func 84) [.int .i64 w, .vs 3 (ii vs)] h = some (.bool (iz w vs), h) := by
 have hw := t9 (k - 1) h.length h w;rw [show k - 1 + 1 = k by omega] at hw
 have hvl := fB vs;apply ai Tryz.func84 U (Nb U) U U;(repeat' (first | apply ab | refine ah U U ?_ | refine af U U ?_ | refine Wr 0 U U ?_ | (refine Wo 1 U ?_;refine Tc 1 U (Ts U (aa U U U U ‹_›) (fun _ => ?_) (fun _ => ?_)) <;> refine Tc 4 U ?_ <;> (first | refine au U ?_ | (refine aK U ?_; refine aB U (fun _ => ?_) (fun _ => ?_))) <;> refine Tc 4 U ?_ <;> (first | refine au U ?_ | (refine aK U ?_; refine aB U (fun _ => ?_) (fun _ => ?_))) <;> refine Tc 1 U (Tn ?_)) | refine Wr 2 U U ?_ | refine Wr 3 U U ?_ | refine Wr 4 U U ?_ | apply ak | apply ae | apply am))
 all_goals first
  | exact ⟨.inl rfl, Eq.trans (b := some (AV.bool _, _)) rfl (by rw [hvl] at *; simp only [iz, *, Bool.not_true, Bool.and_false, Bool.false_and])⟩
  | skip
 rename_i h1 h2 h3;rw [hvl] at h2 h3;have hl := of_decide_eq_false h3;have heq : iz w vs = ey vs vs 0 0 := by simp only [iz, h1, h2, h3, Bool.not_false, Bool.true_and]
 rw [heq];apply aS (S := hrS h h.length vs) (l := vs) (a0 := 0) (fun i rest sum => ey vs rest i sum = ey vs vs 0 0) (by omega) (by omega) rfl rfl
 ·intro i v rest sum hi hd hil hJ
  have hrow := gk hi;have hlt := ld hil;have hN := Dc v.name (k - 1) (by omega) h h.length;have hF := Dd vs v.name (k - 1) (by omega) (by omega) h h.length;rw [show k - 1 + 1 = k by omega] at hN hF
  obtain ⟨nm, level, cells⟩ := v;rw [ey] at hJ;dsimp only at hJ hN hF;(repeat' (first | apply ab | refine ah U U ?_ | refine af U U ?_ | (refine Wo 5 U ?_;refine Tc 3 U (Tt U U ‹_› (Tn ?_))) | refine Wr 6 U U ?_ | (refine Wo 7 U ?_;refine Tc 2 U (Tg U (aq U U U U U ‹_›) ?_) <;> refine Tg U U (Tc 2 U (Tn ?_))) | (refine Wo 8 U ?_;refine Tc 2 U (Ts U (aa U U U U ‹_›) (fun _ => ?_) (fun _ => ?_)) <;> refine Tc 4 U ?_ <;> (first | refine au U ?_ | (refine aK U ?_; refine aB U (fun _ => ?_) (fun _ => ?_))) <;> refine Tc 4 U ?_ <;> (first | refine au U ?_ | (refine aK U ?_; refine aB U (fun _ => ?_) (fun _ => ?_))) <;> refine Tc 4 U ?_ <;> (first | refine au U ?_ | (refine aK U ?_; refine aB U (fun _ => ?_) (fun _ => ?_))) <;> refine Tc 4 U ?_ <;> (first | refine au U ?_ | (refine aK U ?_; refine aB U (fun _ => ?_) (fun _ => ?_))) <;> refine Tc 5 U ?_ <;> (first | refine au U ?_ | (refine aK U ?_; refine ev (aa U U U U ‹_›) ?_)) <;> refine Tc 1 U ?_ <;> (first | refine au U ?_ | (refine aK U ?_; refine aB U (fun _ => ?_) (fun _ => ?_))) <;> refine Tc 1 U (Tn ?_)) | refine Wr 9 U U ?_ | refine Wr 10 U U ?_ | apply ak | apply ae | apply am))
  all_goals first
   | exact ⟨.inl rfl, Eq.trans (b := some (AV.bool _, _)) rfl (by rw [<- hJ]; clear hJ heq; simp_all [rn])⟩
   | exact ⟨IntKind.i64.wrap (sum + cells), rfl, by rw [<- hJ]; clear hJ heq; simp_all [rn]⟩
 ·intro sum hJ
  have hlt := lf (l := vs);(repeat' (first | apply ab | refine af U U ?_ | (refine Wo 5 U ?_;refine Tc 3 U (Tf U U ‹_› (Tn ?_))) | (refine Wo 11 U ?_;refine Tc 1 U (Ts U U (fun _ => ?_) (fun _ => ?_)) <;> refine Tc 1 U (Tn ?_)) | apply am | apply aC))
  all_goals exact ⟨.inl rfl, Eq.trans (b := some (AV.bool _, _)) rfl (by rw [<- hJ]; simp_all [ey])⟩
def jh : List ByteArray -> List bk -> Int -> Bool
 | _, [], sum => !decide (sum > 48)
 | ns, v :: r, sum => fN v.name && !ns.contains v.name && rn v && jh (ns ++ [v.name]) r (IntKind.i64.wrap (sum + v.cells))
def cV (w : Int) (vs : List bk) : Bool := !decide (w < 1) && !decide (w > 8) && !decide ((vs.length : Int) < 1) && !decide ((vs.length : Int) > 18) && jh [] vs 0
def zk (e : Int) (b : Bool) : Int := if b then 0 else e
def hpS (h : aj) (lo : Nat) (vs : List bk) (i : Int) (a : List ByteArray × Int) : St :=
 {env := [(5, .v (.mp h.length)), (6, .v (.int .i64 a.2)), (26, .v (.vs 3 (ii vs))), (27, .v (.int .i64 (ii vs).length)), (28, .v (.int .i64 i))], loc := [], heap := (h ++ [ap.dead]).set h.length (.map (dX a.1)), inRound := false, lo := lo }
theorem ue (w : Int) (vs : List bk) (k : Nat) (hk : 40 <= k) (h : aj) (lo : Nat) : call Tryz.prog ba (k + 1) lo (.func 149) [.int .i64 w, .vs 3 (ii vs)] h = some (.int .i64 (zk 1 (cV w vs)), h) := by
 have hvl := fB vs;have hid : h.length < (h ++ [ap.dead]).length := by simp
 have hlo : h.length <= h.length := Nat.le_refl _;apply ai Tryz.func149 U (Nb U) U U;(repeat' (first | apply ab | refine ah U U ?_ | refine af U U ?_ | refine Wr 0 U U ?_ | (refine Wo 1 U ?_;refine Tc 1 U (Ts U U (fun _ => ?_) (fun _ => ?_)) <;> refine Tc 2 U ?_ <;> (first | refine au U ?_ | (refine aK U ?_; refine aB U (fun _ => ?_) (fun _ => ?_))) <;> refine Tc 4 U ?_ <;> (first | refine au U ?_ | (refine aK U ?_; refine aB U (fun _ => ?_) (fun _ => ?_))) <;> refine Tc 4 U ?_ <;> (first | refine au U ?_ | (refine aK U ?_; refine aB U (fun _ => ?_) (fun _ => ?_))) <;> refine Tc 1 U (Tn ?_)) | refine Wr 2 U U ?_ | refine Wr 3 U U ?_ | refine Wr 4 U U ?_ | refine Wr 5 U U ?_ | apply ak | apply ae | apply am))
 all_goals first
  | exact ⟨.inl rfl, Eq.trans (b := some (AV.int .i64 1, _)) rfl (by rw [hvl] at *; simp only [cV, zk, *, Bool.not_true, Bool.and_false, Bool.false_and, Bool.false_eq_true, if_false])⟩
  | skip
 rename_i h1 h1' h2 h3;rw [hvl] at h2 h3;have hl := of_decide_eq_false h3;have heq : cV w vs = jh [] vs 0 := by simp only [cV, h1, h1', h2, h3, Bool.not_false, Bool.true_and]
 rw [heq];apply cg (S := hpS h h.length vs) (l := vs) (a0 := ([], 0)) (fun rest a => jh a.1 rest a.2 = jh [] vs 0) (by omega) (by omega) (by unfold hpS; rw [<- C5]; rfl) rfl
 ·intro i v rest a hi hd hil hJ
  obtain ⟨ns, sum⟩ := a;have hrow := gk hi;have hlt := ld hil;have hN := zj v.name (k - 1) (by omega) ((h ++ [ap.dead]).set h.length (.map (dX ns))) h.length;rw [show k - 1 + 1 = k by omega] at hN
  obtain ⟨nm, level, cells⟩ := v;rw [jh] at hJ;dsimp only at hJ hN;(repeat' (first | apply ab | refine ah U U ?_ | refine af U U ?_ | (refine Wo 6 U ?_;refine Tt U U ‹_› (Tn ?_)) | (refine Wo 7 U ?_;refine Tg U (aq U U U U U ‹_›) ?_ <;> refine Tg U U (Tc 2 U (Tn ?_))) | (refine Wo 8 U ?_;refine Tc 2 U (Ts U (aa U U U U ‹_›) (fun _ => ?_) (fun _ => ?_)) <;> refine Tc 5 U ?_ <;> (first | refine au U ?_ | (refine aK U ?_; refine aB (C6 U U ⟨_, _, _, U⟩ U U U U U ‹_›) (fun _ => ?_) (fun _ => ?_))) <;> refine Tc 4 U ?_ <;> (first | refine au U ?_ | (refine aK U ?_; refine aB U (fun _ => ?_) (fun _ => ?_))) <;> refine Tc 4 U ?_ <;> (first | refine au U ?_ | (refine aK U ?_; refine aB U (fun _ => ?_) (fun _ => ?_))) <;> refine Tc 4 U ?_ <;> (first | refine au U ?_ | (refine aK U ?_; refine aB U (fun _ => ?_) (fun _ => ?_))) <;> refine Tc 4 U ?_ <;> (first | refine au U ?_ | (refine aK U ?_; refine aB U (fun _ => ?_) (fun _ => ?_))) <;> refine Tc 1 U (Tn ?_)) | refine Wr 9 U U ?_ | (refine Wo 10 U ?_;refine Tc 3 U (Tg U (E3 U U ⟨_, _, _, U⟩ U U U U ‹_› ‹_› ‹_›) ?_) <;> refine Tn ?_) | refine Wr 11 U U ?_ | refine Wr 12 U U ?_ | apply ak | apply ae | apply am))
  all_goals first
   | exact ⟨.inl rfl, Eq.trans (b := some (AV.int .i64 1, _)) rfl (by rw [<- hJ]; clear hJ heq; simp_all [rn, zk])⟩
   | exact ⟨(ns ++ [nm], IntKind.i64.wrap (sum + cells)), rfl, by rw [<- hJ]; clear hJ heq; simp_all [rn]⟩
 ·intro a hJ
  have hlt := lf (l := vs);rw [<- hJ];(repeat' (first | apply ab | refine ah U U ?_ | refine af U U ?_ | (refine Wo 6 U ?_;refine Tf U U ‹_› (Tn ?_)) | (refine Wo 13 U ?_;refine Tc 1 U (Ts U U (fun _ => ?_) (fun _ => ?_)) <;> refine Tn ?_) | refine Wr 14 U U ?_ | refine Wr 15 U U ?_ | apply ak | apply am | apply aC))
  all_goals exact ⟨.inl rfl, Eq.trans (b := some (AV.int .i64 _, _)) rfl (by simp_all [jh, zk])⟩
def Im (w : Int) (vs : List bk) (c : Int) : List AV := [.int .i64 w, .vs 3 (ii vs), .int .i64 c]
def gG (vs : List bk) : aF -> Int
 | .mk op n _ _ => if op = 0 then 0 else if op = 1 /\ 0 <= n /\ n < vs.length then (if 1 < aI vs n then 1 else 0) else if (2 <= op /\ op <= 11) \/ op = 13 \/ op = 14 then 2 else if op = 12 then 1 else if op = 15 then 3 else -1
theorem BH (w : Int) (vs : List bk) (c : Int) (e : aF) (k lo : Nat) (h : aj) : call Tryz.prog ba (k + 1) lo (.func 172) [.agg (Im w vs c), .agg (cT e)] h = some (.int .i64 (gG vs e), h) := by
 obtain ⟨op, n, cp, es⟩ := e;have hvl := fB vs
 by_cases hin : 0 <= n /\ n < vs.length
 ·obtain ⟨v, hv, hrow⟩ := my hin.1 hin.2
  obtain ⟨name, level, cells⟩ := v;apply ai Tryz.func172 U (Nb U) U U;(repeat' (first | apply ab | refine ah U U ?_ | refine af U U ?_ | refine Wr 0 U U ?_ | (refine Wo 1 U ?_;refine Tc 2 U (Ts U U (fun _ => ?_) (fun _ => ?_)) <;> refine Tc 1 U (Tn ?_)) | refine Wr 2 U U ?_ | (refine Wo 3 U ?_;refine Tc 2 U (Ts U U (fun _ => ?_) (fun _ => ?_)) <;> refine Tc 3 U ?_ <;> (first | refine au U ?_ | (refine aK U ?_; refine aB U (fun _ => ?_) (fun _ => ?_))) <;> refine Tc 7 U ?_ <;> (first | refine au U ?_ | (refine aK U ?_; refine aB U (fun _ => ?_) (fun _ => ?_))) <;> refine Tc 2 U (Tn ?_)) | (refine Wo 4 U ?_;refine Tc 4 U (Tg U (bq U U U U U ‹_›) ?_) <;> refine Tc 1 U (Tg U U (Ts U U (fun _ => ?_) (fun _ => ?_))) <;> refine Tn ?_) | refine Wr 5 U U ?_ | refine Wr 6 U U ?_ | (refine Wo 7 U ?_;refine Tc 2 U (Ts U U (fun _ => ?_) (fun _ => ?_)) <;> refine Tc 3 U ?_ <;> (first | refine au U ?_ | (refine aK U ?_; refine aB U (fun _ => ?_) (fun _ => ?_))) <;> refine Tc 2 U (Tn ?_)) | (refine Wo 8 U ?_;refine Tc 2 U (Ts U U (fun _ => ?_) (fun _ => ?_)) <;> refine Tc 1 U (Tn ?_)) | (refine Wo 9 U ?_;refine Tc 2 U (Ts U U (fun _ => ?_) (fun _ => ?_)) <;> refine Tc 1 U (Tn ?_)) | refine Wr 10 U U ?_ | (refine Wo 11 U ?_;refine Tc 2 U (Ts U U (fun _ => ?_) (fun _ => ?_)) <;> refine Tc 1 U (Tn ?_)) | refine Wr 12 U U ?_ | (refine Wo 13 U ?_;refine Tc 2 U (Ts U U (fun _ => ?_) (fun _ => ?_)) <;> refine Tc 1 U (Tn ?_)) | refine Wr 14 U U ?_ | refine Wr 15 U U ?_ | apply ak | apply ae | apply am))
  all_goals exact ⟨.inl rfl, Eq.trans (b := some (AV.int .i64 _, _)) rfl (by grind [gG, aI])⟩
 ·apply ai Tryz.func172 U (Nb U) U U
  (repeat' (first | apply ab | refine ah U U ?_ | refine af U U ?_ | refine Wr 0 U U ?_ | (refine Wo 1 U ?_;refine Tc 2 U (Ts U U (fun _ => ?_) (fun _ => ?_)) <;> refine Tc 1 U (Tn ?_)) | refine Wr 2 U U ?_ | (refine Wo 3 U ?_;refine Tc 2 U (Ts U U (fun _ => ?_) (fun _ => ?_)) <;> refine Tc 3 U ?_ <;> (first | refine au U ?_ | (refine aK U ?_; refine aB U (fun _ => ?_) (fun _ => ?_))) <;> refine Tc 7 U ?_ <;> (first | refine au U ?_ | (refine aK U ?_; refine aB U (fun _ => ?_) (fun _ => ?_))) <;> refine Tc 2 U (Tn ?_)) | (refine Wo 7 U ?_;refine Tc 2 U (Ts U U (fun _ => ?_) (fun _ => ?_)) <;> refine Tc 3 U ?_ <;> (first | refine au U ?_ | (refine aK U ?_; refine aB U (fun _ => ?_) (fun _ => ?_))) <;> refine Tc 2 U (Tn ?_)) | (refine Wo 8 U ?_;refine Tc 2 U (Ts U U (fun _ => ?_) (fun _ => ?_)) <;> refine Tc 1 U (Tn ?_)) | (refine Wo 9 U ?_;refine Tc 2 U (Ts U U (fun _ => ?_) (fun _ => ?_)) <;> refine Tc 1 U (Tn ?_)) | refine Wr 10 U U ?_ | (refine Wo 11 U ?_;refine Tc 2 U (Ts U U (fun _ => ?_) (fun _ => ?_)) <;> refine Tc 1 U (Tn ?_)) | refine Wr 12 U U ?_ | (refine Wo 13 U ?_;refine Tc 2 U (Ts U U (fun _ => ?_) (fun _ => ?_)) <;> refine Tc 1 U (Tn ?_)) | refine Wr 14 U U ?_ | refine Wr 15 U U ?_ | apply ak | apply ae | apply am))
  all_goals first
   | exact ⟨.inl rfl, Eq.trans (b := some (AV.int .i64 _, _)) rfl (by grind [gG, aI])⟩
   | (exfalso; grind)
mutual
def kq : aF -> Int
 | .mk _ _ _ es => gU es 1
def gU : List aF -> Int -> Int
 | [], n => n
 | e :: es, n => gU es (IntKind.i64.wrap (n + kq e))
end
def ndS (h : aj) (lo : Nat) (es : List aF) (i : Int) (n : Int) : St :=
 {env := [(3, .v (.int .i64 n)), (7, .v (.vs 4 (bc es))), (8, .v (.int .i64 (bc es).length)), (9, .v (.int .i64 i))], loc := [], heap := h, inRound := false, lo := lo }
theorem uf : ∀ (k : Nat) (e : aF), cM e <= k -> dP e -> ∀ (h : aj) (lo : Nat), call Tryz.prog ba k lo (.func 174) [.agg (cT e)] h = some (.int .i64 (kq e), h)
 | 0, e, hk, _, _, _ => by have := fA e; omega
 | k + 1, .mk op n cp es, hk, hb, h, lo => by
  rw [cM] at hk;rw [dP] at hb;have hlen := bB es;rw [kq];apply ai Tryz.func174 U (Nb U) U U;(repeat' (first | apply ab | refine Wr 0 U U ?_ | refine Wr 1 U U ?_ | refine Wr 2 U U ?_ | apply ae));apply cg (S := ndS h h.length es) (l := es) (a0 := 1) (fun rest a => gU rest a = gU es 1) hb.1 (by omega) rfl rfl
  ·intro i e rest a hi hd hil hJ
   have hrow := bQ _ _ _ hi;have ih := uf k e (by have := bX es i _ hi; omega) (bL es i _ hb.2 hi) h h.length;have hlt := di hil;obtain ⟨op', n', cp', es'⟩ := e;(repeat' (first | apply ab | refine ah U U ?_ | (refine Wo 3 U ?_;refine Tt U U ‹_› (Tn ?_)) | (refine Wo 4 U ?_;refine Tg U (aq U U U U U ‹_›) ?_ <;> refine Tg U U (Tc 2 U (Tn ?_))) | (refine Wo 5 U ?_;refine Tc 2 U (Tg U (aa U U U U ‹_›) ?_) <;> refine Tc 2 U (Tn ?_)) | refine Wr 6 U U ?_ | apply ak | apply ae));exact ⟨_, rfl, by rw [<- hJ]; rfl⟩
  ·intro a hJ
   have hlt := dj (l := es);(repeat' (first | apply ab | refine af U U ?_ | (refine Wo 3 U ?_;refine Tf U U ‹_› (Tn ?_)) | refine Wr 7 U U ?_ | apply am | apply aC));exact ⟨.inl rfl, by rw [<- hJ]; rfl⟩
def In (w : Int) : Int := IntKind.i64.wrap (1 * 2 ^ (min (IntKind.u64.wrap w).toNat IntKind.i64.bits))
theorem zl {w : Int} (h : 0 <= w) (h2 : w < 100) : 0 <= IntKind.u64.wrap w := by
 have e1 : IntKind.u64.bits = 64 := rfl;have e2 : IntKind.u64.signed = false := rfl;simp only [IntKind.wrap, e1, e2, Bool.false_and, Bool.false_eq_true, if_false];omega
def nr (w c : Int) : aF -> Bool
 | .mk op n cp _ => if op = 0 then !decide (n < 0) && !decide (n >= In w) && cp == 0 else if op = 1 then !decide (cp < 0) && !decide (cp >= c) else n == 0 && cp == 0
def zm (m deep ar n : Int) : Bool := decide (m < 0) || decide (deep > 16) || (ar != n)
mutual
def iN (w : Int) (vs : List bk) (c : Int) : aF -> Int -> Int -> Bool × Int
 | .mk op n cp es, deep, left =>
  if zm (IntKind.i64.wrap (left - 1)) deep (gG vs (.mk op n cp es)) es.length = true then (false, IntKind.i64.wrap (left - 1))
  else if nr w c (.mk op n cp es) = true then ji w vs c es (IntKind.i64.wrap (deep + 1)) (IntKind.i64.wrap (left - 1)) else (false, IntKind.i64.wrap (left - 1))
def ji (w : Int) (vs : List bk) (c : Int) : List aF -> Int -> Int -> Bool × Int
 | [], _, left => (true, left)
 | e :: es, deep, left => if (iN w vs c e deep left).1 = true then ji w vs c es deep (iN w vs c e deep left).2 else (false, (iN w vs c e deep left).2)
end
def fnS (h : aj) (id : Nat) (lo : Nat) (w : Int) (vs : List bk) (c : Int) (es : List aF) (deep : Int) (i : Int) (left : Int) : St :=
 {env := [(2, .v (.int .i64 deep)), (3, .v (.hp id 1 0)), (4, .p 4 0), (75, .v (.vs 4 (bc es))), (76, .v (.int .i64 (bc es).length)), (77, .v (.int .i64 i))], loc := [(4, Im w vs c)], heap := h.set id (.cells 3 [.int .i64 left]), inRound := false, lo := lo }
theorem wM (w : Int) (hw1 : 1 <= w) (hw2 : w <= 8) (vs : List bk) (c : Int) (h : aj) (id lo : Nat) (hid : id < h.length) (hlo : lo <= id) : ∀ (k : Nat) (e : aF), cM e + 2 <= k -> dP e -> ∀ (deep left : Int),
  call Tryz.prog ba k lo (.func 150) [.agg (Im w vs c), .agg (cT e), .int .i64 deep, .hp id 1 0] (h.set id (.cells 3 [.int .i64 left])) = some (.bool (iN w vs c e deep left).1, h.set id (.cells 3 [.int .i64 (iN w vs c e deep left).2]))
 | 0, e, hk, _, _, _ => by omega
 | k + 1, .mk op n cp es, hk, hb, deep, left => by
  rw [cM] at hk;rw [dP] at hb;have hlen := bB es;have hel := dd es;have hA := BH w vs c (.mk op n cp es) (k - 1) (h.set id (.cells 3 [.int .i64 (IntKind.i64.wrap (left - 1))])).length (h.set id (.cells 3 [.int .i64 (IntKind.i64.wrap (left - 1))]));rw [show k - 1 + 1 = k by omega] at hA
  have hu := zl (w := w) (by omega) (by omega);have hc : iN w vs c (.mk op n cp es) deep left = (if zm (IntKind.i64.wrap (left - 1)) deep (gG vs (.mk op n cp es)) es.length = true then (false, IntKind.i64.wrap (left - 1))
   else if nr w c (.mk op n cp es) = true then ji w vs c es (IntKind.i64.wrap (deep + 1)) (IntKind.i64.wrap (left - 1)) else (false, IntKind.i64.wrap (left - 1))) := by rw [iN]
  generalize iN w vs c (.mk op n cp es) deep left = R at hc;apply ai Tryz.func150 U (Nb U) U U;(repeat' (first | apply ab | refine ah U U ?_ | refine af U U ?_ | refine Wr 0 U U ?_ | (refine Wo 1 U ?_;refine Tc 2 U (Tg U (bP U U U U ‹_› U U) ?_) <;> refine Tc 2 U (Tg U (cL U U U U U ‹_› ‹_› ⟨U, U, Nb U⟩ U) ?_) <;> refine Tn ?_) | (refine Wd 2 [0,1,3,7,15,31,63,127,255,511,511,2047,511,4607,12799,32767,65535] U U (by decide +kernel) ?_;refine Uo U U (Uo U U (Uo U (bP U U U U ‹_› U U) ?_)) <;> (refine aP U ?_; refine dA (by decide +kernel) U (fun _ => ?_) (fun _ => ?_)) <;> refine Uo U U ?_ <;> (first | refine aL U ?_ | (refine aP U ?_; refine vm (by decide +kernel) U ?_)) <;> (first | refine aL U ?_ | (refine aP U ?_; refine dA (by decide +kernel) U (fun _ => ?_) (fun _ => ?_))) <;> refine Uo U U (Uo U U ?_) <;> (first | refine aL U ?_ | (refine aP U ?_; refine aU (by decide +kernel) U U U U U ?_)) <;> (first | refine aL U ?_ | (refine aP U ?_; refine aU (by decide +kernel) U U U U U ?_)) <;> (first | refine aL U ?_ | (refine aP U ?_; refine aU (by decide +kernel) U (aa U U U U ‹_›) U U U ?_)) <;> (first | refine aL U ?_ | (refine aP U ?_; refine aU (by decide +kernel) U U U U U ?_)) <;> (first | refine aL U ?_ | (refine aP U ?_; refine aU (by decide +kernel) U U U U U ?_)) <;> (first | refine aL U ?_ | (refine aP U ?_; refine aU (by decide +kernel) U U U U U ?_)) <;> (first | refine aL U ?_ | (refine aP U ?_; refine dA (by decide +kernel) U (fun _ => ?_) (fun _ => ?_))) <;> refine Uo U U (Un ?_)) | refine Wr 3 U U ?_ | refine Wr 4 U U ?_ | (refine Wo 5 U ?_;refine Tc 2 U (Ts U U (fun _ => ?_) (fun _ => ?_)) <;> refine Tc 3 U ?_ <;> (first | refine au U ?_ | (refine aK U ?_; refine aB U (fun _ => ?_) (fun _ => ?_))) <;> refine Tc 1 U (Tn ?_)) | refine Wr 6 U U ?_ | (refine Wo 7 U ?_;refine Ts U U (fun _ => ?_) (fun _ => ?_) <;> refine Tc 1 U (Tn ?_)) | (refine Wo 8 U ?_;refine Tc 2 U (Ts U U (fun _ => ?_) (fun _ => ?_)) <;> refine Tc 6 U ?_ <;> (first | refine au U ?_ | (refine aK U ?_; refine ev (HL U U U ‹_›) ?_)) <;> (first | refine au U ?_ | (refine aK U ?_; refine aB U (fun _ => ?_) (fun _ => ?_))) <;> refine Tc 4 U ?_ <;> (first | refine au U ?_ | (refine aK U ?_; refine aB U (fun _ => ?_) (fun _ => ?_))) <;> refine Tc 1 U (Tn ?_)) | refine Wr 9 U U ?_ | (refine Wo 10 U ?_;refine Ts U U (fun _ => ?_) (fun _ => ?_) <;> refine Tc 1 U (Tn ?_)) | (refine Wo 11 U ?_;refine Tc 2 U (Ts U U (fun _ => ?_) (fun _ => ?_)) <;> refine Tc 5 U ?_ <;> (first | refine au U ?_ | (refine aK U ?_; refine aB U (fun _ => ?_) (fun _ => ?_))) <;> refine Tc 1 U (Tn ?_)) | refine Wr 12 U U ?_ | refine Wr 13 U U ?_ | apply ak | apply ae | apply am))
  all_goals first
   | (
     have hx : zm (IntKind.i64.wrap (left - 1)) deep (gG vs (.mk op n cp es)) es.length = true := by clear hc hA; simp_all [zm]
     rw [if_pos hx] at hc; exact ⟨.inl rfl, by rw [hc]; rfl⟩)
   | (
     have hx : zm (IntKind.i64.wrap (left - 1)) deep (gG vs (.mk op n cp es)) es.length = false := by clear hc hA; simp_all [zm]
     rw [hx, if_neg (by simp)] at hc
     first
     | (
      have hy : nr w c (.mk op n cp es) = false := by clear hc hA; simp_all [nr, In]
      rw [hy, if_neg (by simp)] at hc; exact ⟨.inl rfl, by rw [hc]; rfl⟩)
     | (
      have hy : nr w c (.mk op n cp es) = true := by clear hc hA; simp_all [nr, In]
      rw [hy, if_pos rfl] at hc))
  all_goals
   apply cg (S := fnS h id lo w vs c es deep) (l := es) (a0 := IntKind.i64.wrap (left - 1)) (fun rest a => ji w vs c rest (IntKind.i64.wrap (deep + 1)) a = R) hb.1 (by omega) rfl hc.symm
   ·intro i e rest a hi hd hil hJ
    have hrow := bQ _ _ _ hi;have ih := wM w hw1 hw2 vs c h id lo hid hlo k e (by have := bX es i _ hi; omega) (bL es i _ hb.2 hi) (IntKind.i64.wrap (deep + 1)) a;have hlt := di hil;rw [ji] at hJ;obtain ⟨op', n', cp', es'⟩ := e;(repeat' (first | apply ab | refine ah U U ?_ | refine af U U ?_ | (refine Wo 14 U ?_;refine Tt U U ‹_› (Tn ?_)) | (refine Wo 15 U ?_;refine Tg U (aq U U U U U ‹_›) ?_ <;> refine Tg U U (Tc 2 U (Tn ?_))) | (refine Wo 16 U ?_;refine Tc 5 U (Ts U (aa U U U U ‹_›) (fun _ => ?_) (fun _ => ?_)) <;> refine Tc 1 U (Tn ?_)) | refine Wr 17 U U ?_ | refine Wr 18 U U ?_ | apply ak | apply ae | apply am))
    ·rename_i hf; exact ⟨_, rfl, by rw [if_pos hf] at hJ; exact hJ⟩
    ·rename_i hf; exact ⟨.inl rfl, by rw [if_neg (by rw [hf]; simp)] at hJ; rw [<- hJ]; rfl⟩
   ·intro a hJ
    have hlt := dj (l := es);(repeat' (first | apply ab | refine af U U ?_ | (refine Wo 14 U ?_;refine Tf U U ‹_› (Tn ?_)) | refine Wr 19 U U ?_ | apply am | apply aC));exact ⟨.inl rfl, by rw [<- hJ]; rfl⟩
mutual
def df (w : Int) (vs : List bk) (c : Int) : aF -> Bool
 | .mk op n cp es => kG w vs c (.mk op n cp es) && db w vs c es
def db (w : Int) (vs : List bk) (c : Int) : List aF -> Bool
 | [] => true
 | e :: es => df w vs c e && db w vs c es
end
def HN (h : aj) (lo : Nat) (w : Int) (vs : List bk) (c : Int) (e : aF) (i : Int) (_ : Unit) : St :=
 {env := [(0, .v (.int .i64 w)), (1, .v (.vs 3 (ii vs))), (2, .v (.int .i64 c)), (7, .p 7 0), (9, .v (.int .i64 i))], loc := [(7, cT e)], heap := h, inRound := false, lo := lo }
theorem wN (w : Int) (vs : List bk) (c : Int) : ∀ (k : Nat) (e : aF), cM e + 14 <= k -> dP e -> ∀ (h : aj) (lo : Nat), call Tryz.prog ba k lo (.func 135) [.int .i64 w, .vs 3 (ii vs), .int .i64 c, .agg (cT e)] h = some (.bool (df w vs c e), h)
 | 0, e, hk, _, _, _ => by omega
 | k + 1, .mk op n cp es, hk, hb, h, lo => by
  rw [cM] at hk;rw [dP] at hb;have hlen := bB es;have hnode := Db w vs c (.mk op n cp es) (k - 14) h.length h;rw [show k - 14 + 14 = k by omega] at hnode
  rw [df];apply ai Tryz.func135 U (Nb U) U U;(repeat' (first | apply ab | refine ah U U ?_ | refine af U U ?_ | refine Wr 0 U U ?_ | (refine Wo 1 U ?_;refine Tc 4 U (Ts U (aa U U U U ‹_›) (fun _ => ?_) (fun _ => ?_)) <;> refine Tc 1 U (Tn ?_)) | refine Wr 2 U U ?_ | refine Wr 3 U U ?_ | apply ak | apply ae | apply am))
  ·rename_i hn
   apply cg (S := HN h h.length w vs c (.mk op n cp es)) (l := es) (a0 := ()) (fun rest _ => db w vs c rest = db w vs c es) hb.1 (by omega) rfl rfl
   ·intro i e rest _ hi hd hil hJ
    have hrow := bQ _ _ _ hi;have ih := wN w vs c k e (by have := bX es i _ hi; omega) (bL es i _ hb.2 hi) h h.length;have hlt := di hil;obtain ⟨op', n', cp', es'⟩ := e;(repeat' (first | apply ab | refine ah U U ?_ | refine af U U ?_ | (refine Wo 4 U ?_;refine Tc 4 U (Tt U U ‹_› (Tn ?_))) | refine Wr 5 U U ?_ | (refine Wo 6 U ?_;refine Tc 6 U (Tg U (aq U U U U U ‹_›) ?_) <;> refine Tg U U (Ts U (aa U U U U ‹_›) (fun _ => ?_) (fun _ => ?_)) <;> refine Tc 1 U (Tn ?_)) | refine Wr 7 U U ?_ | apply ak | apply ae | apply am))
    ·rename_i hf; exact ⟨(), rfl, by rw [<- hJ, db, hf, Bool.true_and]⟩
    ·rename_i hf; exact ⟨.inl rfl, by rw [<- hJ, db, hf]; simp only [Bool.false_and, Bool.and_false]; rfl⟩
   ·intro _ hJ
    have hlt := dj (l := es);(repeat' (first | apply ab | refine af U U ?_ | (refine Wo 4 U ?_;refine Tc 4 U (Tf U U ‹_› (Tn ?_))) | refine Wr 8 U U ?_ | apply am | apply aC));exact ⟨.inl rfl, by rw [<- hJ, hn]; rfl⟩
  ·rename_i hn; exact ⟨.inl rfl, by rw [hn]; simp only [Bool.false_and]; rfl⟩
def De (a b : Int) : Int := if decide (a < b) then b else a
mutual
def oL : aF -> Int
 | .mk _ _ _ es => IntKind.i64.wrap (kr es 0 + 1)
def kr : List aF -> Int -> Int
 | [], n => n
 | e :: es, n => kr es (De n (oL e))
end
def depS (h : aj) (lo : Nat) (e : aF) (i : Int) (n : Int) : St :=
 {env := [(1, .p 1 0), (3, .v (.int .i64 n)), (4, .v (.int .i64 i))], loc := [(1, cT e)], heap := h, inRound := false, lo := lo }
theorem ug : ∀ (k : Nat) (e : aF), cM e <= k -> dP e -> ∀ (h : aj) (lo : Nat), call Tryz.prog ba k lo (.func 134) [.agg (cT e)] h = some (.int .i64 (oL e), h)
 | 0, e, hk, _, _, _ => by have := fA e; omega
 | k + 1, .mk op n cp es, hk, hb, h, lo => by
  rw [cM] at hk;rw [dP] at hb;have hlen := bB es;rw [oL];apply ai Tryz.func134 U (Nb U) U U;(repeat' (first | apply ab | refine Wr 0 U U ?_ | refine Wr 1 U U ?_ | refine Wr 2 U U ?_ | apply ae));apply cg (S := depS h h.length (.mk op n cp es)) (l := es) (a0 := 0) (fun rest a => kr rest a = kr es 0) hb.1 (by omega) rfl rfl
  ·intro i e rest a hi hd hil hJ
   have hrow := bQ _ _ _ hi;have ih := ug k e (by have := bX es i _ hi; omega) (bL es i _ hb.2 hi) h h.length;have hlt := di hil;obtain ⟨op', n', cp', es'⟩ := e;(repeat' (first | apply ab | refine ah U U ?_ | (refine Wo 3 U ?_;refine Tc 4 U (Tt U U ‹_› (Tn ?_))) | refine Wr 4 U U ?_ | (refine Wo 5 U ?_;refine Tc 4 U (Tg U (aq U U U U U ‹_›) ?_) <;> refine Tg U U (Tg U (aa U U U U ‹_›) ?_) <;> refine Tc 2 U (Tn ?_)) | apply ak | apply ae));exact ⟨_, rfl, by rw [<- hJ]; rfl⟩
  ·intro a hJ
   have hlt := dj (l := es);(repeat' (first | apply ab | refine af U U ?_ | (refine Wo 3 U ?_;refine Tc 4 U (Tf U U ‹_› (Tn ?_))) | refine Wr 6 U U ?_ | apply am | apply aC));exact ⟨.inl rfl, by rw [<- hJ]; rfl⟩
def ks (w : Int) (vs : List bk) (c : Int) (e : aF) : Bool := l7 e 400 && decide (oL e <= 16) && df w vs c e
theorem vo (w : Int) (vs : List bk) (c : Int) (e : aF) (k : Nat) (hk : cM e + 14 <= k) (hb : dP e) (h : aj) (lo : Nat) : call Tryz.prog ba (k + 1) lo (.func 98) [.int .i64 w, .vs 3 (ii vs), .int .i64 c, .agg (cT e)] h = some (.bool (ks w vs c e), h) := by
 have h1 := oK (k - 1) h h.length e (by omega) hb 400;rw [show k - 1 + 1 = k by omega] at h1
 have h2 := ug k e (by omega) hb h h.length;have h3 := wN w vs c k e hk hb h h.length;obtain ⟨op, n, cp, es⟩ := e;apply ai Tryz.func98 U (Nb U) U U;(repeat' (first | apply ab | refine Wr 0 U U ?_ | (refine Wo 1 U ?_;refine Tc 1 U (Ts U (aa U U U U ‹_›) (fun _ => ?_) (fun _ => ?_)) <;> refine Tc 2 U ?_ <;> (first | refine au U ?_ | (refine aK U ?_; refine ev (aa U U U U ‹_›) ?_)) <;> (first | refine au U ?_ | (refine aK U ?_; refine aB U (fun _ => ?_) (fun _ => ?_))) <;> refine Tc 6 U ?_ <;> (first | refine au U ?_ | (refine aK U ?_; refine aB (aa U U U U ‹_›) (fun _ => ?_) (fun _ => ?_))) <;> refine Tc 2 U (Tn ?_)) | apply am))
 all_goals exact ⟨.inl rfl, Eq.trans (b := some (AV.bool _, _)) rfl (by simp [ks, *])⟩
theorem gV {w : Int} {vs : List bk} (h : cV w vs = true) : 1 <= w /\ w <= 8 := by
 simp only [cV, Bool.and_eq_true, Bool.not_eq_true', decide_eq_false_iff_not] at h;omega
def dC (w : Int) (vs : List bk) (c : Int) (e : aF) : Int := if (cV w vs && !decide (c < 1) && !decide (c > 3)) = true then (if (iN w vs c e 1 400).1 = true then 0 else 20) else 1
theorem BI (w : Int) (vs : List bk) (c : Int) (e : aF) (k : Nat) (hk : cM e + 50 <= k) (hb : dP e) (h : aj) (lo : Nat) : call Tryz.prog ba (k + 1) lo (.func 111) [.agg (Im w vs c), .agg (cT e)] h = some (.int .i64 (dC w vs c e), h) := by
 have hH := ue w vs (k - 1) (by omega) h h.length;rw [show k - 1 + 1 = k by omega] at hH
 cases hp : cV w vs with
 | false =>
  rw [hp] at hH;obtain ⟨op, n, cp, es⟩ := e;apply ai Tryz.func111 U (Nb U) U U;(repeat' (first | apply ab | refine ah U U ?_ | refine Wr 0 U U ?_ | (refine Wo 1 U ?_;refine Tc 4 U (Tg U (aa U U U U ‹_›) ?_) <;> refine Tt U U U (Tc 3 U (Tk U (Tc 4 U (Tk U (Tc 1 U (Tn ?_))))))) | refine Wr 2 U U ?_ | apply am))
  all_goals exact ⟨.inl rfl, Eq.trans (b := some (AV.int .i64 1, _)) rfl (by simp only [dC, hp, Bool.false_and, Bool.false_eq_true, if_false])⟩
 | true =>
  rw [hp] at hH;obtain ⟨w1, w2⟩ := gV hp;have hF := wM w w1 w2 vs c (h ++ [.cells 3 [.int .i64 0]]) h.length h.length (by simp) (Nat.le_refl _) k e (by omega) hb 1 400;have hlo : h.length <= h.length := Nat.le_refl _;have hget : (h ++ [ap.cells 3 [.int .i64 0]])[h.length]? = some (.cells 3 [.int .i64 0]) := by simp
  obtain ⟨op, n, cp, es⟩ := e;apply ai Tryz.func111 U (Nb U) U U;(repeat' (first | apply ab | refine ah U U ?_ | refine af U U ?_ | refine Wr 0 U U ?_ | (refine Wo 1 U ?_;refine Tc 4 U (Tg U (aa U U U U ‹_›) ?_) <;> refine Tf U U U (Tc 3 U (Ts U U (fun _ => ?_) (fun _ => ?_))) <;> refine Tc 4 U ?_ <;> (first | refine au U ?_ | (refine aK U ?_; refine aB U (fun _ => ?_) (fun _ => ?_))) <;> refine Tc 1 U (Tn ?_)) | refine Wr 2 U U ?_ | (refine Wo 3 U ?_;refine Tc 1 U (Tg U (aM U U U U ‹_› ⟨by assumption, U, U, Nb U⟩) ?_) <;> refine Tn ?_) | (refine Wo 4 U ?_;refine Tc 2 U (Ts U (aa U U U U ‹_›) (fun _ => ?_) (fun _ => ?_)) <;> refine Tc 1 U (Tn ?_)) | refine Wr 5 U U ?_ | refine Wr 6 U U ?_ | apply ak | apply am))
  all_goals exact ⟨.inl rfl, Eq.trans (b := some (AV.int .i64 _, _)) rfl (by simp_all [dC])⟩
theorem jv (w : Int) (vs : List bk) (c : Int) (e : aF) (k : Nat) (hk : cM e + 51 <= k) (hb : dP e) (h : aj) (lo : Nat) : call Tryz.prog ba (k + 1) lo (.func 71) [.int .i64 w, .vs 3 (ii vs), .int .i64 c, .agg (cT e)] h = some (.int .i64 (dC w vs c e), h) := by
 have hC := BI w vs c e (k - 1) (by omega) hb h h.length;rw [show k - 1 + 1 = k by omega] at hC
 obtain ⟨op, n, cp, es⟩ := e;apply ai Tryz.func71 U (Nb U) U U;(repeat' (first | apply ab | refine Wr 0 U U ?_ | (refine Wo 1 U ?_;refine Tc 5 U (Tg U (aa U U U U ‹_›) ?_) <;> refine Tc 1 U (Tn ?_)) | apply am));exact ⟨.inl rfl, rfl⟩
def dD (vs : List bk) (n : Int) : Int := if 0 <= n /\ n < vs.length then aI vs n else 0
def uh (vs : List bk) : ay -> Int
 | .mk op n _ _ _ => if op = 0 \/ op = 4 then (if dD vs n = 0 then -1 else if 1 < dD vs n then (if op = 0 then 2 else 1) else (if op = 0 then 1 else 0))
  else if op = 3 then (if n < 0 \/ n > 47 then -1 else 1) else if op = 1 \/ op = 2 \/ op = 5 \/ op = 6 then (if n ≠ 0 then -1 else 1) else -1
theorem BJ (p : bp) (s : ay) (k lo : Nat) (h : aj) : call Tryz.prog ba (k + 1) lo (.func 173) [.agg (bY p), .agg (ig s)] h = some (.int .i64 (uh p.vars s), h) := by
 obtain ⟨w, vs, body⟩ := p;obtain ⟨op, n, a, t, e⟩ := s;have hvl := fB vs;have e2 : IntKind.i64.wrap (1 + 1) = 2 := rfl;have e1 : IntKind.i64.wrap (0 + 1) = 1 := rfl
 by_cases hn : n >= 0
 ·have c1 : decide (n >= 0) = true := decide_eq_true hn
  by_cases hm : n < vs.length
  ·have c2 : decide (n < ((ii vs).length : Int)) = true := decide_eq_true (by rw [hvl]; exact hm)
   obtain ⟨v, hv, hrow⟩ := my hn hm;obtain ⟨name, level, cells⟩ := v;have hci : dD vs n = cells := by unfold dD aI; rw [if_pos ⟨hn, hm⟩, hv]
   apply ai Tryz.func173 U (Nb U) U U;(repeat' (first | apply ab | refine ah U U ?_ | refine af U U ?_ | refine Wr 0 U U ?_ | refine Wr 1 U U ?_ | (refine Wo 2 U ?_;refine Tc 2 U (Tt U U ‹_› (Tc 6 U (Tt U U ‹_› (Tc 1 U (Tn ?_)))))) | (refine Wo 3 U ?_;refine Tc 4 U (Tg U (bq U U U U U ‹_›) ?_) <;> refine Tc 1 U (Tg U U (Tc 1 U (Tn ?_)))) | refine Wr 4 U U ?_ | (refine Wo 5 U ?_;refine Ts U U (fun _ => ?_) (fun _ => ?_) <;> refine Tc 1 U (Tn ?_)) | (refine Wo 6 U ?_;refine Ts U U (fun _ => ?_) (fun _ => ?_) <;> refine Tc 1 U (Tn ?_)) | refine Wr 7 U U ?_ | (refine Wo 8 U ?_;refine Tc 2 U ?_ <;> (refine aK U ?_; first | refine bi U ‹_› ?_ | refine aT U ‹_› ?_) <;> refine Tn ?_) | refine Wr 9 U U ?_ | (refine Wo 10 U ?_;refine Tc 1 U (Ts U U (fun _ => ?_) (fun _ => ?_)) <;> refine Tc 1 U (Tn ?_)) | refine Wr 11 U U ?_ | (refine Wo 12 U ?_;refine Tc 1 U (Ts U U (fun _ => ?_) (fun _ => ?_)) <;> refine Tc 1 U (Tn ?_)) | refine Wr 13 U U ?_ | refine Wr 14 U U ?_ | (refine Wo 15 U ?_;refine Ts U U (fun _ => ?_) (fun _ => ?_) <;> refine Tc 1 U (Tn ?_)) | (refine Wo 16 U ?_;refine Tc 2 U (Ts U U (fun _ => ?_) (fun _ => ?_)) <;> refine Tc 3 U ?_ <;> (first | refine au U ?_ | (refine aK U ?_; refine aB U (fun _ => ?_) (fun _ => ?_))) <;> refine Tc 1 U (Tn ?_)) | refine Wr 17 U U ?_ | refine Wr 18 U U ?_ | (refine Wo 19 U ?_;refine Ts U U (fun _ => ?_) (fun _ => ?_) <;> refine Tc 1 U (Tn ?_)) | (refine Wo 20 U ?_;refine Ts U U (fun _ => ?_) (fun _ => ?_) <;> refine Tc 1 U (Tn ?_)) | (refine Wo 21 U ?_;refine Ts U U (fun _ => ?_) (fun _ => ?_) <;> refine Tc 1 U (Tn ?_)) | (refine Wo 22 U ?_;refine Ts U U (fun _ => ?_) (fun _ => ?_) <;> refine Tc 1 U (Tn ?_)) | (refine Wo 23 U ?_;refine Tc 2 U (Ts U U (fun _ => ?_) (fun _ => ?_)) <;> refine Tn ?_) | refine Wr 24 U U ?_ | refine Wr 25 U U ?_ | refine Wr 26 U U ?_ | apply ak | apply ae | apply am))
   all_goals exact ⟨.inl rfl, Eq.trans (b := some (AV.int .i64 _, _)) rfl (by clear c1 c2 hrow hv hvl; simp only [uh, hci]; grind)⟩
  ·have c2 : decide (n < ((ii vs).length : Int)) = false := decide_eq_false (by rw [hvl]; exact hm)
   have hci : dD vs n = 0 := by unfold dD; rw [if_neg (by omega)]
   apply ai Tryz.func173 U (Nb U) U U;(repeat' (first | apply ab | refine ah U U ?_ | refine af U U ?_ | refine Wr 0 U U ?_ | refine Wr 1 U U ?_ | (refine Wo 2 U ?_;refine Tc 2 U (Tt U U ‹_› (Tc 6 U (Tf U U ‹_› (Tc 1 U (Tn ?_)))))) | refine Wr 4 U U ?_ | (refine Wo 5 U ?_;refine Ts U U (fun _ => ?_) (fun _ => ?_) <;> refine Tc 1 U (Tn ?_)) | (refine Wo 6 U ?_;refine Ts U U (fun _ => ?_) (fun _ => ?_) <;> refine Tc 1 U (Tn ?_)) | refine Wr 7 U U ?_ | (refine Wo 8 U ?_;refine Tc 2 U ?_ <;> (refine aK U ?_; first | refine bi U ‹_› ?_ | refine aT U ‹_› ?_) <;> refine Tn ?_) | refine Wr 9 U U ?_ | (refine Wo 10 U ?_;refine Tc 1 U (Tt U U U (Tc 1 U (Tn ?_)))) | refine Wr 11 U U ?_ | (refine Wo 15 U ?_;refine Ts U U (fun _ => ?_) (fun _ => ?_) <;> refine Tc 1 U (Tn ?_)) | (refine Wo 16 U ?_;refine Tc 2 U (Ts U U (fun _ => ?_) (fun _ => ?_)) <;> refine Tc 3 U ?_ <;> (first | refine au U ?_ | (refine aK U ?_; refine aB U (fun _ => ?_) (fun _ => ?_))) <;> refine Tc 1 U (Tn ?_)) | refine Wr 17 U U ?_ | refine Wr 18 U U ?_ | (refine Wo 19 U ?_;refine Ts U U (fun _ => ?_) (fun _ => ?_) <;> refine Tc 1 U (Tn ?_)) | (refine Wo 20 U ?_;refine Ts U U (fun _ => ?_) (fun _ => ?_) <;> refine Tc 1 U (Tn ?_)) | (refine Wo 21 U ?_;refine Ts U U (fun _ => ?_) (fun _ => ?_) <;> refine Tc 1 U (Tn ?_)) | (refine Wo 22 U ?_;refine Ts U U (fun _ => ?_) (fun _ => ?_) <;> refine Tc 1 U (Tn ?_)) | (refine Wo 23 U ?_;refine Tc 2 U (Ts U U (fun _ => ?_) (fun _ => ?_)) <;> refine Tn ?_) | refine Wr 24 U U ?_ | refine Wr 25 U U ?_ | refine Wr 26 U U ?_ | apply ak | apply ae | apply am))
   all_goals exact ⟨.inl rfl, Eq.trans (b := some (AV.int .i64 _, _)) rfl (by clear c1 c2 hvl; simp only [uh, hci]; grind)⟩
 ·have c1 : decide (n >= 0) = false := decide_eq_false hn
  have hci : dD vs n = 0 := by unfold dD; rw [if_neg (by omega)]
  apply ai Tryz.func173 U (Nb U) U U;(repeat' (first | apply ab | refine ah U U ?_ | refine af U U ?_ | refine Wr 0 U U ?_ | refine Wr 1 U U ?_ | (refine Wo 2 U ?_;refine Tc 2 U (Tf U U ‹_› (Tc 6 U (Tk U (Tc 1 U (Tn ?_)))))) | refine Wr 4 U U ?_ | (refine Wo 5 U ?_;refine Ts U U (fun _ => ?_) (fun _ => ?_) <;> refine Tc 1 U (Tn ?_)) | (refine Wo 6 U ?_;refine Ts U U (fun _ => ?_) (fun _ => ?_) <;> refine Tc 1 U (Tn ?_)) | refine Wr 7 U U ?_ | (refine Wo 8 U ?_;refine Tc 2 U ?_ <;> (refine aK U ?_; first | refine bi U ‹_› ?_ | refine aT U ‹_› ?_) <;> refine Tn ?_) | refine Wr 9 U U ?_ | (refine Wo 10 U ?_;refine Tc 1 U (Tt U U U (Tc 1 U (Tn ?_)))) | refine Wr 11 U U ?_ | (refine Wo 15 U ?_;refine Ts U U (fun _ => ?_) (fun _ => ?_) <;> refine Tc 1 U (Tn ?_)) | (refine Wo 16 U ?_;refine Tc 2 U (Ts U U (fun _ => ?_) (fun _ => ?_)) <;> refine Tc 3 U ?_ <;> (first | refine au U ?_ | (refine aK U ?_; refine aB U (fun _ => ?_) (fun _ => ?_))) <;> refine Tc 1 U (Tn ?_)) | refine Wr 17 U U ?_ | refine Wr 18 U U ?_ | (refine Wo 19 U ?_;refine Ts U U (fun _ => ?_) (fun _ => ?_) <;> refine Tc 1 U (Tn ?_)) | (refine Wo 20 U ?_;refine Ts U U (fun _ => ?_) (fun _ => ?_) <;> refine Tc 1 U (Tn ?_)) | (refine Wo 21 U ?_;refine Ts U U (fun _ => ?_) (fun _ => ?_) <;> refine Tc 1 U (Tn ?_)) | (refine Wo 22 U ?_;refine Ts U U (fun _ => ?_) (fun _ => ?_) <;> refine Tc 1 U (Tn ?_)) | (refine Wo 23 U ?_;refine Tc 2 U (Ts U U (fun _ => ?_) (fun _ => ?_)) <;> refine Tn ?_) | refine Wr 24 U U ?_ | refine Wr 25 U U ?_ | refine Wr 26 U U ?_ | apply ak | apply ae | apply am))
  all_goals exact ⟨.inl rfl, Eq.trans (b := some (AV.int .i64 _, _)) rfl (by clear c1 hvl; simp only [uh, hci]; grind)⟩
abbrev R3 := Bool × Int × Int
def iO (w : Int) (vs : List bk) : List aF -> Int -> Bool × Int
 | [], nd => (true, nd)
 | e :: es, nd => if (dC w vs 1 e != 0) = true then (false, nd) else iO w vs es (IntKind.i64.wrap (nd + kq e))
def lg (l : List ay) (deep st nd : Int) (r : R3) : R3 := if (decide ((l.length : Int) > 0) && decide (deep > 16)) = true then (false, st, nd) else r
def wO (vs : List bk) (nd : Int) : ay -> Bool
 | .mk op n a t e => decide (nd > 400) || (uh vs (.mk op n a t e) != a.length) || (decide ((t.length : Int) > 0) && (op != 1) && (op != 2)) || (decide ((e.length : Int) > 0) && (op != 1))
mutual
def nt (w : Int) (vs : List bk) : ay -> Int -> Int -> Int -> R3
 | .mk op n a t e, deep, st, nd =>
  if wO vs (IntKind.i64.wrap (nd + 1)) (.mk op n a t e) = true then (false, IntKind.i64.wrap (st + 1), IntKind.i64.wrap (nd + 1))
  else if (iO w vs a (IntKind.i64.wrap (nd + 1))).1 = true then
   (
    let T := lg t (IntKind.i64.wrap (deep + 1)) (IntKind.i64.wrap (st + 1)) (iO w vs a (IntKind.i64.wrap (nd + 1))).2 (gJ w vs t (IntKind.i64.wrap (deep + 1)) (IntKind.i64.wrap (st + 1)) (iO w vs a (IntKind.i64.wrap (nd + 1))).2)
    if T.1 = true then lg e (IntKind.i64.wrap (deep + 1)) T.2.1 T.2.2 (gJ w vs e (IntKind.i64.wrap (deep + 1)) T.2.1 T.2.2) else T)
  else (false, IntKind.i64.wrap (st + 1), (iO w vs a (IntKind.i64.wrap (nd + 1))).2)
def gJ (w : Int) (vs : List bk) : List ay -> Int -> Int -> Int -> R3
 | [], _, st, nd => (decide (nd <= 400), st, nd)
 | s :: l, deep, st, nd => let T := nt w vs s deep st nd
  if T.1 = true then gJ w vs l deep T.2.1 T.2.2 else T
end
def dK (w : Int) (vs : List bk) (l : List ay) (deep st nd : Int) : R3 := lg l deep st nd (gJ w vs l deep st nd)
def nu (w : Int) (vs : List bk) (t e : List ay) (d st nd : Int) : R3 := if (dK w vs t d st nd).1 = true then dK w vs e d (dK w vs t d st nd).2.1 (dK w vs t d st nd).2.2 else dK w vs t d st nd
def GO (w : Int) (vs : List bk) (t e : List ay) (d st : Int) (q : Bool × Int) : R3 := if q.1 = true then nu w vs t e d st q.2 else (false, st, q.2)
def wP (w : Int) (vs : List bk) (rest : List ay) (deep : Int) (T : R3) : R3 := if T.1 = true then gJ w vs rest deep T.2.1 T.2.2 else T
theorem wQ (w : Int) (vs : List bk) (op n : Int) (a : List aF) (t e : List ay) (deep st nd : Int) : nt w vs (.mk op n a t e) deep st nd =
  if wO vs (IntKind.i64.wrap (nd + 1)) (.mk op n a t e) = true then (false, IntKind.i64.wrap (st + 1), IntKind.i64.wrap (nd + 1)) else GO w vs t e (IntKind.i64.wrap (deep + 1)) (IntKind.i64.wrap (st + 1)) (iO w vs a (IntKind.i64.wrap (nd + 1))) := by
 rw [nt]; rfl
theorem mz (w : Int) (vs : List bk) (s : ay) (rest : List ay) (deep st nd : Int) : gJ w vs (s :: rest) deep st nd = wP w vs rest deep (nt w vs s deep st nd) := by rw [gJ]; rfl
def flS (h : aj) (id lo : Nat) (p : bp) (l : List ay) (deep : Int) (i : Int) (a : Int × Int) : St :=
 {env := [(0, .v (.hp id 2 0)), (3, .v (.int .i64 deep)), (5, .p 5 0), (20, .v (.vs 5 (br l))), (21, .v (.int .i64 (br l).length)), (22, .v (.int .i64 i))], loc := [(5, bY p)], heap := h.set id (.cells 173 [.int .i64 a.1, .int .i64 a.2]), inRound := false, lo := lo }
def flI (h : aj) (id lo : Nat) (p : bp) (l : List ay) (s : ay) (a : List aF) (deep : Int) (i st : Int) (j : Int) (nd : Int) : St :=
 {env := [(0, .v (.hp id 2 0)), (3, .v (.int .i64 deep)), (5, .p 5 0), (10, .p 10 0), (20, .v (.vs 5 (br l))), (21, .v (.int .i64 (br l).length)), (22, .v (.int .i64 i)), (80, .v (.vs 4 (bc a))), (81, .v (.int .i64 (bc a).length)), (82, .v (.int .i64 j))], loc := [(5, bY p), (10, ig s)], heap := h.set id (.cells 173 [.int .i64 st, .int .i64 nd]), inRound := false, lo := lo }
theorem oM (p : bp) (h : aj) (id lo : Nat) (hid : id < h.length) (hlo : lo <= id) : ∀ (k : Nat) (l : List ay), bA l + 60 <= k -> l.length < 9223372036854775808 -> eQ l -> ∀ (deep st nd : Int),
  call Tryz.prog ba k lo (.func 151) [.hp id 2 0, .agg (bY p), .vs 5 (br l), .int .i64 deep] (h.set id (.cells 173 [.int .i64 st, .int .i64 nd])) =
   some (.bool (dK p.width p.vars l deep st nd).1, h.set id (.cells 173 [.int .i64 (dK p.width p.vars l deep st nd).2.1, .int .i64 (dK p.width p.vars l deep st nd).2.2]))
 | 0, l, hk, _, _, _, _, _ => by omega
 | k + 1, l, hk, hlen, hb, deep, st, nd => by
  have hll := b9 l;have hsl := eC l;obtain ⟨w, vs, body⟩ := p;have hG : dK w vs l deep st nd = lg l deep st nd (gJ w vs l deep st nd) := rfl;dsimp only;generalize dK w vs l deep st nd = R at hG;unfold lg at hG;apply ai Tryz.func151 U (Nb U) U U;(repeat' (first | apply ab | refine ah U U ?_ | refine af U U ?_ | refine Wr 0 U U ?_ | (refine Wo 1 U ?_;refine Tc 2 U (Ts U U (fun _ => ?_) (fun _ => ?_)) <;> refine Tc 2 U ?_ <;> (first | refine au U ?_ | (refine aK U ?_; refine aB U (fun _ => ?_) (fun _ => ?_))) <;> refine Tc 1 U (Tn ?_)) | refine Wr 2 U U ?_ | refine Wr 3 U U ?_ | apply ak | apply ae | apply am))
  case' refine_1.refine_1 => skip
  all_goals first
   | (
     have hx : (decide ((l.length : Int) > 0) && decide (deep > 16)) = true := by rw [hsl] at *; simp_all
     rw [if_pos hx] at hG; exact ⟨.inl rfl, by rw [hG]; rfl⟩)
   | (
     have hx : (decide ((l.length : Int) > 0) && decide (deep > 16)) = false := by rw [hsl] at *; simp_all
     rw [hx, if_neg (by simp)] at hG)
  all_goals
   apply cg (S := flS h id lo ⟨w, vs, body⟩ l deep) (l := l) (a0 := (st, nd)) (fun rest a => gJ w vs rest deep a.1 a.2 = R) hlen (by omega) rfl hG.symm
   ·intro i s rest a hi hd hil hJ
    obtain ⟨st, nd⟩ := a;have hlt := f5 hil;have hrow := de _ _ _ hi;have hmem := dY l i _ hi;have hbm := dt l i _ hb hi;have hAr := BJ ⟨w, vs, body⟩ s (k - 1) (h.set id (.cells 173 [.int .i64 (IntKind.i64.wrap (st + 1)), .int .i64 (IntKind.i64.wrap (nd + 1))])).length (h.set id (.cells 173 [.int .i64 (IntKind.i64.wrap (st + 1)), .int .i64 (IntKind.i64.wrap (nd + 1))]));rw [show k - 1 + 1 = k by omega] at hAr
    obtain ⟨op, n, a, t, e⟩ := s;rw [iy] at hmem;rw [kP] at hbm;obtain ⟨⟨ha1, ha2⟩, ⟨ht1, ht2⟩, he1, he2⟩ := hbm;have hla := bB a;have hal := dd a;have htl := eC t;have hel := eC e;rw [mz, wQ] at hJ;dsimp only at hJ hAr;(repeat' (first | apply ab | refine ah U U ?_ | refine af U U ?_ | (refine Wo 4 U ?_;refine Tt U U ‹_› (Tn ?_)) | (refine Wo 5 U ?_;refine Tg U (aq U U U U U ‹_›) ?_ <;> refine Tg U U (Tc 2 U (Tn ?_))) | (refine Wo 6 U ?_;refine Tc 3 U (Tg U (bP U U U U ‹_› U U) ?_) <;> refine Tc 3 U (Tg U (cL U U U U U ‹_› ‹_› ⟨U, U, Nb U⟩ U) ?_) <;> refine Tn ?_) | (refine Wo 7 U ?_;refine Tc 3 U (Tg U (bP U U U U ‹_› U U) ?_) <;> refine Tc 3 U (Tg U (cL U U U U U ‹_› ‹_› ⟨U, U, Nb U⟩ U) ?_) <;> refine Tn ?_) | (refine Wd 8 [0,1,3,7,15,31,63,63,255,63,575,1599,4095,8191] U U (by decide +kernel) ?_;refine Uo U U (Uo U U (Uo U U (Uo U (bP U U U U ‹_› U U) ?_))) <;> (refine aP U ?_; refine dA (by decide +kernel) U (fun _ => ?_) (fun _ => ?_)) <;> refine Uo U U ?_ <;> (first | refine aL U ?_ | (refine aP U ?_; refine aU (by decide +kernel) U U U U U ?_)) <;> (first | refine aL U ?_ | (refine aP U ?_; refine aU (by decide +kernel) U U U U U ?_)) <;> (first | refine aL U ?_ | (refine aP U ?_; refine aU (by decide +kernel) U (aa U U U U ‹_›) U U U ?_)) <;> (first | refine aL U ?_ | (refine aP U ?_; refine aU (by decide +kernel) U U U U U ?_)) <;> (first | refine aL U ?_ | (refine aP U ?_; refine aU (by decide +kernel) U U U U U ?_)) <;> (first | refine aL U ?_ | (refine aP U ?_; refine aU (by decide +kernel) U U U U U ?_)) <;> (first | refine aL U ?_ | (refine aP U ?_; refine dA (by decide +kernel) U (fun _ => ?_) (fun _ => ?_))) <;> refine Uo U U (Un ?_)) | refine Wr 9 U U ?_ | (refine Wo 10 U ?_;refine Tc 3 U (Ts U U (fun _ => ?_) (fun _ => ?_)) <;> refine Tc 3 U ?_ <;> (first | refine au U ?_ | (refine aK U ?_; refine aB U (fun _ => ?_) (fun _ => ?_))) <;> refine Tc 4 U ?_ <;> (first | refine au U ?_ | (refine aK U ?_; refine aB U (fun _ => ?_) (fun _ => ?_))) <;> refine Tc 5 U ?_ <;> (first | refine au U ?_ | (refine aK U ?_; refine aB U (fun _ => ?_) (fun _ => ?_))) <;> refine Tc 3 U ?_ <;> (first | refine au U ?_ | (refine aK U ?_; first | refine bi U ‹_› ?_ | refine aT U ‹_› ?_ | refine aB U (fun _ => ?_) (fun _ => ?_))) <;> refine Tc 2 U (Tn ?_)) | refine Wr 11 U U ?_ | refine Wr 12 U U ?_ | apply ak | apply ae | apply am))
    all_goals first
     | (
       have hx : wO vs (IntKind.i64.wrap (nd + 1)) (.mk op n a t e) = true := by clear hJ hAr hi hd hrow; rw [hal, htl, hel] at *; simp_all [wO]
       rw [if_pos hx] at hJ; exact ⟨.inl rfl, by rw [<- hJ]; rfl⟩)
     | (
       have hx : wO vs (IntKind.i64.wrap (nd + 1)) (.mk op n a t e) = false := by clear hJ hAr hi hd hrow; rw [hal, htl, hel] at *; simp_all [wO]
       rw [hx, if_neg (by simp)] at hJ)
    all_goals
     apply cg (S := flI h id lo ⟨w, vs, body⟩ l (.mk op n a t e) a deep i (IntKind.i64.wrap (st + 1))) (l := a) (a0 := IntKind.i64.wrap (nd + 1)) (fun r m => wP w vs rest deep (GO w vs t e (IntKind.i64.wrap (deep + 1)) (IntKind.i64.wrap (st + 1)) (iO w vs r m)) = R) ha1 (by omega) rfl hJ
     ·intro j e' r m hj hd' hjl hJ'
      have hrj := bQ _ _ _ hj;have hjt := di hjl;have hmj := bX a j _ hj;have hbj := bL a j _ ha2 hj;have hC := jv w vs 1 e' (k - 1) (by omega) hbj (h.set id (.cells 173 [.int .i64 (IntKind.i64.wrap (st + 1)), .int .i64 m])) lo;have hN := uf k e' (by omega) hbj (h.set id (.cells 173 [.int .i64 (IntKind.i64.wrap (st + 1)), .int .i64 m])) (h.set id (.cells 173 [.int .i64 (IntKind.i64.wrap (st + 1)), .int .i64 m])).length;rw [show k - 1 + 1 = k by omega] at hC
      rw [iO] at hJ';obtain ⟨op', m', cp', l'⟩ := e';(repeat' (first | apply ab | refine ah U U ?_ | refine af U U ?_ | (refine Wo 13 U ?_;refine Tt U U ‹_› (Tn ?_)) | (refine Wo 14 U ?_;refine Tg U (aq U U U U U ‹_›) ?_ <;> refine Tg U U (Tc 2 U (Tn ?_))) | (refine Wo 15 U ?_;refine Tc 5 U (Tg U (aa U U U U ‹_›) ?_) <;> refine Ts U U (fun _ => ?_) (fun _ => ?_) <;> refine Tn ?_) | refine Wr 16 U U ?_ | (refine Wd 17 [0,1,3,7,0,16,63,127,255,511] U U (by decide +kernel) ?_;refine Uf U U U (Uf U U U (Uf U U U (Uf U (bP U U U U ‹_› U U) U ?_))) <;> refine Uf U U U (Uf U (aa U U U U ‹_›) U ?_) <;> refine Uo U U (Uo U U (Uo U U (Uo U (cL U U U U U ‹_› ‹_› ⟨U, U, Nb U⟩ U) ?_))) <;> refine Un ?_) | refine Wr 18 U U ?_ | apply ak | apply ae | apply am))
      ·rename_i hf; rw [if_pos hf] at hJ'; exact ⟨.inl rfl, by rw [<- hJ']; rfl⟩
      ·rename_i hf; rw [if_neg (by rw [hf]; simp)] at hJ'; exact ⟨_, rfl, hJ'⟩
     ·intro m hJ'
      have hjt := dj (l := a);have hJ2 : wP w vs rest deep (nu w vs t e (IntKind.i64.wrap (deep + 1)) (IntKind.i64.wrap (st + 1)) m) = R := hJ';have iht := oM ⟨w, vs, body⟩ h id lo hid hlo k t (by omega) ht1 ht2 (IntKind.i64.wrap (deep + 1)) (IntKind.i64.wrap (st + 1)) m;dsimp only at iht;unfold nu at hJ2;generalize dK w vs t (IntKind.i64.wrap (deep + 1)) (IntKind.i64.wrap (st + 1)) m = T at iht hJ2;have ihe := oM ⟨w, vs, body⟩ h id lo hid hlo k e (by omega) he1 he2 (IntKind.i64.wrap (deep + 1)) T.2.1 T.2.2;dsimp only at ihe;generalize dK w vs e (IntKind.i64.wrap (deep + 1)) T.2.1 T.2.2 = T2 at ihe hJ2;(repeat' (first | apply ab | refine ah U U ?_ | refine af U U ?_ | (refine Wo 13 U ?_;refine Tf U U ‹_› (Tn ?_)) | (refine Wo 19 U ?_;refine Tc 6 U (Ts U (aa U U U U ‹_›) (fun _ => ?_) (fun _ => ?_)) <;> refine Tc 8 U ?_ <;> (first | refine au U ?_ | (refine aK U ?_; refine aB (aa U U U U ‹_›) (fun _ => ?_) (fun _ => ?_))) <;> refine Tc 2 U (Tn ?_)) | refine Wr 20 U U ?_ | refine Wr 21 U U ?_ | apply ak | apply am | apply aC))
      ·rename_i hT hT2; rw [if_pos hT] at hJ2; unfold wP at hJ2; rw [if_pos hT2] at hJ2; exact ⟨(T2.2.1, T2.2.2), rfl, hJ2⟩
      ·rename_i hT hT2; rw [if_pos hT] at hJ2; unfold wP at hJ2; rw [if_neg (by rw [hT2]; simp)] at hJ2; exact ⟨.inl rfl, by rw [<- hJ2, hT2]; rfl⟩
      ·rename_i hT; rw [if_neg (by rw [hT]; simp)] at hJ2; unfold wP at hJ2; rw [if_neg (by rw [hT]; simp)] at hJ2; exact ⟨.inl rfl, by rw [<- hJ2, hT]; rfl⟩
   ·intro a hJ
    have hlt := f8 (l := l);(repeat' (first | apply ab | refine af U U ?_ | (refine Wo 4 U ?_;refine Tf U U ‹_› (Tn ?_)) | (refine Wo 22 U ?_;refine Tc 3 U (Tg U (bP U U U U ‹_› U U) ?_) <;> refine Ts U U (fun _ => ?_) (fun _ => ?_) <;> refine Tc 1 U (Tn ?_)) | apply am | apply aC))
    all_goals (rename_i hle; exact ⟨.inl rfl, by rw [<- hJ]; unfold gJ; rw [hle]; rfl⟩)
def cw (vs : List bk) (n : Int) (len : Int) (more : Int) : Bool := decide (n >= 0) && decide (n < vs.length) && (len == IntKind.i64.wrap (more + fe (decide (aI vs n > 1))))
theorem nv (vs : List bk) (s : ay) (more : Int) (k lo : Nat) (h : aj) : call Tryz.prog ba (k + 2) lo (.func 155) [.vs 3 (ii vs), .agg (ig s), .int .i64 more] h = some (.bool (match s with | .mk _ n a _ _ => cw vs n a.length more), h) := by
 obtain ⟨op, n, a, t, e⟩ := s;show _ = some (AV.bool (cw vs n a.length more), h);have hvl := fB vs;have hal := dd a;have hone1 := lE k h.length h true;have hone0 := lE k h.length h false
 by_cases hin : 0 <= n /\ n < vs.length
 ·obtain ⟨v, hv, hrow⟩ := my hin.1 hin.2
  obtain ⟨name, level, cells⟩ := v;apply ai Tryz.func155 U (Nb U) U U;(repeat' (first | apply ab | refine Wr 0 U U ?_ | (refine Wd 1 [0,1,3,7,15,31,15,79,255,511,1023,2047,4095,8191,2047,2047,2047,67583,231423,493567,1017855,2066431,4163583,8374271,16777215,33554431,67108863] U U (by decide +kernel) ?_;refine Uo U U (Uo U U ?_) <;> (refine aP U ?_; refine dA (by decide +kernel) U (fun _ => ?_) (fun _ => ?_)) <;> refine Uo U U ?_ <;> (first | refine aL U ?_ | (refine aP U ?_; refine aU (by decide +kernel) U U U U U ?_)) <;> (first | refine aL U ?_ | (refine aP U ?_; refine aU (by decide +kernel) U U U U U ?_)) <;> (first | refine aL U ?_ | (refine aP U ?_; refine aU (by decide +kernel) U U U U U ?_)) <;> (first | refine aL U ?_ | (refine aP U ?_; refine aU (by decide +kernel) U U U U U ?_)) <;> (first | refine aL U ?_ | (refine aP U ?_; refine dA (by decide +kernel) U (fun _ => ?_) (fun _ => ?_))) <;> refine Uo U U (Uo U U ?_) <;> (first | refine aL U ?_ | (refine aP U ?_; refine aU (by decide +kernel) U U U U U ?_)) <;> (first | refine aL U ?_ | (refine aP U ?_; refine aU (by decide +kernel) U U U U U ?_)) <;> (first | refine aL U ?_ | (refine aP U ?_; refine aU (by decide +kernel) U U U U U ?_)) <;> (first | refine aL U ?_ | (refine aP U ?_; refine aU (by decide +kernel) U U U U U ?_)) <;> (first | refine aL U ?_ | (refine aP U ?_; refine aU (by decide +kernel) U U U U U ?_)) <;> (first | refine aL U ?_ | (refine aP U ?_; refine aU (by decide +kernel) U U U U U ?_)) <;> (first | refine aL U ?_ | (refine aP U ?_; refine aU (by decide +kernel) U U U U U ?_)) <;> (first | refine aL U ?_ | (refine aP U ?_; refine aU (by decide +kernel) U (bq U U U U U ‹_›) U U U ?_)) <;> (first | refine aL U ?_ | (refine aP U ?_; refine aU (by decide +kernel) U U U U U ?_)) <;> (first | refine aL U ?_ | (refine aP U ?_; refine aU (by decide +kernel) U U U U U ?_)) <;> (first | refine aL U ?_ | (refine aP U ?_; refine qd (by decide +kernel) U U U U U (fun _ => ?_) (fun _ => ?_))) <;> (first | refine aL U ?_ | (refine aP U ?_; refine aU (by decide +kernel) U (aa U U U U ‹_›) U U U ?_)) <;> (first | refine aL U ?_ | (refine aP U ?_; refine aU (by decide +kernel) U U U U U ?_)) <;> (first | refine aL U ?_ | (refine aP U ?_; refine dA (by decide +kernel) U (fun _ => ?_) (fun _ => ?_))) <;> refine Uo U U (Uo U U (Un ?_))) | apply am))
  all_goals exact ⟨.inl rfl, Eq.trans (b := some (AV.bool _, _)) rfl (by clear hone1 hone0; grind [cw, aI, fe])⟩
 ·by_cases hn : n >= 0
  ·have c1 : decide (n >= 0) = true := decide_eq_true hn
   have c2 : decide (n < ((ii vs).length : Int)) = false := decide_eq_false (by rw [hvl]; omega);apply ai Tryz.func155 U (Nb U) U U;(repeat' (first | apply ab | refine Wr 0 U U ?_ | (refine Wd 1 [0,1,3,7,15,31,15,79,255,511,1023,2047,4095,8191,2047,2047,2047,67583,231423,493567,1017855,2066431,4163583,8374271,16777215,33554431,67108863] U U (by decide +kernel) ?_;refine Uo U U (Uo U U (Ut U U ‹_› (Uo U U (Uf U U U (Uf U U U (Uf U U U (Uf U U U (Uu U U ‹_› (Uo U U (Uo U U (Uk U (Uk U (Uk U (Uk U (Uk U (Uk U (Uk U (Uk U (Uk U (Uk U (Uk U (Uk U (Uk U (Uk U (Uo U U (Uo U U (Un ?_)))))))))))))))))))))))))))) | apply am))
   all_goals exact ⟨.inl rfl, Eq.trans (b := some (AV.bool _, _)) rfl (by rw [hvl] at c2; simp [cw, c1, c2])⟩
  ·have c1 : decide (n >= 0) = false := decide_eq_false hn
   apply ai Tryz.func155 U (Nb U) U U;(repeat' (first | apply ab | refine Wr 0 U U ?_ | (refine Wd 1 [0,1,3,7,15,31,15,79,255,511,1023,2047,4095,8191,2047,2047,2047,67583,231423,493567,1017855,2066431,4163583,8374271,16777215,33554431,67108863] U U (by decide +kernel) ?_;refine Uo U U (Uo U U (Uu U U ‹_› (Uo U U (Uk U (Uk U (Uk U (Uk U (Uk U (Uo U U (Uo U U (Uk U (Uk U (Uk U (Uk U (Uk U (Uk U (Uk U (Uk U (Uk U (Uk U (Uk U (Uk U (Uk U (Uk U (Uo U U (Uo U U (Un ?_)))))))))))))))))))))))))))) | apply am))
   all_goals exact ⟨.inl rfl, Eq.trans (b := some (AV.bool _, _)) rfl (by simp [cw, c1])⟩
def nw (t e : List ay) : Bool := (t.length : Int) == 0 && (e.length : Int) == 0
def iP (vs : List bk) : ay -> Bool
 | .mk op n a t e =>
  if op = 0 then nw t e && cw vs n a.length 1 else if op = 1 then n == 0 && (a.length : Int) == 1 else if op = 2 then n == 0 && (a.length : Int) == 1 && (e.length : Int) == 0
  else if op = 3 then nw t e && decide (n >= 0) && decide (n <= 47) && (a.length : Int) == 1 else if op = 4 then nw t e && cw vs n a.length 0 else if op = 5 \/ op = 6 then nw t e && n == 0 && (a.length : Int) == 1 else false
theorem BK (vs : List bk) (s : ay) (k lo : Nat) (h : aj) : call Tryz.prog ba (k + 3) lo (.func 127) [.vs 3 (ii vs), .agg (ig s)] h = some (.bool (iP vs s), h) := by
 have hv1 := nv vs s 1 k h.length h;have hv0 := nv vs s 0 k h.length h;obtain ⟨op, n, a, t, e⟩ := s;dsimp only at hv1 hv0;have hal := dd a;have htl := eC t;have hel := eC e;apply ai Tryz.func127 U (Nb U) U U;(repeat' (first | apply ab | refine ah U U ?_ | refine af U U ?_ | refine Wr 0 U U ?_ | (refine Wo 1 U ?_;refine Tc 3 U (Ts U U (fun _ => ?_) (fun _ => ?_)) <;> refine Tc 4 U ?_ <;> (first | refine au U ?_ | (refine aK U ?_; refine aB U (fun _ => ?_) (fun _ => ?_))) <;> refine Tc 2 U (Tn ?_)) | refine Wr 2 U U ?_ | (refine Wo 3 U ?_;refine Ts U U (fun _ => ?_) (fun _ => ?_) <;> refine Tc 1 U (Tn ?_)) | (refine Wo 4 U ?_;refine Tc 4 U ?_ <;> (first | refine au U ?_ | (refine aK U ?_; refine aB (aa U U U U ‹_›) (fun _ => ?_) (fun _ => ?_))) <;> refine Tc 2 U (Tn ?_)) | (refine Wo 5 U ?_;refine Ts U U (fun _ => ?_) (fun _ => ?_) <;> refine Tc 1 U (Tn ?_)) | (refine Wo 6 U ?_;refine Tc 2 U (Ts U U (fun _ => ?_) (fun _ => ?_)) <;> refine Tc 4 U ?_ <;> (first | refine au U ?_ | (refine aK U ?_; refine aB U (fun _ => ?_) (fun _ => ?_))) <;> refine Tc 2 U (Tn ?_)) | (refine Wo 7 U ?_;refine Ts U U (fun _ => ?_) (fun _ => ?_) <;> refine Tc 1 U (Tn ?_)) | (refine Wo 8 U ?_;refine Tc 2 U (Ts U U (fun _ => ?_) (fun _ => ?_)) <;> refine Tc 4 U ?_ <;> (first | refine au U ?_ | (refine aK U ?_; refine aB U (fun _ => ?_) (fun _ => ?_))) <;> refine Tc 5 U ?_ <;> (first | refine au U ?_ | (refine aK U ?_; first | refine bi U ‹_› ?_ | refine aT U ‹_› ?_ | refine aB U (fun _ => ?_) (fun _ => ?_))) <;> refine Tc 2 U (Tn ?_)) | (refine Wo 9 U ?_;refine Ts U U (fun _ => ?_) (fun _ => ?_) <;> refine Tc 1 U (Tn ?_)) | (refine Wo 10 U ?_;refine Tc 4 U ?_ <;> (first | refine au U ?_ | (refine aK U ?_; refine aB U (fun _ => ?_) (fun _ => ?_))) <;> refine Tc 4 U ?_ <;> (first | refine au U ?_ | (refine aK U ?_; refine aB U (fun _ => ?_) (fun _ => ?_))) <;> refine Tc 5 U ?_ <;> (first | refine au U ?_ | (refine aK U ?_; refine aB U (fun _ => ?_) (fun _ => ?_))) <;> refine Tc 2 U (Tn ?_)) | (refine Wo 11 U ?_;refine Ts U U (fun _ => ?_) (fun _ => ?_) <;> refine Tc 1 U (Tn ?_)) | (refine Wo 12 U ?_;refine Tc 4 U ?_ <;> (first | refine au U ?_ | (refine aK U ?_; refine aB (aa U U U U ‹_›) (fun _ => ?_) (fun _ => ?_))) <;> refine Tc 2 U (Tn ?_)) | (refine Wo 13 U ?_;refine Ts U U (fun _ => ?_) (fun _ => ?_) <;> refine Tc 1 U (Tn ?_)) | (refine Wo 14 U ?_;refine Ts U U (fun _ => ?_) (fun _ => ?_) <;> refine Tc 1 U (Tn ?_)) | (refine Wo 15 U ?_;refine Tc 4 U ?_ <;> (first | refine au U ?_ | (refine aK U ?_; refine aB U (fun _ => ?_) (fun _ => ?_))) <;> refine Tc 5 U ?_ <;> (first | refine au U ?_ | (refine aK U ?_; refine aB U (fun _ => ?_) (fun _ => ?_))) <;> refine Tc 2 U (Tn ?_)) | refine Wr 16 U U ?_ | apply ak | apply ae | apply am))
 all_goals exact ⟨.inl rfl, Eq.trans (b := some (AV.bool _, _)) rfl (by clear hv1 hv0; grind [iP, nw])⟩
mutual
def dT (w : Int) (vs : List bk) : ay -> Bool
 | .mk op n a t e => iP vs (.mk op n a t e) && ce w vs t && ce w vs e && a.all (ks w vs 1)
def ce (w : Int) (vs : List bk) : List ay -> Bool
 | [] => true
 | s :: l => dT w vs s && ce w vs l
end
def rwS (h : aj) (lo : Nat) (w : Int) (vs : List bk) (l : List ay) (i : Int) (_ : Unit) : St :=
 {env := [(0, .v (.int .i64 w)), (1, .v (.vs 3 (ii vs))), (2, .v (.vs 5 (br l))), (7, .v (.int .i64 i))], loc := [], heap := h, inRound := false, lo := lo }
def rwI (h : aj) (lo : Nat) (w : Int) (vs : List bk) (l : List ay) (i j : Int) (_ : Unit) : St :=
 {env := [(0, .v (.int .i64 w)), (1, .v (.vs 3 (ii vs))), (2, .v (.vs 5 (br l))), (7, .v (.int .i64 i)), (8, .v (.int .i64 j))], loc := [], heap := h, inRound := false, lo := lo }
theorem rq (w : Int) (vs : List bk) : ∀ (k : Nat) (l : List ay), bA l + 20 <= k -> l.length < 9223372036854775808 -> eQ l -> ∀ (h : aj) (lo : Nat), call Tryz.prog ba k lo (.func 86) [.int .i64 w, .vs 3 (ii vs), .vs 5 (br l)] h = some (.bool (ce w vs l), h)
 | 0, l, hk, _, _, _, _ => by omega
 | k + 1, l, hk, hlen, hb, h, lo => by
  have hll := b9 l;apply ai Tryz.func86 U (Nb U) U U;(repeat' (first | apply ab | refine Wr 0 U U ?_ | refine Wr 1 U U ?_ | apply ae));apply cg (S := rwS h h.length w vs l) (l := l) (a0 := ()) (fun rest _ => ce w vs rest = ce w vs l) hlen (by omega) rfl rfl
  ·intro i st rest _ hi hd hil hJ
   have hlt := f5 hil;have hrow := de _ _ _ hi;have hmem := dY l i _ hi;have hbm := dt l i _ hb hi;have hH := BK vs st (k - 3) h.length h;rw [show k - 3 + 3 = k by omega] at hH
   obtain ⟨op, nn, a, t, e⟩ := st;rw [iy] at hmem;rw [kP] at hbm;obtain ⟨⟨ha1, ha2⟩, ⟨ht1, ht2⟩, he1, he2⟩ := hbm;have hla := bB a;rw [ce, dT] at hJ;have iht := rq w vs k t (by omega) ht1 ht2 h h.length;have ihe := rq w vs k e (by omega) he1 he2 h h.length;(repeat' (first | apply ab | refine ah U U ?_ | refine af U U ?_ | (refine Wo 2 U ?_;refine Tc 3 U (Tt U U ‹_› (Tn ?_))) | (refine Wo 4 U ?_;refine Tc 3 U (Tg U (aq U U U U U ‹_›) ?_) <;> refine Tg U U (Ts U (aa U U U U ‹_›) (fun _ => ?_) (fun _ => ?_)) <;> refine Tc 6 U ?_ <;> (first | refine au U ?_ | (refine aK U ?_; refine ev (aq U U U U U ‹_›) ?_)) <;> refine Tc 1 U ?_ <;> (first | refine au U ?_ | (refine aK U ?_; refine ev U ?_)) <;> (first | refine au U ?_ | (refine aK U ?_; refine aB (aa U U U U ‹_›) (fun _ => ?_) (fun _ => ?_))) <;> refine Tc 7 U ?_ <;> (first | refine au U ?_ | (refine aK U ?_; refine ev (aq U U U U U ‹_›) ?_)) <;> refine Tc 1 U ?_ <;> (first | refine au U ?_ | (refine aK U ?_; refine ev U ?_)) <;> (first | refine au U ?_ | (refine aK U ?_; refine aB (aa U U U U ‹_›) (fun _ => ?_) (fun _ => ?_))) <;> refine Tc 2 U (Tn ?_)) | refine Wr 5 U U ?_ | refine Wr 6 U U ?_ | apply ak | apply ae | apply am))
   case' refine_2 => skip
   all_goals first
    | (exact ⟨.inl rfl, Eq.trans (b := some (AV.bool _, _)) rfl (by rw [<- hJ]; clear hJ hH iht ihe; simp_all)⟩)
    | skip
   rename_i h1 h2 h3;rw [h1, h2, h3] at hJ;simp only [Bool.true_and] at hJ;apply cg (S := rwI h h.length w vs l i) (l := a) (a0 := ()) (fun r _ => (r.all (ks w vs 1) && ce w vs rest) = ce w vs l) ha1 (by omega) rfl hJ
   ·intro j e' rest' _ hj hd' hjl hJ'
    have hrj := bQ _ _ _ hj;have ihj := vo w vs 1 e' (k - 1) (by have := bX a j _ hj; omega) (bL a j _ ha2 hj) h h.length;rw [show k - 1 + 1 = k by omega] at ihj
    have hjt := di hjl;rw [List.all_cons] at hJ';obtain ⟨op', m', cp', l'⟩ := e';(repeat' (first | apply ab | refine ah U U ?_ | refine af U U ?_ | (refine Wo 7 U ?_;refine Tc 3 U (Tg U (aq U U U U U ‹_›) ?_) <;> refine Tc 1 U (Tg U U (Tc 1 U (Tt U U ‹_› (Tn ?_))))) | refine Wr 8 U U ?_ | (refine Wo 9 U ?_;refine Tc 4 U (Tg U (aq U U U U U ‹_›) ?_) <;> refine Tc 1 U (Tg U U (Tc 1 U (Tg U (aq U U U U U ‹_›) ?_))) <;> refine Tg U U (Ts U (aa U U U U ‹_›) (fun _ => ?_) (fun _ => ?_)) <;> refine Tc 1 U (Tn ?_)) | refine Wr 10 U U ?_ | apply ak | apply ae | apply am))
    ·rename_i hf; exact ⟨(), rfl, by rw [hf, Bool.true_and] at hJ'; exact hJ'⟩
    ·rename_i hf; exact ⟨.inl rfl, by rw [hf] at hJ'; rw [<- hJ']; simp only [Bool.false_and]; rfl⟩
   ·intro _ hJ'
    have hjt := dj (l := a);(repeat' (first | apply ab | refine af U U ?_ | (refine Wo 7 U ?_;refine Tc 3 U (Tg U (aq U U U U U ‹_›) ?_) <;> refine Tc 1 U (Tg U U (Tc 1 U (Tf U U ‹_› (Tn ?_))))) | refine Wr 3 U U ?_ | apply aC));exact ⟨(), rfl, by rw [<- hJ']; rfl⟩
  ·intro _ hJ
   have hlt := f8 (l := l);(repeat' (first | apply ab | refine af U U ?_ | (refine Wo 2 U ?_;refine Tc 3 U (Tf U U ‹_› (Tn ?_))) | refine Wr 11 U U ?_ | apply am | apply aC));exact ⟨.inl rfl, by rw [<- hJ]; rfl⟩
mutual
def Fa : ay -> Int -> Int
 | .mk _ _ _ t e, n => De (De n (IntKind.i64.wrap (1 + lh t 0))) (IntKind.i64.wrap (1 + lh e 0))
def lh : List ay -> Int -> Int
 | [], n => n
 | s :: l, n => lh l (Fa s n)
end
def dpS (h : aj) (lo : Nat) (l : List ay) (i : Int) (n : Int) : St :=
 {env := [(0, .v (.vs 5 (br l))), (3, .v (.int .i64 n)), (4, .v (.int .i64 i))], loc := [], heap := h, inRound := false, lo := lo }
theorem rr : ∀ (k : Nat) (l : List ay), bA l <= k -> l.length < 9223372036854775808 -> eQ l -> ∀ (h : aj) (lo : Nat), call Tryz.prog ba k lo (.func 85) [.vs 5 (br l)] h = some (.int .i64 (lh l 0), h)
 | 0, l, hk, _, _, _, _ => by have := b9 l; omega
 | k + 1, l, hk, hlen, hb, h, lo => by
  have hll := b9 l;apply ai Tryz.func85 U (Nb U) U U;(repeat' (first | apply ab | refine Wr 0 U U ?_ | refine Wr 1 U U ?_ | refine Wr 2 U U ?_ | apply ae));apply cg (S := dpS h h.length l) (l := l) (a0 := 0) (fun rest a => lh rest a = lh l 0) hlen (by omega) rfl rfl
  ·intro i st rest a hi hd hil hJ
   have hlt := f5 hil;have hrow := de _ _ _ hi;have hmem := dY l i _ hi;have hbm := dt l i _ hb hi;obtain ⟨op, nn, ar, t, e⟩ := st;rw [iy] at hmem;rw [kP] at hbm;obtain ⟨⟨ha1, ha2⟩, ⟨ht1, ht2⟩, he1, he2⟩ := hbm;have hla := bB ar;rw [lh, Fa] at hJ;have iht := rr k t (by omega) ht1 ht2 h h.length;have ihe := rr k e (by omega) he1 he2 h h.length;(repeat' (first | apply ab | refine ah U U ?_ | (refine Wo 3 U ?_;refine Tc 3 U (Tt U U ‹_› (Tn ?_))) | refine Wr 4 U U ?_ | (refine Wd 5 [0,0,0,6,14,30,62,126,0,0,768,1792,3840,8062,16254,32767,65535] U U (by decide +kernel) ?_;refine Uf U U U (Uf U U U (Uf U U U (Uf U (aq U U U U U ‹_›) U ?_))) <;> refine Uf U U U (Uf U U U (Uf U (aa U U U U ‹_›) U ?_)) <;> refine Uf U U U (Uf U U U (Uf U U U (Uf U (aq U U U U U ‹_›) U ?_))) <;> refine Uf U U U (Uf U U U (Uf U (aa U U U U ‹_›) U ?_)) <;> refine Uf U U U (Uo U U (Uo U U (Un ?_)))) | apply ak | apply ae));exact ⟨_, rfl, hJ⟩
  ·intro a hJ
   have hlt := f8 (l := l);(repeat' (first | apply ab | refine af U U ?_ | (refine Wo 3 U ?_;refine Tc 3 U (Tf U U ‹_› (Tn ?_))) | refine Wr 6 U U ?_ | apply am | apply aC));exact ⟨.inl rfl, by rw [<- hJ]; rfl⟩
mutual
def s8 : ay -> Bool
 | .mk op n _ t e => !(op == 3 && decide (n > 15)) && dL t && dL e
def dL : List ay -> Bool
 | [] => true
 | s :: l => s8 s && dL l
end
def lwS (h : aj) (lo : Nat) (l : List ay) (i : Int) (_ : Unit) : St :=
 {env := [(0, .v (.vs 5 (br l))), (3, .v (.int .i64 i))], loc := [], heap := h, inRound := false, lo := lo }
theorem vp : ∀ (k : Nat) (l : List ay), bA l <= k -> l.length < 9223372036854775808 -> eQ l -> ∀ (h : aj) (lo : Nat), call Tryz.prog ba k lo (.func 87) [.vs 5 (br l)] h = some (.bool (dL l), h)
 | 0, l, hk, _, _, _, _ => by have := b9 l; omega
 | k + 1, l, hk, hlen, hb, h, lo => by
  have hll := b9 l;apply ai Tryz.func87 U (Nb U) U U;(repeat' (first | apply ab | refine Wr 0 U U ?_ | refine Wr 1 U U ?_ | apply ae));apply cg (S := lwS h h.length l) (l := l) (a0 := ()) (fun rest _ => dL rest = dL l) hlen (by omega) rfl rfl
  ·intro i st rest _ hi hd hil hJ
   have hlt := f5 hil;have hrow := de _ _ _ hi;have hmem := dY l i _ hi;have hbm := dt l i _ hb hi;obtain ⟨op, nn, ar, t, e⟩ := st;rw [iy] at hmem;rw [kP] at hbm;obtain ⟨⟨ha1, ha2⟩, ⟨ht1, ht2⟩, he1, he2⟩ := hbm;have hla := bB ar;rw [dL, s8] at hJ;have iht := vp k t (by omega) ht1 ht2 h h.length;have ihe := vp k e (by omega) he1 he2 h h.length;(repeat' (first | apply ab | refine ah U U ?_ | refine af U U ?_ | (refine Wo 2 U ?_;refine Tc 3 U (Tt U U ‹_› (Tn ?_))) | refine Wr 3 U U ?_ | (refine Wo 4 U ?_;refine Tc 2 U (Tg U (aq U U U U U ‹_›) ?_) <;> refine Tc 1 U (Tg U U (Ts U U (fun _ => ?_) (fun _ => ?_))) <;> refine Tc 3 U ?_ <;> (first | refine au U ?_ | (refine aK U ?_; refine ev (aq U U U U U ‹_›) ?_)) <;> refine Tc 1 U ?_ <;> (first | refine au U ?_ | (refine aK U ?_; refine ev U ?_)) <;> (first | refine au U ?_ | (refine aK U ?_; refine aB U (fun _ => ?_) (fun _ => ?_))) <;> refine Tc 4 U ?_ <;> (first | refine au U ?_ | (refine aK U ?_; refine ev (aq U U U U U ‹_›) ?_)) <;> refine Tc 1 U ?_ <;> (first | refine au U ?_ | (refine aK U ?_; refine ev U ?_)) <;> (first | refine au U ?_ | (refine aK U ?_; refine aB (aa U U U U ‹_›) (fun _ => ?_) (fun _ => ?_))) <;> refine Tc 5 U ?_ <;> (first | refine au U ?_ | (refine aK U ?_; refine ev (aq U U U U U ‹_›) ?_)) <;> refine Tc 1 U ?_ <;> (first | refine au U ?_ | (refine aK U ?_; refine ev U ?_)) <;> (first | refine au U ?_ | (refine aK U ?_; refine aB (aa U U U U ‹_›) (fun _ => ?_) (fun _ => ?_))) <;> refine Tc 2 U (Tn ?_)) | refine Wr 5 U U ?_ | apply ak | apply ae | apply am))
   all_goals first
    | exact ⟨(), rfl, by rw [<- hJ]; clear hJ iht ihe; simp_all⟩
    | exact ⟨.inl rfl, Eq.trans (b := some (AV.bool _, _)) rfl (by rw [<- hJ]; clear hJ iht ihe; simp_all)⟩
  ·intro _ hJ
   have hlt := f8 (l := l);(repeat' (first | apply ab | refine af U U ?_ | (refine Wo 2 U ?_;refine Tc 3 U (Tf U U ‹_› (Tn ?_))) | refine Wr 6 U U ?_ | apply am | apply aC));exact ⟨.inl rfl, by rw [<- hJ]; rfl⟩
def iF (p : bp) : Bool := iz p.width p.vars && pL p.body 400 && decide (lh p.body 0 <= 16) && ce p.width p.vars p.body
theorem Fb (p : bp) (k : Nat) (hk : bA p.body + 60 <= k) (hb : lB p) (h : aj) (lo : Nat) : call Tryz.prog ba (k + 1) lo (.func 42) [.agg (bY p)] h = some (.bool (iF p), h) := by
 obtain ⟨w, vs, body⟩ := p;dsimp only at hk;obtain ⟨hb1, hb2, hb3⟩ := hb;dsimp only at hb1 hb2 hb3;have h1 := BG w vs (k - 1) (by omega) h h.length;have h2 := ub (k - 1) h h.length body (by omega) hb2 hb3 400;have h3 := rr k body (by omega) hb2 hb3 h h.length;have h4 := rq w vs k body (by omega) hb2 hb3 h h.length;rw [show k - 1 + 1 = k by omega] at h1 h2
 apply ai Tryz.func42 U (Nb U) U U;(repeat' (first | apply ab | refine Wr 0 U U ?_ | (refine Wo 1 U ?_;refine Tc 4 U (Ts U (aa U U U U ‹_›) (fun _ => ?_) (fun _ => ?_)) <;> refine Tc 3 U ?_ <;> (first | refine au U ?_ | (refine aK U ?_; refine aB (aa U U U U ‹_›) (fun _ => ?_) (fun _ => ?_))) <;> refine Tc 4 U ?_ <;> (first | refine au U ?_ | (refine aK U ?_; refine ev (aa U U U U ‹_›) ?_)) <;> (first | refine au U ?_ | (refine aK U ?_; refine aB U (fun _ => ?_) (fun _ => ?_))) <;> refine Tc 8 U ?_ <;> (first | refine au U ?_ | (refine aK U ?_; refine aB (aa U U U U ‹_›) (fun _ => ?_) (fun _ => ?_))) <;> refine Tc 2 U (Tn ?_)) | apply am))
 all_goals exact ⟨.inl rfl, Eq.trans (b := some (AV.bool _, _)) rfl (by simp [iF, *])⟩
def bt (p : bp) : Bool := p.vars.all (fun v => !decide (v.level > 15)) && dL p.body
def sgS (h : aj) (lo : Nat) (p : bp) (i : Int) (_ : Unit) : St :=
 {env := [(1, .p 1 0), (3, .v (.int .i64 i))], loc := [(1, bY p)], heap := h, inRound := false, lo := lo }
theorem pM (p : bp) (k : Nat) (hk : bA p.body + p.vars.length + 60 <= k) (hb : lB p) (h : aj) (lo : Nat) : call Tryz.prog ba (k + 1) lo (.func 43) [.agg (bY p)] h = some (.bool (bt p), h) := by
 obtain ⟨w, vs, body⟩ := p;dsimp only at hk;obtain ⟨hb1, hb2, hb3⟩ := hb;dsimp only at hb1 hb2 hb3;have h4 := vp k body (by omega) hb2 hb3 h h.length;have hR : (vs.all (fun v => !decide (v.level > 15)) && dL body) = bt ⟨w, vs, body⟩ := rfl;generalize bt ⟨w, vs, body⟩ = R at hR;apply ai Tryz.func43 U (Nb U) U U;(repeat' (first | apply ab | refine Wr 0 U U ?_ | refine Wr 1 U U ?_ | apply ae));apply cg (S := sgS h h.length ⟨w, vs, body⟩) (l := vs) (a0 := ()) (fun rest _ => (rest.all (fun v => !decide (v.level > 15)) && dL body) = R) hb1.1 (by omega) rfl hR
 ·intro i v rest _ hi hd hil hJ
  have hrow := gk hi;have hlt := ld hil;rw [List.all_cons] at hJ;obtain ⟨nm, level, cells⟩ := v;dsimp only at hJ;(repeat' (first | apply ab | refine ah U U ?_ | refine af U U ?_ | (refine Wo 2 U ?_;refine Tc 4 U (Tt U U ‹_› (Tn ?_))) | refine Wr 3 U U ?_ | (refine Wo 4 U ?_;refine Tc 3 U (Tg U (aq U U U U U ‹_›) ?_) <;> refine Tc 1 U (Tg U U (Ts U U (fun _ => ?_) (fun _ => ?_))) <;> refine Tn ?_) | refine Wr 5 U U ?_ | apply ak | apply ae | apply am))
  ·rename_i hf; exact ⟨.inl rfl, by rw [hf] at hJ; rw [<- hJ]; simp only [Bool.not_true, Bool.false_and]; rfl⟩
  ·rename_i hf; exact ⟨(), rfl, by rw [hf] at hJ; simpa using hJ⟩
 ·intro _ hJ
  have hlt := lf (l := vs);(repeat' (first | apply ab | refine af U U ?_ | (refine Wo 2 U ?_;refine Tc 4 U (Tf U U ‹_› (Tn ?_))) | (refine Wo 6 U ?_;refine Tc 2 U (Ts U (aa U U U U ‹_›) (fun _ => ?_) (fun _ => ?_)) <;> refine Tc 1 U (Tn ?_)) | apply am | apply aC))
  all_goals exact ⟨.inl rfl, Eq.trans (b := some (AV.bool _, _)) rfl (by rw [<- hJ]; simp [*])⟩
def cx (p : bp) : Int := if iF p then (if bt p then 0 else 1) else 30
theorem BL (p : bp) (k : Nat) (hk : bA p.body + p.vars.length + 70 <= k) (hb : lB p) (h : aj) (lo : Nat) : call Tryz.prog ba (k + 1) lo (.func 8) [.agg (bY p)] h = some (.int .i64 (cx p), h) := by
 have h1 := Fb p (k - 1) (by omega) hb h h.length;have h2 := pM p (k - 1) (by omega) hb h h.length;rw [show k - 1 + 1 = k by omega] at h1 h2
 obtain ⟨w, vs, body⟩ := p;apply ai Tryz.func8 U (Nb U) U U;(repeat' (first | apply ab | refine ah U U ?_ | refine af U U ?_ | refine Wr 0 U U ?_ | (refine Wo 1 U ?_;refine Tc 1 U (Ts U (aa U U U U ‹_›) (fun _ => ?_) (fun _ => ?_)) <;> refine Tc 1 U (Tn ?_)) | refine Wr 2 U U ?_ | (refine Wo 3 U ?_;refine Tc 1 U (Ts U (aa U U U U ‹_›) (fun _ => ?_) (fun _ => ?_)) <;> refine Tc 1 U (Tn ?_)) | refine Wr 4 U U ?_ | refine Wr 5 U U ?_ | apply ak | apply am))
 all_goals exact ⟨.inl rfl, Eq.trans (b := some (AV.int .i64 _, _)) rfl (by simp [cx, *])⟩
theorem eo {n : Int} (h1 : -4611686018427387904 <= n) (h2 : n < 4611686018427387904) : IntKind.i64.wrap n = n := wrap_i64 (by omega) (by omega)
theorem vq (a b : Int) : De a b = max a b := by
 unfold De;simp only [decide_eq_true_eq]
 split <;> omega
mutual
def l8 : aF -> Nat
 | .mk _ _ _ es => dn es + 1
def dn : List aF -> Nat
 | [] => 0
 | e :: es => l8 e + dn es
end
mutual
def zn : aF -> Nat
 | .mk _ _ _ es => kJ es + 1
def kJ : List aF -> Nat
 | [] => 0
 | e :: es => max (zn e) (kJ es)
end
theorem AA (e : aF) : 1 <= l8 e := by cases e; rw [l8]; omega
mutual
theorem Df : ∀ e : aF, zn e <= l8 e
 | .mk _ _ _ es => by rw [zn, l8]; have := AB es; omega
theorem AB : ∀ es : List aF, kJ es <= dn es
 | [] => by rw [kJ, dn]; omega
 | e :: es => by rw [kJ, dn]; have := Df e; have := AB es; omega
end
mutual
theorem wR : ∀ (e : aF) (m : Int), 0 <= m -> m < 4611686018427387904 -> fM e m = max (m - l8 e) 0
 | .mk op n c es, m, h0, h1 => by
  rw [fM, l8]
  split
  ·omega
  ·rw [eo (by omega) (by omega), oN es _ (by omega) (by omega)]; omega
theorem oN : ∀ (es : List aF) (m : Int), 0 <= m -> m < 4611686018427387904 -> cD es m = max (m - dn es) 0
 | [], m, h0, h1 => by rw [cD, dn]; omega
 | e :: es, m, h0, h1 => by rw [cD, dn, wR e m h0 h1, oN es _ (by omega) (by omega)]; omega
end
theorem wS (e : aF) (b : Int) (h0 : 0 <= b) (h1 : b < 100000) : l7 e b = decide ((l8 e : Int) <= b) := by
 unfold l7;rw [eo (by omega) (by omega), wR e _ (by omega) (by omega)]
 by_cases h : (l8 e : Int) <= b
 ·rw [decide_eq_true h, decide_eq_true (by omega)]
 ·rw [decide_eq_false h, decide_eq_false (by omega)]
mutual
theorem ui : ∀ e : aF, zn e < 100000 -> oL e = zn e
 | .mk op n c es, h => by
  rw [zn] at h;rw [oL, zn, rt es 0 (by omega) (by omega) (by omega), eo (by omega) (by omega)]; omega
theorem rt : ∀ (es : List aF) (n : Int), kJ es < 100000 -> 0 <= n -> n < 100000 -> kr es n = max n (kJ es)
 | [], n, h, h0, h1 => by rw [kr, kJ]; omega
 | e :: es, n, h, h0, h1 => by
  rw [kJ] at h;rw [kr, kJ, vq, ui e (by omega), rt es _ (by omega) (by omega) (by omega)]; omega
end
mutual
theorem uj : ∀ e : aF, l8 e < 1000000 -> kq e = l8 e
 | .mk op n c es, h => by
  rw [l8] at h;rw [kq, l8, ru es 1 (by omega) (by omega)]; omega
theorem ru : ∀ (es : List aF) (n : Int), 0 <= n -> n + dn es < 1000000 -> gU es n = n + dn es
 | [], n, h0, h1 => by rw [gU, dn]; omega
 | e :: es, n, h0, h1 => by
  rw [dn] at h1;rw [gU, dn, uj e (by omega), eo (by omega) (by omega), ru es _ (by omega) (by omega)]; omega
end
theorem GP {w : Int} (h1 : 1 <= w) (h2 : w <= 8) : In w = 2 ^ w.toNat := by
 have : w = 1 \/ w = 2 \/ w = 3 \/ w = 4 \/ w = 5 \/ w = 6 \/ w = 7 \/ w = 8 := by omega
 rcases this with rfl | rfl | rfl | rfl | rfl | rfl | rfl | rfl <;> rfl
theorem Fc {w : Int} (h1 : 1 <= w) (h2 : w <= 8) (vs : List bk) (c : Int) (e : aF) : ((gG vs e == (match e with | .mk _ _ _ es => (es.length : Int))) && nr w c e) = kG w vs c e := by
 obtain ⟨op, n, cp, es⟩ := e;have hp := GP h1 h2;simp only [gG, nr, kG, ua, uc, kp, E7, fe, hp];rw [decide_eq_true (show w >= 1 from h1), decide_eq_true (show w <= 8 from h2)]
 by_cases o0 : op = 0
 ·subst o0; grind
 by_cases o1 : op = 1
 ·subst o1; grind
 grind
def du (need : Nat) (ok : Bool) (deep : Int) (d : Nat) (left : Int) : Bool := decide ((need : Int) <= left) && decide (deep + d <= 17) && ok
mutual
theorem rz {w : Int} (h1 : 1 <= w) (h2 : w <= 8) (vs : List bk) (c : Int) : ∀ (e : aF) (deep left : Int), 0 <= deep -> deep < 1000 -> 0 <= left -> left < 1000000 ->
  (iN w vs c e deep left).1 = du (l8 e) (df w vs c e) deep (zn e) left /\ ((iN w vs c e deep left).1 = true -> (iN w vs c e deep left).2 = left - l8 e)
 | .mk op n cp es, deep, left, d0, d1, l0, l1 => by
  have hn := Fc h1 h2 vs c (.mk op n cp es);dsimp only at hn;rw [iN, df, l8, zn, <- hn, eo (n := left - 1) (by omega) (by omega)];unfold zm
  by_cases hl : left - 1 < 0
  ·simp only [decide_eq_true hl, Bool.true_or, if_true]
   refine ⟨?_, by simp⟩
   unfold du;rw [decide_eq_false (by omega)]; simp
  by_cases hd : deep > 16
  ·simp only [decide_eq_true hd, Bool.true_or, Bool.or_true, if_true]
   refine ⟨?_, by simp⟩
   unfold du;rw [decide_eq_false (show ¬ deep + ((kJ es + 1 : Nat) : Int) <= 17 by omega)]; simp
  cases ha : (gG vs (.mk op n cp es) == (es.length : Int)) with
  | false =>
   have : (gG vs (.mk op n cp es) != (es.length : Int)) = true := by simp [bne, ha]
   simp only [this, Bool.or_true, if_true];refine ⟨?_, by simp⟩
   unfold du; simp
  | true =>
   have : (gG vs (.mk op n cp es) != (es.length : Int)) = false := by simp [bne, ha]
   simp only [this, decide_eq_false hl, decide_eq_false hd, Bool.or_false, Bool.false_eq_true, if_false];cases hp : nr w c (.mk op n cp es) with
   | false =>
    simp only [Bool.false_eq_true, if_false];refine ⟨?_, by simp⟩
    unfold du; simp
   | true =>
    simp only [if_true];rw [eo (n := deep + 1) (by omega) (by omega)];obtain ⟨g1, g2⟩ := uk h1 h2 vs c es (deep + 1) (left - 1) (by omega) (by omega) (by omega) (by omega);refine ⟨?_, fun h => ?_⟩
    ·rw [g1]
     unfold du;rw [show decide (((dn es + 1 : Nat) : Int) <= left) = decide (((dn es : Nat) : Int) <= left - 1) from by rw [decide_eq_decide]; omega, show decide (deep + ((kJ es + 1 : Nat) : Int) <= 17) = decide (deep + 1 + ((kJ es : Nat) : Int) <= 17) from by rw [decide_eq_decide]; omega]
     simp
    ·rw [g2 h]; omega
theorem uk {w : Int} (h1 : 1 <= w) (h2 : w <= 8) (vs : List bk) (c : Int) : ∀ (es : List aF) (deep left : Int), 0 <= deep -> deep <= 17 -> 0 <= left -> left < 1000000 ->
  (ji w vs c es deep left).1 = du (dn es) (db w vs c es) deep (kJ es) left /\ ((ji w vs c es deep left).1 = true -> (ji w vs c es deep left).2 = left - dn es)
 | [], deep, left, d0, d1, l0, l1 => by
  rw [ji, db, dn, kJ];unfold du;refine ⟨?_, fun _ => by omega⟩
  rw [decide_eq_true (by omega), decide_eq_true (by omega)]; rfl
 | e :: es, deep, left, d0, d1, l0, l1 => by
  obtain ⟨g1, g2⟩ := rz h1 h2 vs c e deep left (by omega) (by omega) (by omega) (by omega);rw [ji, db, dn, kJ];have hpos := AA e;cases hb : (iN w vs c e deep left).1 with
  | false =>
   simp only [Bool.false_eq_true, if_false];refine ⟨?_, by simp⟩
   rw [hb] at g1;unfold du at g1 ⊢;revert g1;cases df w vs c e <;> simp <;> intros <;> omega
  | true =>
   simp only [if_true];rw [hb] at g1;unfold du at g1;simp only [Bool.true_eq, Bool.and_eq_true, decide_eq_true_eq] at g1;obtain ⟨⟨g3, g4⟩, g5⟩ := g1;rw [g2 hb];obtain ⟨k1, k2⟩ := uk h1 h2 vs c es deep (left - l8 e) (by omega) (by omega) (by omega) (by omega);refine ⟨?_, fun h => ?_⟩
   ·rw [k1, g5]
    unfold du;rw [show decide (((l8 e + dn es : Nat) : Int) <= left) = decide (((dn es : Nat) : Int) <= left - l8 e) from by rw [decide_eq_decide]; omega, show decide (deep + ((max (zn e) (kJ es) : Nat) : Int) <= 17) = decide (deep + ((kJ es : Nat) : Int) <= 17) from by rw [decide_eq_decide]; omega]
    simp
   ·rw [k2 h]; omega
end
theorem vr (w : Int) (vs : List bk) (c : Int) (e : aF) : ks w vs c e = (decide (l8 e <= 400) && decide (zn e <= 16) && df w vs c e) := by
 unfold ks;rw [wS e 400 (by omega) (by omega)]
 by_cases h : l8 e <= 400
 ·have := Df e
  rw [ui e (by omega)];congr 2 <;> (rw [decide_eq_decide]; omega)
 ·rw [decide_eq_false h, decide_eq_false (by omega)]; simp
theorem BM (w : Int) (vs : List bk) (e : aF) (hh : cV w vs = true) : dC w vs 1 e = if ks w vs 1 e = true then 0 else 20 := by
 obtain ⟨w1, w2⟩ := gV hh;unfold dC;rw [hh, if_pos (by simp), (rz w1 w2 vs 1 e 1 400 (by omega) (by omega) (by omega) (by omega)).1, vr];unfold du;rw [show decide ((l8 e : Int) <= 400) = decide (l8 e <= 400) from by rw [decide_eq_decide]; omega, show decide (1 + (zn e : Int) <= 17) = decide (zn e <= 16) from by rw [decide_eq_decide]; omega]
theorem zo (a b : ByteArray) : (a == b) = decide (a = b) := by
 obtain ⟨a⟩ := a;obtain ⟨b⟩ := b;show (a == b) = _
 by_cases h : a = b
 ·subst h; simp
 ·rw [beq_eq_false_iff_ne.2 h, decide_eq_false (fun e => h (by injection e))]
theorem zp (a b : ByteArray) : (a.toList == b.toList) = (a == b) := by
 rw [zo]
 by_cases h : a = b
 ·subst h; simp
 ·rw [decide_eq_false h, beq_eq_false_iff_ne.2 fun e => h (zi e)]
theorem wT (nm : ByteArray) (v : bk) (r : List bk) (hv : v.name = nm) : ∀ (pre : List bk) (j : Int), ((pre.map (·.name)).contains nm = false -> kH nm (pre ++ v :: r) j = j + pre.length) /\ ((pre.map (·.name)).contains nm = true -> kH nm (pre ++ v :: r) j < j + pre.length)
 | [], j => by simp [kH, hv]
 | u :: pre, j => by
  obtain ⟨g1, g2⟩ := wT nm v r hv pre (j + 1);simp only [List.map_cons, List.contains_cons, List.cons_append, kH, zp, List.length_cons];cases h : (u.name == nm) with
  | true =>
   have : (nm == u.name) = true := by rw [zo] at h ⊢; simp at h ⊢; exact h.symm
   simp [this]; omega
  | false =>
   have : (nm == u.name) = false := by rw [zo] at h ⊢; simp at h ⊢; exact fun e => h e.symm
   simp only [this, Bool.false_or, Bool.false_eq_true, if_false];refine ⟨fun e => ?_, fun e => ?_⟩
   ·rw [g1 e]; omega
   ·have := g2 e; omega
theorem wU : ∀ (rest pre : List bk) (sum : Int), jh (pre.map (·.name)) rest sum = ey (pre ++ rest) rest pre.length sum
 | [], pre, sum => by
  rw [jh, ey]
  by_cases h : sum <= 48
  ·rw [decide_eq_true h, decide_eq_false (by omega)]; rfl
  ·rw [decide_eq_false h, decide_eq_true (by omega)]; rfl
 | v :: r, pre, sum => by
  have ih := wU r (pre ++ [v]) (IntKind.i64.wrap (sum + v.cells));rw [jh, ey];simp only [List.map_append, List.map_cons, List.map_nil, List.append_assoc, List.cons_append, List.nil_append, List.length_append, List.length_cons, List.length_nil] at ih;rw [ih];obtain ⟨g1, g2⟩ := wT v.name v r rfl pre 0;rw [show (((pre.length + (0 + 1) : Nat) : Int)) = (pre.length : Int) + 1 by omega]
  cases hc : (pre.map (·.name)).contains v.name with
  | true =>
   have := g2 hc;have h0 : (kH v.name (pre ++ v :: r) 0 == (pre.length : Int)) = false := by rw [beq_eq_false_iff_ne]; omega
   rw [h0]; simp
  | false =>
   have := g1 hc;have h0 : (kH v.name (pre ++ v :: r) 0 == (pre.length : Int)) = true := by rw [beq_iff_eq]; omega
   rw [h0]; simp
theorem vt (w : Int) (vs : List bk) : cV w vs = iz w vs := by
 unfold cV iz kp;have := wU vs [] 0;simp only [List.map_nil, List.nil_append, List.length_nil] at this;rw [this];rw [show (!decide (w < 1)) = decide (w >= 1) from by by_cases h : w < 1 <;> simp [h] <;> omega, show (!decide (w > 8)) = decide (w <= 8) from by by_cases h : w > 8 <;> simp [h] <;> omega]
 rfl
mutual
def jw : ay -> Nat
 | .mk _ _ a t e => 1 + dn a + bu t + bu e
def bu : List ay -> Nat
 | [] => 0
 | s :: l => jw s + bu l
end
mutual
def Dg : ay -> Nat
 | .mk _ _ _ t e => 1 + max (kK t) (kK e)
def kK : List ay -> Nat
 | [] => 0
 | s :: l => max (Dg s) (kK l)
end
theorem Fd (s : ay) : 1 <= jw s := by cases s; rw [jw]; omega
mutual
theorem GQ : ∀ s : ay, Dg s <= jw s
 | .mk _ _ a t e => by rw [Dg, jw]; have := qf t; have := qf e; omega
theorem qf : ∀ l : List ay, kK l <= bu l
 | [] => by rw [kK, bu]; omega
 | s :: l => by rw [kK, bu]; have := GQ s; have := qf l; omega
end
mutual
theorem BN : ∀ (s : ay) (m : Int), 0 < m -> m < 4611686018427387904 -> fY s m = max (m - jw s) 0
 | .mk op n a t e, m, h0, h1 => by
  rw [fY, jw, eo (by omega) (by omega), oN a _ (by omega) (by omega), ku t _ (by omega) (by omega), ku e _ (by omega) (by omega)]; omega
theorem ku : ∀ (l : List ay) (m : Int), 0 <= m -> m < 4611686018427387904 -> cU l m = max (m - bu l) 0
 | [], m, h0, h1 => by rw [cU, bu]; omega
 | s :: l, m, h0, h1 => by
  rw [cU, bu]
  split
  ·rw [BN s m (by omega) h1, ku l _ (by omega) (by omega)]; omega
  ·omega
end
theorem ny (l : List ay) (b : Int) (h0 : 0 <= b) (h1 : b < 100000) : pL l b = decide ((bu l : Int) <= b) := by
 unfold pL;rw [eo (by omega) (by omega), ku l _ (by omega) (by omega)]
 by_cases h : (bu l : Int) <= b
 ·rw [decide_eq_true h, decide_eq_true (by omega)]
 ·rw [decide_eq_false h, decide_eq_false (by omega)]
mutual
theorem Fe : ∀ (s : ay) (n : Int), Dg s < 100000 -> 0 <= n -> n < 200000 -> Fa s n = max n (Dg s)
 | .mk op m a t e, n, h, h0, h1 => by
  rw [Dg] at h;rw [Fa, Dg, vq, vq, nA t 0 (by omega) (by omega) (by omega), nA e 0 (by omega) (by omega) (by omega), eo (by omega) (by omega), eo (by omega) (by omega)]; omega
theorem nA : ∀ (l : List ay) (n : Int), kK l < 100000 -> 0 <= n -> n < 200000 -> lh l n = max n (kK l)
 | [], n, h, h0, h1 => by rw [lh, kK]; omega
 | s :: l, n, h, h0, h1 => by
  rw [kK] at h;rw [lh, kK, Fe s n (by omega) h0 h1, nA l _ (by omega) (by omega) (by omega)]; omega
end
theorem wV (w : Int) (vs : List bk) (hh : cV w vs = true) : ∀ (a : List aF) (nd : Int), 0 <= nd -> nd + dn a < 1000000 -> (iO w vs a nd).1 = a.all (ks w vs 1) /\ ((iO w vs a nd).1 = true -> (iO w vs a nd).2 = nd + dn a)
 | [], nd, h0, h1 => by rw [iO, dn]; simp
 | e :: es, nd, h0, h1 => by
  rw [dn] at h1;rw [iO, dn, BM w vs e hh, List.all_cons];cases hi : ks w vs 1 e with
  | false => simp
  | true =>
   simp only [if_true, bne_self_eq_false, Bool.false_eq_true, if_false, Bool.true_and];rw [uj e (by omega), eo (by omega) (by omega)];obtain ⟨g1, g2⟩ := wV w vs hh es (nd + l8 e) (by omega) (by omega);exact ⟨g1, fun h => by rw [g2 h]; omega⟩
theorem zq {all vs : List bk} {i sum : Int} (h : ey all vs i sum = true) : ∀ v, v ∈ vs -> 1 <= v.cells := by
 induction vs generalizing i sum with
 | nil => intro v hv; cases hv
 | cons u r ih =>
  rw [ey] at h;simp only [Bool.and_eq_true] at h;obtain ⟨⟨⟨_, h2⟩, _⟩, h4⟩ := h;intro v hv;rcases List.mem_cons.1 hv with rfl | hv
  ·simp [rn] at h2; omega
  ·exact ih h4 v hv
theorem wW {vs : List bk} (hc : ∀ v, v ∈ vs -> 1 <= v.cells) {n : Int} (h0 : 0 <= n) (h1 : n < vs.length) : 1 <= aI vs n := by
 unfold aI;have : n.toNat < vs.length := by omega
 rw [List.getElem?_eq_getElem this];exact hc _ (List.getElem_mem this)
theorem Dh (vs : List bk) (n len more : Int) (h0 : 0 <= more) (h1 : more <= 1) : cw vs n len more = (decide (n >= 0) && decide (n < vs.length) && (len == more + (if aI vs n > 1 then 1 else 0))) := by
 unfold cw fe
 by_cases h : aI vs n > 1
 ·simp only [decide_eq_true h, if_true, if_pos h]; rw [eo (by omega) (by omega)]
 ·simp only [decide_eq_false h, Bool.false_eq_true, if_false, if_neg h]; rw [eo (by omega) (by omega)]
theorem Di {vs : List bk} (hc : ∀ v, v ∈ vs -> 1 <= v.cells) (nd : Int) (s : ay) : wO vs nd s = (decide (nd > 400) || !iP vs s) := by
 obtain ⟨op, n, a, t, e⟩ := s;have hp : 0 <= n -> n < vs.length -> 1 <= aI vs n := wW hc;unfold wO iP uh;dsimp only;rw [Dh vs n _ 1 (by omega) (by omega), Dh vs n _ 0 (by omega) (by omega)];have hcell : (dD vs n = 0 ↔ ¬ (0 <= n /\ n < vs.length)) /\ ((0 <= n /\ n < vs.length) -> dD vs n = aI vs n) := by
  unfold dD
  by_cases hr : 0 <= n /\ n < vs.length
  ·rw [if_pos hr]; have := hp hr.1 hr.2; exact ⟨⟨fun e => by omega, fun e => absurd hr e⟩, fun _ => rfl⟩
  ·rw [if_neg hr]; exact ⟨⟨fun _ => hr, fun _ => rfl⟩, fun e => absurd e hr⟩
 have hrg : (decide (n >= 0) && decide (n < vs.length)) = !(dD vs n == 0) := by
  by_cases hr : 0 <= n /\ n < vs.length
  ·rw [decide_eq_true hr.1, decide_eq_true hr.2, beq_eq_false_iff_ne.2 (fun e => (hcell.1.1 e) hr)]; rfl
  ·rw [beq_iff_eq.2 (hcell.1.2 hr)]
   by_cases h0 : 0 <= n
   ·rw [decide_eq_false (fun e => hr ⟨h0, e⟩)]; simp
   ·rw [decide_eq_false (show ¬ n >= 0 from h0)]; simp
 have hq : dD vs n ≠ 0 -> aI vs n = dD vs n := fun e => (hcell.2 (by
  by_cases hr : 0 <= n /\ n < vs.length
  ·exact hr
  ·exact absurd (hcell.1.2 hr) e)).symm
 rw [hrg];clear hrg hcell hp;unfold nw;generalize dD vs n = q at hq ⊢;generalize aI vs n = q' at hq ⊢;have ha0 : (0 : Int) <= a.length := by omega
 generalize (a.length : Int) = la at ha0 ⊢;have ht0 : (0 : Int) <= t.length := by omega
 have he0 : (0 : Int) <= e.length := by omega
 generalize (t.length : Int) = lt at ht0 ⊢;generalize (e.length : Int) = le at he0 ⊢
 by_cases hq0 : q = 0
 ·subst hq0
  clear hq
  by_cases o0 : op = 0
  ·subst o0; simp; grind
  by_cases o4 : op = 4
  ·subst o4; simp; grind
  grind
 ·have hqq := hq hq0
  subst hqq;clear hq
  by_cases hq1 : q' > 1
  ·by_cases o0 : op = 0
   ·subst o0; simp [hq0, hq1]; grind
   by_cases o4 : op = 4
   ·subst o4; simp [hq0, hq1]; grind
   grind
  ·by_cases o0 : op = 0
   ·subst o0; simp [hq0, hq1]; grind
   by_cases o4 : op = 4
   ·subst o4; simp [hq0, hq1]; grind
   grind
end Go.Proofs.YtelobnllkhnpaaaGreat.L
namespace Go.Ev
variable {P : Program} {C : dO} {K : Callee} {f : Nat} {s : St}
theorem l9 {o : Oper} {t u : Nat} {x y : Operand} {k : IntKind} {a b : Int} (ho : o.op = .binOp .quo t x y u) (hx : s.val x = some (.int k a)) (hy : s.val y = some (.int k b)) (hb : b ≠ 0) : aE C K f o s = some (s.putv o.dst (.int k (k.wrap (a.tdiv b)))) := by
 unfold aE;rw [ho];dsimp only;rw [hx, hy];dsimp only;have : binop C.tab C.eqs .quo t (.int k a) (.int k b) = some (.int k (k.wrap (a.tdiv b))) := by
  show (if k = k then qr .quo k a b else none) = _;rw [if_pos rfl];unfold qr;dsimp only;rw [if_neg hb]
 rw [this]
 rfl
theorem gu {o : Oper} {t u : Nat} {x y : Operand} {k : IntKind} {a b : Int} (ho : o.op = .binOp .rem t x y u) (hx : s.val x = some (.int k a)) (hy : s.val y = some (.int k b)) (hb : b ≠ 0) : aE C K f o s = some (s.putv o.dst (.int k (a.tmod b))) := by
 unfold aE;rw [ho];dsimp only;rw [hx, hy];dsimp only;have : binop C.tab C.eqs .rem t (.int k a) (.int k b) = some (.int k (a.tmod b)) := by
  show (if k = k then qr .rem k a b else none) = _;rw [if_pos rfl];unfold qr;dsimp only;rw [if_neg hb]
 rw [this]
 rfl
end Go.Ev
namespace Go.Proofs.YtelobnllkhnpaaaGreat.L
theorem vu {n i : Nat} (h : i < (List.range n).length) : decide ((i : Int) < (n : Int)) = true := decide_eq_true (by rw [List.length_range] at h; omega)
theorem vv {n : Nat} : decide (((List.range n).length : Int) < (n : Int)) = false := decide_eq_false (by rw [List.length_range]; omega)
theorem mA {n : Nat} (h : n <= 61) : (1 : Int) <= 2 ^ n /\ (2 : Int) ^ n <= 2305843009213693952 := by
 have h1 : 1 <= 2 ^ n := Nat.one_le_two_pow;have h2 : 2 ^ n <= 2 ^ 61 := Nat.pow_le_pow_right (by omega) h;have h3 : (2 : Nat) ^ 61 = 2305843009213693952 := rfl;rw [h3] at h2;have e : ((2 ^ n : Nat) : Int) = 2 ^ n := by simp
 omega
theorem vy (n : Nat) : (2 : Int) ^ n ≠ 0 := by
 have h1 : 1 <= 2 ^ n := Nat.one_le_two_pow;have e : ((2 ^ n : Nat) : Int) = 2 ^ n := by simp
 omega
def pwS (h : aj) (lo n : Nat) (i : Int) (p : Int) : St :=
 {env := [(0, .v (.int .i64 n)), (3, .v (.int .i64 p)), (4, .v (.int .i64 i))], loc := [], heap := h, inRound := false, lo := lo }
theorem gv (n : Nat) (hn : n <= 61) (k : Nat) (hk : n < k) (h : aj) (lo : Nat) : call Tryz.prog ba (k + 1) lo (.func 58) [.int .i64 n] h = some (.int .i64 (2 ^ n), h) := by
 apply ai Tryz.func58 U (Nb U) U U;(repeat' (first | apply ab | refine Wr 0 U U ?_ | refine Wr 1 U U ?_ | refine Wr 2 U U ?_ | apply ae));apply aS (S := pwS h h.length n) (l := List.range n) (a0 := 1) (fun i _ p => p = 2 ^ i) (by rw [List.length_range]; omega) (by rw [List.length_range]; omega) rfl rfl
 ·intro i x rest p hi hd hil hJ
  have hlt := vu hil;rw [List.length_range] at hil;(repeat' (first | apply ab | refine ah U U ?_ | (refine Wo 3 U ?_;refine Tc 2 U (Tt U U ‹_› (Tn ?_))) | refine Wr 4 U U ?_ | refine Wr 5 U U ?_ | apply ak | apply ae));refine ⟨_, rfl, ?_⟩;subst hJ;have := mA (n := i) (by omega);have := mA (n := i + 1) (by omega);have e : (2 : Int) * 2 ^ i = 2 ^ (i + 1) := by rw [Int.pow_succ, Int.mul_comm]
  rw [e, eo (by omega) (by omega)]
 ·intro p hJ
  have hlt := vv (n := n);(repeat' (first | apply ab | refine af U U ?_ | (refine Wo 3 U ?_;refine Tc 2 U (Tf U U ‹_› (Tn ?_))) | refine Wr 6 U U ?_ | apply am | apply aC));refine ⟨.inl rfl, ?_⟩;rw [hJ, List.length_range]
  rfl
def mB (w : Nat) : Int := 2 ^ w - 1
theorem vz (w : Nat) (hw : w <= 61) (k : Nat) (hk : w < k) (h : aj) (lo : Nat) : call Tryz.prog ba (k + 2) lo (.func 162) [.int .i64 w] h = some (.int .i64 (mB w), h) := by
 have hp := gv w hw k hk h h.length;have hl := mA hw;apply ai Tryz.func162 U (Nb U) U U;(repeat' (first | apply ab | refine Wr 0 U U ?_ | (refine Wo 1 U ?_;refine Tc 1 U (Tg U (aa U U U U ‹_›) ?_) <;> refine Tc 2 U (Tn ?_)) | apply am));exact ⟨.inl rfl, Eq.trans (b := some (AV.int .i64 _, _)) rfl (by rw [eo (by omega) (by omega)]; rfl)⟩
theorem Ff (w : Nat) (hw : w <= 8) (a : Int) (h0 : 0 <= a) (h1 : a < 2 ^ w) (k : Nat) (hk : w < k) (h : aj) (lo : Nat) : call Tryz.prog ba (k + 3) lo (.func 144) [.int .i64 w, .int .i64 a] h = some (.int .i64 (mB w - a), h) := by
 have hp := vz w (by omega) k hk h h.length;have hl := mA (n := w) (by omega);apply ai Tryz.func144 U (Nb U) U U;(repeat' (first | apply ab | refine Wr 0 U U ?_ | (refine Wo 1 U ?_;refine Tc 1 U (Tg U (aa U U U U ‹_›) ?_) <;> refine Tc 3 U (Tn ?_)) | apply am));exact ⟨.inl rfl, Eq.trans (b := some (AV.int .i64 _, _)) rfl (by rw [eo (by unfold mB; omega) (by unfold mB; omega)])⟩
def nB (a : Int) (i : Nat) : Int := a / 2 ^ i % 2
theorem qg (a : Int) (i : Nat) : nB a i = 0 \/ nB a i = 1 := by unfold nB; omega
theorem jx {a b : Int} (h : 0 <= a) : a.tdiv b = a / b := Int.tdiv_eq_ediv_of_nonneg h
theorem eD {a b : Int} (h : 0 <= a) : a.tmod b = a % b := Int.tmod_eq_emod_of_nonneg h
theorem qh (a : Int) (h0 : 0 <= a) (h1 : a < 4611686018427387904) (i : Nat) (hi : i <= 8) (k : Nat) (hk : i < k) (h : aj) (lo : Nat) : call Tryz.prog ba (k + 2) lo (.func 180) [.int .i64 a, .int .i64 i] h = some (.int .i64 (nB a i), h) := by
 have hp := gv i (by omega) k hk h h.length;have hne := vy i;have h2 : (2 : Int) ≠ 0 := by omega
 have hl := mA (n := i) (by omega);apply ai Tryz.func180 U (Nb U) U U;(repeat' (first | apply ab | refine Wr 0 U U ?_ | (refine Wo 1 U ?_;refine Tc 2 U (Tg U (aa U U U U ‹_›) ?_) <;> refine Tg U (l9 U U U ‹_›) ?_ <;> refine Tg U (gu U U U ‹_›) ?_ <;> refine Tc 1 U (Tn ?_)) | apply am));refine ⟨.inl rfl, Eq.trans (b := some (AV.int .i64 _, _)) rfl ?_⟩;have q1 : 0 <= a / 2 ^ i := Int.ediv_nonneg h0 (by omega);have q2 : a / 2 ^ i <= a := Int.ediv_le_self _ h0;rw [jx h0, eo (by omega) (by omega), eD q1]
 rfl
def pN (op x y : Int) : Int := if op = 7 then x * y else if op = 8 then x + y - x * y else (x + y) % 2
theorem Dj (op : Int) {x y : Int} (hx : x = 0 \/ x = 1) (hy : y = 0 \/ y = 1) : pN op x y = 0 \/ pN op x y = 1 := by
 unfold pN;rcases hx with rfl | rfl <;> rcases hy with rfl | rfl <;> split <;> (try split) <;> simp
theorem Dk (op : Int) {x y : Int} (hx : x = 0 \/ x = 1) (hy : y = 0 \/ y = 1) (k : Nat) (h : aj) (lo : Nat) : call Tryz.prog ba (k + 1) lo (.func 179) [.int .i64 op, .int .i64 x, .int .i64 y] h = some (.int .i64 (pN op x y), h) := by
 unfold pN;have h2 : (2 : Int) ≠ 0 := by omega
 cases o7 : (op == 7)
 ·cases o8 : (op == 8)
  ·rw [if_neg (by simpa using o7), if_neg (by simpa using o8)]
   rcases hx with rfl | rfl <;> rcases hy with rfl | rfl
   all_goals
    apply ai Tryz.func179 U (Nb U) U U;(repeat' (first | apply ab | refine af U U ?_ | refine Wr 0 U U ?_ | refine Wr 1 U U ?_ | (refine Wo 2 U ?_;refine Tf U U ‹_› (Tc 1 U (Tn ?_))) | (refine Wo 4 U ?_;refine Tf U U ‹_› (Tc 1 U (Tn ?_))) | (refine Wo 6 U ?_;refine Tc 3 U (Tg U (gu U U U ‹_›) ?_) <;> refine Tc 1 U (Tn ?_)) | apply ak | apply ae | apply am));exact ⟨.inl rfl, rfl⟩
  ·rw [if_neg (by simpa using o7), if_pos (by simpa using o8)]
   rcases hx with rfl | rfl <;> rcases hy with rfl | rfl
   all_goals
    apply ai Tryz.func179 U (Nb U) U U;(repeat' (first | apply ab | refine ah U U ?_ | refine af U U ?_ | refine Wr 0 U U ?_ | refine Wr 1 U U ?_ | (refine Wo 2 U ?_;refine Tf U U ‹_› (Tc 1 U (Tn ?_))) | (refine Wo 4 U ?_;refine Tt U U ‹_› (Tc 1 U (Tn ?_))) | refine Wr 5 U U ?_ | apply ae | apply am));exact ⟨.inl rfl, rfl⟩
 ·rw [if_pos (by simpa using o7)]
  rcases hx with rfl | rfl <;> rcases hy with rfl | rfl
  all_goals
   apply ai Tryz.func179 U (Nb U) U U;(repeat' (first | apply ab | refine ah U U ?_ | refine Wr 0 U U ?_ | refine Wr 1 U U ?_ | (refine Wo 2 U ?_;refine Tt U U ‹_› (Tc 1 U (Tn ?_))) | refine Wr 3 U U ?_ | apply ae | apply am));exact ⟨.inl rfl, rfl⟩
section
variable {σ : Type} (yld : σ -> Int -> ay -> Bool × σ)
mutual
def iQ : ay -> σ -> Int -> Bool × σ × Int
 | .mk op nn a t e, x, n =>
  if (yld x (IntKind.i64.wrap (IntKind.i64.wrap (n + 1) - 1)) (.mk op nn a t e)).1 = true then
   (
    let T := bR t (yld x (IntKind.i64.wrap (IntKind.i64.wrap (n + 1) - 1)) (.mk op nn a t e)).2 (IntKind.i64.wrap (n + 1))
    if T.1 = true then bR e T.2.1 T.2.2 else T)
  else (false, (yld x (IntKind.i64.wrap (IntKind.i64.wrap (n + 1) - 1)) (.mk op nn a t e)).2, IntKind.i64.wrap (n + 1))
def bR : List ay -> σ -> Int -> Bool × σ × Int
 | [], x, n => (true, x, n)
 | s :: l, x, n => let T := iQ s x n
  if T.1 = true then bR l T.2.1 T.2.2 else T
end
variable (ok : σ -> Prop)
mutual
theorem wX (hok : ∀ x n s, ok x -> (yld x n s).1 = true -> ok (yld x n s).2) : ∀ (s : ay) (x : σ) (n : Int), ok x -> (iQ yld s x n).1 = true -> ok (iQ yld s x n).2.1
 | .mk op nn a t e, x, n, hx, h => by
  rw [iQ] at h ⊢
  split at h
  ·rename_i hy
   rw [if_pos hy]
   try dsimp only at h ⊢
   split at h
   ·rename_i hT
    rw [if_pos hT];exact nC hok e _ _ (nC hok t _ _ (hok _ _ _ hx hy) hT) h
   ·rename_i hT; exact absurd h hT
  ·cases h
theorem nC (hok : ∀ x n s, ok x -> (yld x n s).1 = true -> ok (yld x n s).2) : ∀ (l : List ay) (x : σ) (n : Int), ok x -> (bR yld l x n).1 = true -> ok (bR yld l x n).2.1
 | [], x, n, hx, h => by rw [bR]; exact hx
 | s :: l, x, n, hx, h => by
  rw [bR] at h ⊢
  split at h
  ·rename_i hT
   rw [if_pos hT];exact nC hok l _ _ (wX hok s _ _ hx hT) h
  ·rename_i hT; exact absurd h hT
end
def wkS (B : σ -> aj) (id lo : Nat) (g : Fn) (caps : List AV) (l : List ay) (i : Int) (a : σ × Int) : St :=
 {env := [(1, .v (.hp id 1 0)), (2, .v (.fn g caps)), (9, .v (.vs 5 (br l))), (10, .v (.int .i64 (br l).length)), (11, .v (.int .i64 i))], loc := [], heap := (B a.1).set id (.cells 3 [.int .i64 a.2]), inRound := false, lo := lo }
theorem oO (hok : ∀ x n s, ok x -> (yld x n s).1 = true -> ok (yld x n s).2) (B : σ -> aj) (id lo : Nat) (hid : ∀ x, id < (B x).length) (hlo : lo <= id) (g : Fn) (caps : List AV) (kY kM : Nat)
  (hY : ∀ (k : Nat) (s : ay) (x : σ) (n m : Int), iy s + kY <= k -> k <= kM -> kP s -> ok x -> call Tryz.prog ba k lo g ([.int .i64 n, .agg (ig s)] ++ caps) ((B x).set id (.cells 3 [.int .i64 m])) = some (.bool (yld x n s).1, (B (yld x n s).2).set id (.cells 3 [.int .i64 m]))) :
  ∀ (k : Nat) (l : List ay), bA l + kY <= k -> k <= kM -> l.length < 9223372036854775808 -> eQ l -> ∀ (x : σ) (n : Int), ok x ->
  call Tryz.prog ba k lo (.func 114) [.vs 5 (br l), .hp id 1 0, .fn g caps] ((B x).set id (.cells 3 [.int .i64 n])) =
   some (.bool (bR yld l x n).1, (B (bR yld l x n).2.1).set id (.cells 3 [.int .i64 (bR yld l x n).2.2]))
 | 0, l, hk, _, _, _, _, _, _ => by have := b9 l; omega
 | k + 1, l, hk, hkM, hlen, hb, x, n, hx => by
  have hll := b9 l;have hidx := hid x;apply ai Tryz.func114 U (Nb U) U U;(repeat' (first | apply ab | refine Wr 0 U U ?_ | refine Wr 1 U U ?_ | apply ae));apply cg (S := wkS B id lo g caps l) (l := l) (a0 := (x, n)) (fun rest a => bR yld rest a.1 a.2 = bR yld l x n /\ ok a.1) hlen (by omega) rfl ⟨rfl, hx⟩
  ·intro i s rest a hi hd hil hJ
   obtain ⟨x1, n1⟩ := a;obtain ⟨hJ, hx1⟩ := hJ;have hid1 := hid x1;have hlt := f5 hil;have hrow := de _ _ _ hi;have hmem := jt l i _ hi;have hbm := dt l i _ hb hi;have hy := hY k s x1 (IntKind.i64.wrap (IntKind.i64.wrap (n1 + 1) - 1)) (IntKind.i64.wrap (n1 + 1)) (by omega) (by omega) hbm hx1;have hyo := hok x1 (IntKind.i64.wrap (IntKind.i64.wrap (n1 + 1) - 1)) s hx1;rw [bR] at hJ;obtain ⟨op, nn, a, t, e⟩ := s;rw [iy] at hmem;rw [kP] at hbm;obtain ⟨⟨ha1, ha2⟩, ⟨ht1, ht2⟩, he1, he2⟩ := hbm;have hw1o := wX yld ok hok (.mk op nn a t e) x1 n1 hx1
   try dsimp only at hJ
   have hla := bB a;generalize hT1 : iQ yld (.mk op nn a t e) x1 n1 = T1 at hJ hw1o;rw [iQ] at hT1;generalize yld x1 (IntKind.i64.wrap (IntKind.i64.wrap (n1 + 1) - 1)) (.mk op nn a t e) = Y at hy hyo hT1
   try dsimp only at hT1
   cases hYb : Y.1 with
   | false =>
    rw [hYb] at hy;rw [hYb, if_neg (by simp)] at hT1;(repeat' (first | apply ab | refine ah U U ?_ | (refine Wo 2 U ?_;refine Tt U U ‹_› (Tn ?_)) | (refine Wo 3 U ?_;refine Tg U (aq U U U U U ‹_›) ?_ <;> refine Tg U U (Tc 2 U (Tn ?_))) | (refine Wo 4 U ?_;refine Tc 2 U (Tg U (bP U U U U ‹_› U U) ?_) <;> refine Tc 2 U (Tg U (cL U U U U U ‹_› ‹_› ⟨U, U, Nb U⟩ U) ?_) <;> refine Tn ?_) | (refine Wd 5 [0,0,2,6,14,0,63,127,255,511,1023,511,511,8191,16383,32767,65535,131071,262143,131071,131071,2097151,4194303,8388607] U U (by decide +kernel) ?_;refine Uf U U U (Uf U U U (Uf U U U (Uf U (bP U U U U ‹_› U U) U ?_))) <;> refine Uf U U U (Uf U U U (Uu U (aa U U U U ‹_›) U ?_)) <;> refine Uo U U (Uo U U (Uk U (Uk U (Uk U (Uk U (Uk U (Uk U (Uo U U (Uo U U (Uk U (Uk U (Uk U (Uk U (Uk U (Uk U (Uo U U (Un ?_)))))))))))))))))) | refine Wr 6 U U ?_ | apply ak | apply ae | apply am))
    rw [<- hT1, if_neg (by simp)] at hJ;exact ⟨.inl rfl, Eq.trans (b := some (AV.bool false, (B Y.2).set id (.cells 3 [.int .i64 (IntKind.i64.wrap (n1 + 1))]))) rfl (by rw [<- hJ])⟩
   | true =>
    rw [hYb] at hy;rw [hYb, if_pos rfl] at hT1;have hx2 := hyo hYb;have iht := oO hok B id lo hid hlo g caps kY kM hY k t (by omega) (by omega) ht1 ht2 Y.2 (IntKind.i64.wrap (n1 + 1)) hx2;have hto := nC yld ok hok t Y.2 (IntKind.i64.wrap (n1 + 1)) hx2;generalize bR yld t Y.2 (IntKind.i64.wrap (n1 + 1)) = T at iht hto hT1;cases hTb : T.1 with
    | false =>
     rw [hTb] at iht;rw [hTb, if_neg (by simp)] at hT1;subst hT1;rw [hTb, if_neg (by simp)] at hJ;(repeat' (first | apply ab | refine ah U U ?_ | (refine Wo 2 U ?_;refine Tt U U ‹_› (Tn ?_)) | (refine Wo 3 U ?_;refine Tg U (aq U U U U U ‹_›) ?_ <;> refine Tg U U (Tc 2 U (Tn ?_))) | (refine Wo 4 U ?_;refine Tc 2 U (Tg U (bP U U U U ‹_› U U) ?_) <;> refine Tc 2 U (Tg U (cL U U U U U ‹_› ‹_› ⟨U, U, Nb U⟩ U) ?_) <;> refine Tn ?_) | (refine Wd 5 [0,0,2,6,14,0,63,127,255,511,1023,511,511,8191,16383,32767,65535,131071,262143,131071,131071,2097151,4194303,8388607] U U (by decide +kernel) ?_;refine Uf U U U (Uf U U U (Uf U U U (Uf U (bP U U U U ‹_› U U) U ?_))) <;> refine Uf U U U (Uf U U U (Ut U (aa U U U U ‹_›) U ?_)) <;> refine Uo U U (Uo U U (Uf U U U (Uf U U U (Uf U U U (Uf U U U (Uu U (aa U U U U ‹_›) U ?_)))))) <;> refine Uo U U (Uo U U (Uo U U (Uk U (Uk U (Uk U (Uk U (Uk U (Uk U (Uo U U (Un ?_))))))))))) | refine Wr 6 U U ?_ | apply ak | apply ae | apply am))
     exact ⟨.inl rfl, Eq.trans (b := some (AV.bool false, (B T.2.1).set id (.cells 3 [.int .i64 T.2.2]))) rfl (by rw [<- hJ, hTb])⟩
    | true =>
     rw [hTb] at iht;rw [hTb, if_pos rfl] at hT1;have ihe := oO hok B id lo hid hlo g caps kY kM hY k e (by omega) (by omega) he1 he2 T.2.1 T.2.2 (hto hTb);rw [hT1] at ihe;(repeat' (first | apply ab | refine ah U U ?_ | refine af U U ?_ | (refine Wo 2 U ?_;refine Tt U U ‹_› (Tn ?_)) | (refine Wo 3 U ?_;refine Tg U (aq U U U U U ‹_›) ?_ <;> refine Tg U U (Tc 2 U (Tn ?_))) | (refine Wo 4 U ?_;refine Tc 2 U (Tg U (bP U U U U ‹_› U U) ?_) <;> refine Tc 2 U (Tg U (cL U U U U U ‹_› ‹_› ⟨U, U, Nb U⟩ U) ?_) <;> refine Tn ?_) | (refine Wd 5 [0,0,2,6,14,0,63,127,255,511,1023,511,511,8191,16383,32767,65535,131071,262143,131071,131071,2097151,4194303,8388607] U U (by decide +kernel) ?_;refine Uf U U U (Uf U U U (Uf U U U (Uf U (bP U U U U ‹_› U U) U ?_))) <;> refine Uf U U U (Uf U U U (Ut U (aa U U U U ‹_›) U ?_)) <;> refine Uo U U (Uo U U (Uf U U U (Uf U U U (Uf U U U (Uf U U U (Ut U (aa U U U U ‹_›) U ?_)))))) <;> refine Uo U U (Uo U U (Uo U U (Uf U U U (Uf U U U (Uf U U U (Uf U U U ?_)))))) <;> (refine aP U ?_; refine dA (by decide +kernel) (aa U U U U ‹_›) (fun _ => ?_) (fun _ => ?_)) <;> refine Uo U U (Uo U U (Un ?_))) | refine Wr 6 U U ?_ | refine Wr 7 U U ?_ | apply ak | apply ae | apply am))
     ·rename_i h2; rw [if_pos h2] at hJ; exact ⟨(T1.2.1, T1.2.2), rfl, hJ, hw1o h2⟩
     ·rename_i h2; rw [if_neg (by rw [h2]; simp)] at hJ; exact ⟨.inl rfl, Eq.trans (b := some (AV.bool false, (B T1.2.1).set id (.cells 3 [.int .i64 T1.2.2]))) rfl (by rw [<- hJ, h2])⟩
  ·intro a hJ
   have hlt := f8 (l := l);obtain ⟨hJ, _⟩ := hJ;rw [bR] at hJ;(repeat' (first | apply ab | refine af U U ?_ | (refine Wo 2 U ?_;refine Tf U U ‹_› (Tn ?_)) | refine Wr 8 U U ?_ | apply am | apply aC));exact ⟨.inl rfl, Eq.trans (b := some (AV.bool true, (B a.1).set id (.cells 3 [.int .i64 a.2]))) rfl (by rw [<- hJ])⟩
theorem mC (hok : ∀ x n s, ok x -> (yld x n s).1 = true -> ok (yld x n s).2) (Bb : σ -> aj) (L lo : Nat) (hL : ∀ x, (Bb x).length = L) (hlo : lo <= L) (g : Fn) (kY kM : Nat) (p : bp) (hb : lB p) (idp : Nat) (x0 : σ) (hx0 : ok x0) (hp : (Bb x0)[idp]? = some (.cells 25 (bY p)))
  (hY : ∀ (k : Nat) (s : ay) (x : σ) (n m : Int), iy s + kY <= k -> k <= kM -> kP s -> ok x -> call Tryz.prog ba k lo g [.int .i64 n, .agg (ig s)] (Bb x ++ [.cells 3 [.int .i64 m]]) = some (.bool (yld x n s).1, Bb (yld x n s).2 ++ [.cells 3 [.int .i64 m]]))
  (k : Nat) (hk : bA p.body + kY + 2 <= k) (hkM : k <= kM) : call Tryz.prog ba (k + 1) lo (.func 113) [.fn g [], .hp idp 3 0] (Bb x0) = some (.tup [], Bb (bR yld p.body x0 0).2.1 ++ [.cells 3 [.int .i64 (bR yld p.body x0 0).2.2]]) := by
 have hset : ∀ (x : σ) (m : Int), (Bb x ++ [ap.cells 3 [.int .i64 0]]).set L (.cells 3 [.int .i64 m]) = Bb x ++ [.cells 3 [.int .i64 m]] := fun x m => by rw [<- hL x]; simp
 have hw := oO yld ok hok (fun x => Bb x ++ [ap.cells 3 [.int .i64 0]]) L lo (fun x => by simp [hL x]) hlo g [] kY kM (fun k s x n m h1 h2 h3 h4 => by rw [hset, hset]; exact hY k s x n m h1 h2 h3 h4) k p.body (by omega) hkM hb.2.1 hb.2.2 x0 0 hx0;have hlen : (Bb x0).length = L := hL x0;subst hlen;have hgetL : (Bb x0 ++ [ap.cells 3 [.int .i64 0]])[(Bb x0).length]? = some (.cells 3 [.int .i64 0]) := by simp
 have hlt : idp < (Bb x0).length := aV hp;have hp' : ((Bb x0 ++ [ap.cells 3 [.int .i64 0]]).set (Bb x0).length (.cells 3 [.int .i64 0]))[idp]? = some (.cells 25 (bY p)) := by
  rw [List.getElem?_set_ne (by omega), List.getElem?_append_left hlt]; exact hp
 obtain ⟨w, vs, body⟩ := p;dsimp only at hw;generalize bR yld body x0 0 = R at hw;apply ai Tryz.func113 U (Nb U) U U;(repeat' (first | apply ab | (refine Wo 0 U ?_;refine Tc 1 U (Tg U (aM U U U U ‹_› ⟨by assumption, U, U, Nb U⟩) ?_) <;> refine Tn ?_) | (refine Wo 1 U ?_;refine Tc 1 U (Tg U (aA U U U ‹_› U U) ?_) <;> refine Tc 1 U (Ts U (aa U U U U ‹_›) (fun _ => ?_) (fun _ => ?_)) <;> refine Tn ?_)))
 all_goals exact ⟨.inr rfl, Eq.trans (b := some (AV.tup [], (Bb R.2.1 ++ [ap.cells 3 [.int .i64 0]]).set (Bb x0).length (.cells 3 [.int .i64 R.2.2]))) rfl (by rw [hset])⟩
end
theorem BO {σ : Type} (yld : σ -> Int -> ay -> Bool × σ) (ok : σ -> Prop) (hok : ∀ x n s, ok x -> (yld x n s).1 = true -> ok (yld x n s).2) (Bb : σ -> aj) (L lo : Nat) (hL : ∀ x, (Bb x).length = L) (hlo : lo <= L) (g : Fn) (kY : Nat) (p : bp) (hb : lB p) (idp : Nat) (x0 : σ) (hx0 : ok x0) (hp : (Bb x0)[idp]? = some (.cells 25 (bY p)))
  (hY : ∀ (k : Nat) (s : ay) (x : σ) (n m : Int), iy s + kY <= k -> kP s -> ok x -> call Tryz.prog ba k lo g [.int .i64 n, .agg (ig s)] (Bb x ++ [.cells 3 [.int .i64 m]]) = some (.bool (yld x n s).1, Bb (yld x n s).2 ++ [.cells 3 [.int .i64 m]]))
  (k : Nat) (hk : bA p.body + kY + 2 <= k) : call Tryz.prog ba (k + 1) lo (.func 113) [.fn g [], .hp idp 3 0] (Bb x0) = some (.tup [], Bb (bR yld p.body x0 0).2.1 ++ [.cells 3 [.int .i64 (bR yld p.body x0 0).2.2]]) :=
 mC yld ok hok Bb L lo hL hlo g kY k p hb idp x0 hx0 hp (fun k s x n m h1 _ h2 h3 => hY k s x n m h1 h2 h3) k hk (Nat.le_refl _)
theorem rC (p : bp) (k lo : Nat) (h : aj) : call Tryz.prog ba (k + 1) lo (.func 74) [.agg (bY p)] h = some (.fn (.func 113) [.hp h.length 3 0], h ++ [.cells 25 (bY p)]) := by
 obtain ⟨w, vs, body⟩ := p;apply ai Tryz.func74 U (Nb U) U U;(repeat' (first | apply ab | refine Wr 0 U U ?_ | refine Wr 1 U U ?_ | apply am));exact ⟨.inl rfl, rfl⟩
theorem bU {C : dO} {s : St} {a t id n off T : Nat} {ti : TI} {xs : List AV} {x : AV} (ht : Go.Ev.look C.tab t = some ti) (ha : Go.Ev.look s.env a = some (.v (.hp id n off))) (hH : s.heap[id]? = some (.cells T xs)) (hn : n = xs.length) (hp : Go.Ev.part ti xs off = some x) : ip C s (.cell a t) = some x := by
 unfold ip;dsimp only;rw [ht, ha];dsimp only;rw [hH];dsimp only;rw [if_pos hn, hp]
theorem a9 {C : dO} {s : St} {r : ResultVar} {l : List ResultVar} {x : AV} {xs : List AV} (h1 : ip C s r = some x) (h2 : cP C s l = some xs) : cP C s (r :: l) = some (x :: xs) := by
 simp only [cP, h1, h2]
theorem ec {C : dO} {fn : Func} {fid : Nat} {h : aj} {s : St} {xs : List AV} {out : AV × aj} (hr : cP C s fn.results.toList = some xs) (hh : fk (C.nz fid) (C.cut fid) h (u7 xs) s.heap = some out) : iw C fn fid h s = some out := by
 unfold iw;rw [hr];cases xs with
 | nil => exact hh
 | cons a l => cases l <;> exact hh
def sT (p : bp) : Bool := cV p.width p.vars && (dK p.width p.vars p.body 1 0 0).1
def vC (p : bp) : Int × Int := if sT p = true then (dK p.width p.vars p.body 1 0 0).2 else (0, 0)
theorem wY (p : bp) (k : Nat) (hk : bA p.body + 70 <= k) (hb : lB p) (h : aj) (lo : Nat) : call Tryz.prog ba (k + 1) lo (.func 112) [.agg (bY p)] h = some (.tup [.agg [.int .i64 (vC p).1, .int .i64 (vC p).2], .bool (sT p)], h) := by
 have hH := ue p.width p.vars (k - 1) (by omega) (h ++ [ap.cells 173 [.int .i64 0, .int .i64 0]]) h.length;rw [show k - 1 + 1 = k by omega] at hH
 have hF := oM p (h ++ [ap.cells 173 [.int .i64 0, .int .i64 0]]) h.length h.length (by simp) (Nat.le_refl _) k p.body (by omega) hb.2.1 hb.2.2 1 0 0;have hset : (h ++ [ap.cells 173 [.int .i64 0, .int .i64 0]]).set h.length (.cells 173 [.int .i64 0, .int .i64 0]) = h ++ [ap.cells 173 [.int .i64 0, .int .i64 0]] := by simp
 rw [hset] at hF;have hlo : h.length <= h.length := Nat.le_refl _;have hid : h.length < (h ++ [ap.cells 173 [.int .i64 0, .int .i64 0]]).length := by simp
 have hget : (h ++ [ap.cells 173 [.int .i64 0, .int .i64 0]])[h.length]? = some (.cells 173 [.int .i64 0, .int .i64 0]) := by simp
 have hokd : sT p = (cV p.width p.vars && (dK p.width p.vars p.body 1 0 0).1) := rfl;have hcd : vC p = if sT p = true then (dK p.width p.vars p.body 1 0 0).2 else (0, 0) := rfl
 generalize sT p = ok at hokd hcd;generalize vC p = ct at hcd;generalize dK p.width p.vars p.body 1 0 0 = R at hF hokd hcd;generalize cV p.width p.vars = hp at hH hokd;obtain ⟨w, vs, body⟩ := p;dsimp only at hH hF;obtain ⟨r1, r2, r3⟩ := R;dsimp only at hF hokd hcd;have hgS : ∀ X : ap, ((h ++ [ap.cells 173 [.int .i64 0, .int .i64 0]]).set h.length X)[h.length]? = some X := fun X => List.getElem?_set_self hid
 apply ai Tryz.func112 U (Nb U) U U;cases hp
 ·subst hokd
  rw [Bool.false_and, if_neg (by simp)] at hcd;subst hcd;(repeat' (first | apply ab | refine ah U U ?_ | refine Wr 0 U U ?_ | (refine Wo 1 U ?_;refine Tc 4 U (Tg U (aa U U U U ‹_›) ?_) <;> refine Tt U U U (Tn ?_)) | (refine Wo 2 U ?_;refine Tc 1 U (Tg U (aM U U U U ‹_› ⟨by assumption, U, U, Nb U⟩) ?_) <;> refine Tc 1 U (Tn ?_)) | apply am));exact ⟨.inl rfl, ec (a9 (bU rfl rfl (hgS _) rfl rfl) (a9 rfl rfl)) rfl⟩
 ·rw [Bool.true_and] at hokd
  subst hokd;cases ok
  ·rw [if_neg (by simp)] at hcd
   subst hcd;(repeat' (first | apply ab | refine ah U U ?_ | refine af U U ?_ | refine Wr 0 U U ?_ | (refine Wo 1 U ?_;refine Tc 4 U (Tg U (aa U U U U ‹_›) ?_) <;> refine Tf U U U (Tn ?_)) | (refine Wo 3 U ?_;refine Tc 3 U (Tf U (aa U U U U ‹_›) U ?_) <;> refine Tc 1 U (Tn ?_)) | (refine Wo 4 U ?_;refine Tc 1 U (Tg U (cL U U U U U ‹_› ‹_› ⟨U, U, Nb U⟩ U) ?_) <;> refine Tc 1 U (Tn ?_)) | apply ak | apply am));exact ⟨.inl rfl, ec (a9 (bU rfl rfl (hgS _) rfl rfl) (a9 rfl rfl)) rfl⟩
  ·rw [if_pos rfl] at hcd
   subst hcd;(repeat' (first | apply ab | refine af U U ?_ | refine Wr 0 U U ?_ | (refine Wo 1 U ?_;refine Tc 4 U (Tg U (aa U U U U ‹_›) ?_) <;> refine Tf U U U (Tn ?_)) | (refine Wo 3 U ?_;refine Tc 3 U (Tt U (aa U U U U ‹_›) U ?_) <;> refine Tc 1 U (Tn ?_)) | (refine Wo 5 U ?_;refine Tg U (bP U U U U ‹_› U U) ?_ <;> refine Tg U (cL U U U U U ‹_› ‹_› ⟨U, U, Nb U⟩ U) ?_ <;> refine Tc 1 U (Tn ?_)) | apply ak | apply am));exact ⟨.inl rfl, ec (a9 (bU rfl rfl (hgS _) rfl rfl) (a9 rfl rfl)) rfl⟩
theorem mD (p : bp) (k : Nat) (hk : bA p.body + 71 <= k) (hb : lB p) (h : aj) (lo : Nat) : call Tryz.prog ba (k + 1) lo (.func 73) [.agg (bY p)] h = some (.int .i64 (zk 30 (sT p)), h) := by
 have hC := wY p (k - 1) (by omega) hb h h.length;rw [show k - 1 + 1 = k by omega] at hC
 obtain ⟨w, vs, body⟩ := p;apply ai Tryz.func73 U (Nb U) U U;(repeat' (first | apply ab | refine ah U U ?_ | refine af U U ?_ | refine Wr 0 U U ?_ | (refine Wo 1 U ?_;refine Tc 1 U (Tg U (aa U U U U ‹_›) ?_) <;> refine Tc 2 U (Ts U U (fun _ => ?_) (fun _ => ?_)) <;> refine Tc 3 U (Tn ?_)) | refine Wr 2 U U ?_ | refine Wr 3 U U ?_ | refine Wr 4 U U ?_ | apply ak | apply am))
 all_goals exact ⟨.inl rfl, Eq.trans (b := some (AV.int .i64 _, _)) rfl (by simp [zk, *])⟩
def kL (x : Bool) (_ : Int) : ay -> Bool × Bool
 | .mk op n _ _ _ => if (op == 3 && decide (n > 15)) = true then (false, true) else (true, x)
theorem Fg : ∀ (x : Bool) (n : Int) (s : ay), x = false -> (kL x n s).1 = true -> (kL x n s).2 = false
 | x, n, .mk op nn a t e, hx, h => by
  subst hx;unfold kL at h ⊢;dsimp only at h ⊢
  by_cases hc : (op == 3 && decide (nn > 15)) = true
  ·rw [if_pos hc] at h; cases h
  ·rw [if_neg hc]
mutual
theorem BP : ∀ (s : ay) (n : Int), (iQ kL s false n).1 = s8 s /\ (iQ kL s false n).2.1 = !s8 s
 | .mk op nn a t e, n => by
  rw [iQ, s8];simp only [kL]
  by_cases hc : (op == 3 && decide (nn > 15)) = true
  ·simp only [hc, if_true, Bool.false_eq_true, if_false, Bool.not_true, Bool.false_and, Bool.not_false, and_self]
  ·have hc' : (op == 3 && decide (nn > 15)) = false := by simpa using hc
   obtain ⟨h1, h2⟩ := lF t (IntKind.i64.wrap (n + 1));simp only [hc', Bool.false_eq_true, if_false, if_true, Bool.not_false, Bool.true_and];cases hl : dL t with
   | false => rw [hl] at h1 h2; rw [if_neg (by rw [h1]; simp)]; simp [h1, h2]
   | true =>
    rw [hl] at h1 h2;rw [if_pos h1, h2];obtain ⟨h3, h4⟩ := lF e (bR kL t false (IntKind.i64.wrap (n + 1))).2.2;simp [h3, h4]
theorem lF : ∀ (l : List ay) (n : Int), (bR kL l false n).1 = dL l /\ (bR kL l false n).2.1 = !dL l
 | [], n => by rw [bR, dL]; simp
 | s :: l, n => by
  rw [bR, dL];obtain ⟨h1, h2⟩ := BP s n;cases hl : s8 s with
  | false => rw [hl] at h1 h2; rw [if_neg (by rw [h1]; simp)]; simp [h1, h2]
  | true =>
   rw [hl] at h1 h2;rw [if_pos h1, h2];obtain ⟨h3, h4⟩ := lF l (iQ kL s false n).2.2;simp [h3, h4]
end
def rD (r : fL) : Bool -> fL
 | false => r
 | true => { r with st := 2, pending := some .ret }
theorem zt (HH : aj) (rc : fL) (lo : Nat) (hlo : lo <= HH.length) (p : bp) (hb : lB p) (idp : Nat) (hp : HH[idp]? = some (.cells 25 (bY p))) (k : Nat) (hk : bA p.body + 22 <= k)
  (hY : ∀ (k : Nat) (s : ay) (n m : Int), iy s + 20 <= k -> kP s -> call Tryz.prog ba k lo (.yield HH.length) [.int .i64 n, .agg (ig s)] (HH ++ [.loop rc] ++ [.cells 3 [.int .i64 m]]) = some (.bool (kL false n s).1, HH ++ [.loop (rD rc (kL false n s).2)] ++ [.cells 3 [.int .i64 m]])) :
  call Tryz.prog ba (k + 1) lo (.func 113) [.fn (.yield HH.length) [], .hp idp 3 0] (HH ++ [.loop rc]) = some (.tup [], HH ++ [.loop (rD rc (!dL p.body))] ++ [.cells 3 [.int .i64 (bR kL p.body false 0).2.2]]) := by
 have := BO kL (fun x => x = false) Fg (fun x => HH ++ [ap.loop (rD rc x)]) (HH.length + 1) lo (fun x => by simp) (by omega) (.yield HH.length) 20 p hb idp false rfl
  (by rw [List.getElem?_append_left (aV hp)]; exact hp) (fun k s x n m h1 h2 h3 => by subst h3; exact hY k s n m h1 h2) k (by omega)
 rw [(lF p.body 0).2] at this;exact this
theorem wZ (r : fL) (h : r.st = 0) (b : Bool) : (rD r b).st ≠ 1 := by
 cases b
 ·show r.st ≠ 1; rw [h]; simp
 ·show (2 : Nat) ≠ 1; simp
def spS (h : aj) (p : bp) (vs : List bk) (i : Int) (_ : Unit) : St :=
 {env := [(1, .p 1 0), (2, .v (.hp h.length 1 0)), (3, .v (.hp (h ++ [ap.cells 4 [.bool false]]).length 1 0)), (12, .v (.vs 3 (ii vs))), (13, .v (.int .i64 (ii vs).length)), (14, .v (.int .i64 i))], loc := [(1, bY p)], heap := h ++ [.cells 4 [.bool false]] ++ [.cells 34 [.int .i64 0]], inRound := false, lo := h.length }
def iR (p : bp) : Bool := sT p && bt p
theorem w9 (p : bp) (k : Nat) (hk : bA p.body + p.vars.length + 80 <= k) (hb : lB p) (h : aj) (lo : Nat) : call Tryz.prog ba (k + 2) lo (.func 72) [.agg (bY p)] h = some (.tup [.bool (iR p), .int .i64 (zk 30 (sT p))], h) := by
 have hC := mD p k (by omega) hb (h ++ [ap.cells 4 [.bool false]] ++ [ap.cells 34 [.int .i64 0]]) h.length;have hE := rC p k h.length (h ++ [ap.cells 4 [.bool false]] ++ [ap.cells 34 [.int .i64 0]]);have hSr : bt p = (p.vars.all (fun v => !decide (v.level > 15)) && dL p.body) := rfl;have hSp : iR p = (sT p && bt p) := rfl;generalize iR p = sp at hSp;generalize bt p = sr at hSr hSp;generalize sT p = ok at hC hSp;have hlo : h.length <= h.length := Nat.le_refl _;have hlo2 : h.length <= (h ++ [ap.cells 4 [.bool false]]).length := by simp
 have hg1 : (h ++ [ap.cells 4 [.bool false]] ++ [ap.cells 34 [.int .i64 0]])[h.length]? = some (.cells 4 [.bool false]) := by simp
 have hg2 : ∀ X : ap, ((h ++ [ap.cells 4 [.bool false]] ++ [ap.cells 34 [.int .i64 0]]).set h.length X)[(h ++ [ap.cells 4 [.bool false]]).length]? = some (.cells 34 [.int .i64 0]) := fun X => by simp [List.getElem?_set, List.getElem?_append]
 have hr1 : ∀ X Y : ap, (((h ++ [ap.cells 4 [.bool false]] ++ [ap.cells 34 [.int .i64 0]]).set h.length X).set (h ++ [ap.cells 4 [.bool false]]).length Y)[h.length]? = some X := fun X Y => by simp [List.getElem?_set, List.getElem?_append]
 have hr2 : ∀ X Y : ap, (((h ++ [ap.cells 4 [.bool false]] ++ [ap.cells 34 [.int .i64 0]]).set h.length X).set (h ++ [ap.cells 4 [.bool false]]).length Y)[(h ++ [ap.cells 4 [.bool false]]).length]? = some Y := fun X Y => by simp [List.getElem?_set, List.getElem?_append]
 have hgf := hg2 (.cells 4 [.bool false]);have hgt := hg2 (.cells 4 [.bool true]);obtain ⟨w, vs, body⟩ := p;have hvl := fB vs;dsimp only at hSr hk;apply ai Tryz.func72 U (Nb U) U U;cases ok
 ·rw [Bool.false_and] at hSp
  subst hSp;(repeat' (first | apply ab | refine ah U U ?_ | refine Wr 0 U U ?_ | (refine Wo 1 U ?_;refine Tc 1 U (Tg U (aa U U U U ‹_›) ?_) <;> refine Tt U U U (Tn ?_)) | (refine Wo 2 U ?_;refine Tg U (aM U U U U ‹_› ⟨by assumption, U, U, Nb U⟩) ?_ <;> refine Tg U (aM U U U U ‹_› ⟨by assumption, U, U, Nb U⟩) ?_ <;> refine Tn ?_) | apply am));exact ⟨.inl rfl, ec (a9 (bU rfl rfl (hr1 _ _) rfl rfl) (a9 (bU rfl rfl (hr2 _ _) rfl rfl) rfl)) rfl⟩
 ·rw [Bool.true_and] at hSp
  subst hSp;(repeat' (first | apply ab | refine af U U ?_ | refine Wr 0 U U ?_ | (refine Wo 1 U ?_;refine Tc 1 U (Tg U (aa U U U U ‹_›) ?_) <;> refine Tf U U U (Tn ?_)) | refine Wr 3 U U ?_ | apply ak | apply ae));apply cg (S := spS h ⟨w, vs, body⟩ vs) (l := vs) (a0 := ()) (fun rest _ => (rest.all (fun v => !decide (v.level > 15)) && dL body) = sp) hb.1.1 (by omega) rfl hSr.symm
  ·intro i v rest _ hi hd hil hJ
   have hrow := gk hi;have hlt := ld hil;rw [List.all_cons] at hJ;obtain ⟨nm, level, cells⟩ := v;dsimp only at hJ;(repeat' (first | apply ab | refine ah U U ?_ | refine af U U ?_ | (refine Wo 4 U ?_;refine Tt U U ‹_› (Tn ?_)) | (refine Wo 5 U ?_;refine Tg U (aq U U U U U ‹_›) ?_ <;> refine Tg U U (Tc 2 U (Tn ?_))) | (refine Wo 6 U ?_;refine Tc 2 U (Ts U U (fun _ => ?_) (fun _ => ?_)) <;> refine Tn ?_) | (refine Wo 7 U ?_;refine Tg U (aM U U U U ‹_› ⟨by assumption, U, U, Nb U⟩) ?_ <;> refine Tg U (aM U U U U ‹_› ⟨by assumption, U, U, Nb U⟩) ?_ <;> refine Tn ?_) | refine Wr 8 U U ?_ | apply ak | apply ae | apply am))
   ·rename_i hf
    rw [hf] at hJ;simp only [Bool.not_true, Bool.false_and] at hJ;subst hJ;exact ⟨.inl rfl, ec (a9 (bU rfl rfl (hr1 _ _) rfl rfl) (a9 (bU rfl rfl (hr2 _ _) rfl rfl) rfl)) rfl⟩
   ·rename_i hf; exact ⟨(), rfl, by rw [hf] at hJ; simpa using hJ⟩
  ·intro _ hJ
   have hlt := lf (l := vs);rw [List.all_nil, Bool.true_and] at hJ;(repeat' (first | apply ab | refine af U U ?_ | (refine Wo 4 U ?_;refine Tf U U ‹_› (Tn ?_)) | (refine Wo 9 U ?_;refine Tc 1 U (Tg U (aa U U U U ‹_›) ?_) <;> refine Tn ?_) | apply ae | apply aC));generalize hA2 : ap.cells 25 (bY ⟨w, vs, body⟩) = A2;have hlo4 : h.length <= (h ++ [ap.cells 4 [.bool false]] ++ [ap.cells 34 [.int .i64 0]] ++ [A2]).length := by first | (simp; done) | (simp; omega)
   have ha : ∀ X c Y : ap, ((h ++ [ap.cells 4 [.bool false]] ++ [ap.cells 34 [.int .i64 0]] ++ [A2] ++ [X] ++ [c]).set (h ++ [ap.cells 4 [.bool false]] ++ [ap.cells 34 [.int .i64 0]] ++ [A2]).length Y)[h.length]? = some (.cells 4 [.bool false]) := fun X c Y => by
    rw [List.getElem?_set_ne (by first | (simp; done) | (simp; omega))]; simp
   have hb' : ∀ X c Y Z : ap, (((h ++ [ap.cells 4 [.bool false]] ++ [ap.cells 34 [.int .i64 0]] ++ [A2] ++ [X] ++ [c]).set (h ++ [ap.cells 4 [.bool false]] ++ [ap.cells 34 [.int .i64 0]] ++ [A2]).length Y).set h.length Z)[(h ++ [ap.cells 4 [.bool false]]).length]? = some (.cells 34 [.int .i64 0]) := fun X c Y Z => by
    rw [List.getElem?_set_ne (by simp), List.getElem?_set_ne (by simp)]; simp
   have hc' : ∀ X c Y Z V : ap, ((((h ++ [ap.cells 4 [.bool false]] ++ [ap.cells 34 [.int .i64 0]] ++ [A2] ++ [X] ++ [c]).set (h ++ [ap.cells 4 [.bool false]] ++ [ap.cells 34 [.int .i64 0]] ++ [A2]).length Y).set h.length Z).set (h ++ [ap.cells 4 [.bool false]]).length V)[(h ++ [ap.cells 4 [.bool false]] ++ [ap.cells 34 [.int .i64 0]] ++ [A2]).length]? = some Y := fun X c Y Z V => by
    rw [List.getElem?_set_ne (by simp), List.getElem?_set_ne (by first | (simp; done) | (simp; omega)), List.getElem?_set_self (by first | (simp; done) | (simp; omega))]
   have hd' : ∀ X c Y Y' : ap, ((((h ++ [ap.cells 4 [.bool false]] ++ [ap.cells 34 [.int .i64 0]] ++ [A2] ++ [X] ++ [c]).set (h ++ [ap.cells 4 [.bool false]] ++ [ap.cells 34 [.int .i64 0]] ++ [A2]).length Y).set h.length (.cells 4 [.bool false])).set (h ++ [ap.cells 4 [.bool false]]).length (.cells 34 [.int .i64 0])).set (h ++ [ap.cells 4 [.bool false]] ++ [ap.cells 34 [.int .i64 0]] ++ [A2]).length Y' = h ++ [ap.cells 4 [.bool false]] ++ [ap.cells 34 [.int .i64 0]] ++ [A2] ++ [Y'] ++ [c] := fun X c Y Y' => by
    simp [List.set_append]
   have he' : ∀ X c Y Y' : ap, (((h ++ [ap.cells 4 [.bool false]] ++ [ap.cells 34 [.int .i64 0]] ++ [A2] ++ [X] ++ [c]).set (h ++ [ap.cells 4 [.bool false]] ++ [ap.cells 34 [.int .i64 0]] ++ [A2]).length Y)).set (h ++ [ap.cells 4 [.bool false]] ++ [ap.cells 34 [.int .i64 0]] ++ [A2]).length Y' = h ++ [ap.cells 4 [.bool false]] ++ [ap.cells 34 [.int .i64 0]] ++ [A2] ++ [Y'] ++ [c] := fun X c Y Y' => by
    rw [List.set_set]; simp
   have hf0 : ∀ X c Y : ap, (((h ++ [ap.cells 4 [.bool false]] ++ [ap.cells 34 [.int .i64 0]] ++ [A2]) ++ [X] ++ [c]).set (h ++ [ap.cells 4 [.bool false]] ++ [ap.cells 34 [.int .i64 0]] ++ [A2]).length Y)[(h ++ [ap.cells 4 [.bool false]]).length]? = some (.cells 34 [.int .i64 0]) := fun X c Y => by
    rw [List.getElem?_set_ne (by first | (simp; done) | (simp; omega))]; simp
   have hf1 : ∀ X c Y Z V : ap, (((((h ++ [ap.cells 4 [.bool false]] ++ [ap.cells 34 [.int .i64 0]] ++ [A2]) ++ [X] ++ [c]).set (h ++ [ap.cells 4 [.bool false]] ++ [ap.cells 34 [.int .i64 0]] ++ [A2]).length Y).set h.length Z).set (h ++ [ap.cells 4 [.bool false]]).length V)[h.length]? = some Z := fun X c Y Z V => by
    rw [List.getElem?_set_ne (by simp), List.getElem?_set_self (by first | (simp; done) | (simp; omega))]
   have hf2 : ∀ X c Y Z V : ap, (((((h ++ [ap.cells 4 [.bool false]] ++ [ap.cells 34 [.int .i64 0]] ++ [A2]) ++ [X] ++ [c]).set (h ++ [ap.cells 4 [.bool false]] ++ [ap.cells 34 [.int .i64 0]] ++ [A2]).length Y).set h.length Z).set (h ++ [ap.cells 4 [.bool false]]).length V)[(h ++ [ap.cells 4 [.bool false]]).length]? = some V := fun X c Y Z V => by
    rw [List.getElem?_set_self (by first | (simp; done) | (simp; omega))]
   have hmid : ∀ (A : aj) (X c : ap), (A ++ [X] ++ [c])[A.length]? = some X := fun A X c => by simp
   have hself : ∀ (A : aj) (X c Y : ap), ((A ++ [X] ++ [c]).set A.length Y)[A.length]? = some Y := fun A X c Y => List.getElem?_set_self (by first | (simp; done) | (simp; omega))
   subst hA2;apply qe
   case hg => rfl
   case hr => rfl
   case hlo => exact hlo4
   case hK =>
    refine zt _ _ h.length hlo4 ⟨w, vs, body⟩ hb _ (List.getElem?_concat_length ..) k (by dsimp only; omega) ?_;intro k s n m hks hbs;cases k with
    | zero => omega
    | succ k =>
    obtain ⟨op, nn, a, t, e⟩ := s;refine kn (hmid _ _ _) hlo4 rfl rfl ?_;(repeat' refine Wr 10 U U ?_);refine ⟨_, hmid _ _ _, rfl, ?_⟩;cases hc : (op == 3 && decide (nn > 15)) with
    | false =>
     have hy : kL false n (.mk op nn a t e) = (true, false) := by unfold kL; dsimp only; rw [hc]; rfl
     rw [hy];(repeat' (first | apply ab | refine ah U U ?_ | refine af U U ?_ | (refine Wo 11 U ?_;refine Tc 2 U (Ts U U (fun _ => ?_) (fun _ => ?_)) <;> refine Tc 3 U ?_ <;> (first | refine au U ?_ | (refine aK U ?_; refine aB U (fun _ => ?_) (fun _ => ?_))) <;> refine Tc 1 U (Tn ?_)) | apply ak | apply ae))
     all_goals first
      | (exfalso; clear ha hb' hc' hd' he' hmid hself hf0 hf1 hf2; simp_all; done)
      | exact ⟨_, hself _ _ _ _, (by rw [<- he' _ _ _ _]; rfl)⟩
    | true =>
     have hy : kL false n (.mk op nn a t e) = (false, true) := by unfold kL; dsimp only; rw [hc]; rfl
     rw [hy];simp only [Bool.and_eq_true] at hc;obtain ⟨hc1, hc2⟩ := hc;(repeat' (first | apply ab | refine ah U U ?_ | (refine Wo 11 U ?_;refine Tc 2 U (Tt U U ‹_› (Tc 3 U (Tt U U ‹_› (Tc 1 U (Tn ?_)))))) | apply ae));refine C2 rfl ?_;refine aK rfl (ev (aM rfl rfl rfl rfl (ha _ _ _) ⟨hlo, rfl, rfl, Nat.le_of_ble_eq_true rfl⟩) ?_);refine aK rfl (ev (aM rfl rfl rfl rfl (hb' _ _ _ _) ⟨hlo2, rfl, rfl, Nat.le_of_ble_eq_true rfl⟩) ?_);apply Au;apply am;exact ⟨_, hc' _ _ _ _ _, (by rw [<- hd' _ _ _ _]; rfl)⟩
   case hl => exact hmid _ _ _
   case hst => exact wZ _ rfl _
   case k =>
    dsimp only;cases hls : dL body with
    | false =>
     rw [hls] at hJ;subst hJ;exact ⟨.inl rfl, ec (a9 (bU rfl rfl (ha _ _ _) rfl rfl) (a9 (bU rfl rfl (hf0 _ _ _) rfl rfl) rfl)) rfl⟩
    | true =>
     rw [hls] at hJ;subst hJ;apply ab;refine C2 rfl ?_;refine aK rfl (ev (aM rfl rfl rfl rfl (ha _ _ _) ⟨hlo, rfl, rfl, Nat.le_of_ble_eq_true rfl⟩) ?_);refine aK rfl (ev (aM rfl rfl rfl rfl (hb' _ _ _ _) ⟨hlo2, rfl, rfl, Nat.le_of_ble_eq_true rfl⟩) ?_);apply Au;apply am;exact ⟨.inl rfl, ec (a9 (bU rfl rfl (hf1 _ _ _ _ _) rfl rfl) (a9 (bU rfl rfl (hf2 _ _ _ _ _) rfl rfl) rfl)) rfl⟩
theorem HO {C : dO} {K : Ev.Callee} {f : Nat} {s : St} {o : Oper} {op : BinOp} {t u : Nat} {x y : Operand} {a b r : AV} (ho : o.op = .binOp op t x y u) (hx : s.val x = some a) (hy : s.val y = some b) (hb : Go.Ev.binop C.tab C.eqs op t a b = some r) : aE C K f o s = some (s.putv o.dst r) := by
 unfold aE;rw [ho];dsimp only;rw [hx, hy];dsimp only;rw [hb]
 rfl
def bo (h : aj) (sz : Nat) : List (List AV) -> AV
 | [] => .nils
 | r :: l => .sl h.length sz 0 (l.length + 1)
def aQ (h : aj) (T : Nat) : List (List AV) -> aj
 | [] => h
 | r :: l => h ++ [.cells T (r :: l).flatten]
def bg (sz : Nat) : List (List AV) -> AV
 | [] => .nils
 | r :: l => .vs sz (r :: l)
theorem dg {sz : Nat} : ∀ (l : List (List AV)), (∀ r, r ∈ l -> r.length = sz) -> l.flatten.length = l.length * sz
 | [], _ => by simp
 | r :: l, h => by rw [List.flatten_cons, List.length_append, dg l (fun r hr => h r (List.mem_cons_of_mem _ hr)), h r (List.mem_cons_self ..), List.length_cons, Nat.succ_mul]; omega
theorem cy {tab : wb} {lo : Nat} {h : aj} {t e : Nat} {ti : TI} {sz0 by_ : Nat} {zr : List AV} (ht : Go.Ev.look tab t = some ⟨.slice e, sz0, by_, zr⟩) (he : Go.Ev.look tab e = some ti) (hsz : 0 < ti.sz) (hlo : lo <= h.length) (rows more : List (List AV))
  (hr : ∀ r, r ∈ rows -> r.length = ti.sz) (hroom : (rows.length + more.length) * ti.bytes <= ca) (hroom2 : rows.length + more.length <= ca) :
  append tab lo (aQ h e rows) t (bo h ti.sz rows) (.vs ti.sz more) = some (bo h ti.sz (rows ++ more), aQ h e (rows ++ more)) := by
 unfold append;rw [ht];dsimp only;rw [he];dsimp only;have hrow : fh (aQ h e rows) ti.sz (.vs ti.sz more) = some more.flatten := by simp [fh]
 rw [hrow];simp only [lenOf];cases rows with
 | nil =>
  cases more with
  | nil => simp [bo, aQ]
  | cons m ms =>
   simp only [bo, aQ, List.nil_append, List.length_cons];rw [if_neg (by omega), if_pos ⟨by simpa using hroom, hsz, by simpa using hroom2⟩]
 | cons r l =>
  simp only [bo, aQ, List.cons_append];have hg : (h ++ [ap.cells e (r :: l).flatten])[h.length]? = some (.cells e (r :: l).flatten) := by simp
  rw [hg];dsimp only;rw [if_pos ⟨hlo, by trivial, by trivial, by trivial, by rw [dg _ hr]; rfl, hsz, by simpa using hroom, by simpa using hroom2⟩]
  simp [Nat.add_right_comm]
theorem eY {sz : Nat} : ∀ (l : List (List AV)), (∀ r, r ∈ l -> r.length = sz) -> cv sz l.length l.flatten = l
 | [], _ => rfl
 | r :: l, h => by
  have hr := h r (List.mem_cons_self ..);rw [List.length_cons, cv, List.flatten_cons, List.take_append_of_le_length (by omega), List.take_of_length_le (by omega), List.drop_append_of_le_length (by omega), List.drop_eq_nil_of_le (by omega), List.nil_append,
   eY l (fun r hr => h r (List.mem_cons_of_mem _ hr))]
theorem ed {h : aj} {e sz : Nat} (rows : List (List AV)) (hr : ∀ r, r ∈ rows -> r.length = sz /\ ∀ x, x ∈ r -> bh x = true) : ja true h (bo h sz rows) (aQ h e rows) = some (bg sz rows, h) := by
 cases rows with
 | nil => rfl
 | cons r l =>
  have hlen : ∀ q, q ∈ r :: l -> q.length = sz := fun q hq => (hr q hq).1
  have hst : (r :: l).flatten.all bh = true := by
   rw [List.all_eq_true];intro x hx;obtain ⟨q, h1, h2⟩ := List.mem_flatten.1 hx;exact (hr q h1).2 x h2
  have hg : (aQ h e (r :: l))[h.length]? = some (.cells e (r :: l).flatten) := by simp [aQ]
  have h1 : er (aQ h e (r :: l)) h.length (bo h sz (r :: l)) = some (.vs sz (r :: l)) := by
   show er (aQ h e (r :: l)) h.length (.sl h.length sz 0 (l.length + 1)) = _;unfold er;dsimp only;rw [hg];dsimp only;rw [if_pos ⟨Nat.le_refl _, by rw [dg _ hlen]; simp, hst⟩, List.drop_zero]
   rw [show l.length + 1 = (r :: l).length from rfl, eY _ hlen]
  show (if true then match frz (aQ h e (r :: l)) h.length (bo h sz (r :: l)) with | some b => some (b, h) | none => none else _) = _;have h2 : frz (aQ h e (r :: l)) h.length (bo h sz (r :: l)) = some (.vs sz (r :: l)) := h1;rw [h2]
  rfl
def bd (p : bp) : List Int := p.vars.map (·.level)
def lvS (h : aj) (vs : List bk) (i : Int) (l : List Int) : St :=
 {env := [(3, .v (bo h 1 (ag l))), (7, .v (.vs 3 (ii vs))), (8, .v (.int .i64 (ii vs).length)), (9, .v (.int .i64 i))], loc := [], heap := aQ h 3 (ag l), inRound := false, lo := h.length }
theorem ij (l : List Int) : ∀ r, r ∈ ag l -> r.length = 1 /\ ∀ x, x ∈ r -> bh x = true := by
 intro r hr;obtain ⟨n, _, rfl⟩ := List.mem_map.1 hr;refine ⟨rfl, fun x hx => ?_⟩
 simp at hx; subst hx; rfl
theorem bw (l : List Int) : (ag l).length = l.length := by simp [ag]
theorem kw (h : aj) (l : List Int) (v : Int) (hl : l.length < 1000000) : append ba.tab h.length (aQ h 3 (ag l)) 26 (bo h 1 (ag l)) (.vs 1 [[.int .i64 v]]) = some (bo h 1 (ag (l ++ [v])), aQ h 3 (ag (l ++ [v]))) := by
 have := cy (tab := ba.tab) (lo := h.length) (h := h) (t := 26) (e := 3) rfl rfl (by decide) (Nat.le_refl _) (ag l) [[.int .i64 v]] (fun r hr => (ij l r hr).1) (by rw [bw]; simp only [List.length_cons, List.length_nil, ca]; show (l.length + (0 + 1)) * 8 <= _; omega) (by rw [bw]; simp [ca]; omega);rw [this];simp [ag]
theorem mE (p : bp) (k : Nat) (hk : p.vars.length < k) (hv : p.vars.length < 1000) (h : aj) (lo : Nat) : call Tryz.prog ba (k + 1) lo (.func 41) [.agg (bY p)] h = some (bg 1 (ag (bd p)), h) := by
 obtain ⟨w, vs, body⟩ := p;dsimp only at hk hv;have hfin := ed (h := h) (e := 3) (sz := 1) (ag (bd ⟨w, vs, body⟩)) (ij _);apply ai Tryz.func41 U (Nb U) U U;(repeat' (first | apply ab | refine Wr 0 U U ?_ | refine Wr 1 U U ?_ | refine Wr 2 U U ?_ | apply ae));apply aS (S := lvS h vs) (l := vs) (a0 := []) (fun i rest a => a ++ rest.map (·.level) = bd ⟨w, vs, body⟩ /\ a.length = i) (by omega) (by omega) rfl ⟨rfl, rfl⟩
 ·intro i v rest a hi hd hil hJ
  have hrow := gk hi;have hlt := ld hil;have hap := kw h a v.level (by omega);obtain ⟨nm, level, cells⟩ := v;dsimp only at hap;(repeat' (first | apply ab | refine ah U U ?_ | (refine Wo 3 U ?_;refine Tt U U ‹_› (Tn ?_)) | (refine Wo 4 U ?_;refine Tg U (aq U U U U U ‹_›) ?_ <;> refine Tg U U (Tc 2 U (Tn ?_))) | (refine Wo 5 U ?_;refine Tc 4 U (Tg U (aN U U U U U ‹_›) ?_) <;> refine Tc 1 U (Tn ?_)) | refine Wr 6 U U ?_ | apply ak | apply ae));exact ⟨a ++ [level], rfl, by rw [<- hJ.1]; simp, by simp [hJ.2]⟩
 ·intro a hJ
  have hlt := lf (l := vs);(repeat' (first | apply ab | refine af U U ?_ | (refine Wo 3 U ?_;refine Tf U U ‹_› (Tn ?_)) | refine Wr 7 U U ?_ | apply am | apply aC));have : a = bd ⟨w, vs, body⟩ := by simpa using hJ.1
  subst this;exact ⟨.inl rfl, hfin⟩
def lrS (h : aj) (p : bp) (i : Int) (l : List Int) : St :=
 {env := [(1, .p 1 0), (3, .v (bo h 1 (ag l))), (4, .v (.int .i64 i))], loc := [(1, bY p)], heap := aQ h 3 (ag l), inRound := false, lo := h.length }
theorem xa (p : bp) (k : Nat) (hk : p.vars.length < k) (hv : p.vars.length < 1000) (h : aj) (lo : Nat) : call Tryz.prog ba (k + 1) lo (.func 17) [.agg (bY p)] h = some (bg 1 (ag (bd p)), h) := by
 obtain ⟨w, vs, body⟩ := p;dsimp only at hk hv;have hfin := ed (h := h) (e := 3) (sz := 1) (ag (bd ⟨w, vs, body⟩)) (ij _);apply ai Tryz.func17 U (Nb U) U U;(repeat' (first | apply ab | refine Wr 0 U U ?_ | refine Wr 1 U U ?_ | refine Wr 2 U U ?_ | apply ae));apply aS (S := lrS h ⟨w, vs, body⟩) (l := vs) (a0 := []) (fun i rest a => a ++ rest.map (·.level) = bd ⟨w, vs, body⟩ /\ a.length = i) (by omega) (by omega) rfl ⟨rfl, rfl⟩
 ·intro i v rest a hi hd hil hJ
  have hrow := gk hi;have hlt := ld hil;have hap := kw h a v.level (by omega);obtain ⟨nm, level, cells⟩ := v;dsimp only at hap;(repeat' (first | apply ab | refine ah U U ?_ | (refine Wo 3 U ?_;refine Tc 4 U (Tt U U ‹_› (Tn ?_))) | refine Wr 4 U U ?_ | (refine Wo 5 U ?_;refine Tc 4 U (Tg U (aq U U U U U ‹_›) ?_) <;> refine Tc 1 U (Tg U U (Tc 1 U (Tg U (aN U U U U U ‹_›) ?_))) <;> refine Tc 1 U (Tn ?_)) | apply ak | apply ae));exact ⟨a ++ [level], rfl, by rw [<- hJ.1]; simp, by simp [hJ.2]⟩
 ·intro a hJ
  have hlt := lf (l := vs);(repeat' (first | apply ab | refine af U U ?_ | (refine Wo 3 U ?_;refine Tc 4 U (Tf U U ‹_› (Tn ?_))) | refine Wr 6 U U ?_ | apply am | apply aC));have : a = bd ⟨w, vs, body⟩ := by simpa using hJ.1
  subst this;exact ⟨.inl rfl, hfin⟩
def s9 (p : bp) : Int := if sT p = true then (if iR p = true then 0 else 1) else 30
theorem eg (p : bp) (k : Nat) (hk : bA p.body + p.vars.length + 90 <= k) (hb : lB p) (h : aj) (lo : Nat) : call Tryz.prog ba (k + 1) lo (.func 29) [.agg (bY p)] h = some (.int .i64 (s9 p), h) := by
 have hS := w9 p (k - 2) (by omega) hb h h.length;rw [show k - 2 + 2 = k by omega] at hS
 have hc : s9 p = if sT p = true then (if iR p = true then 0 else 1) else 30 := rfl
 have hsp : iR p = (sT p && bt p) := rfl;generalize iR p = sp at hS hc hsp;generalize sT p = ok at hS hc hsp;obtain ⟨w, vs, body⟩ := p;cases ok <;> cases sp
 ·apply ai Tryz.func29 U (Nb U) U U
  (repeat' (first | apply ab | refine af U U ?_ | refine Wr 0 U U ?_ | (refine Wo 1 U ?_;refine Tc 1 U (Tg U (aa U U U U ‹_›) ?_) <;> refine Tc 1 U (Tf U U U (Tc 3 U (Tn ?_)))) | (refine Wo 2 U ?_;refine Tc 1 U (Tf U U U (Tc 4 U (Tn ?_)))) | refine Wr 4 U U ?_ | apply ak | apply am))
  all_goals exact ⟨.inl rfl, by rw [hc]; rfl⟩
 ·cases hsp
 ·apply ai Tryz.func29 U (Nb U) U U
  (repeat' (first | apply ab | refine ah U U ?_ | refine Wr 0 U U ?_ | (refine Wo 1 U ?_;refine Tc 1 U (Tg U (aa U U U U ‹_›) ?_) <;> refine Tc 1 U (Tf U U U (Tc 3 U (Tn ?_)))) | (refine Wo 2 U ?_;refine Tc 1 U (Tt U U U (Tc 4 U (Tn ?_)))) | refine Wr 3 U U ?_ | apply am))
  all_goals exact ⟨.inl rfl, by rw [hc]; rfl⟩
 ·apply ai Tryz.func29 U (Nb U) U U
  (repeat' (first | apply ab | refine af U U ?_ | refine Wr 0 U U ?_ | (refine Wo 1 U ?_;refine Tc 1 U (Tg U (aa U U U U ‹_›) ?_) <;> refine Tc 1 U (Tt U U U (Tc 3 U (Tn ?_)))) | (refine Wo 2 U ?_;refine Tc 1 U (Tt U U U (Tc 4 U (Tn ?_)))) | refine Wr 4 U U ?_ | apply ak | apply am))
  all_goals exact ⟨.inl rfl, by rw [hc]; rfl⟩
mutual
theorem ul {w : Int} {vs : List bk} (hh : cV w vs = true) (hc : ∀ v, v ∈ vs -> 1 <= v.cells) : ∀ (s : ay) (deep st nd : Int), 1 <= deep -> deep <= 16 -> 0 <= nd -> nd + jw s < 1000000 ->
  ((nt w vs s deep st nd).1 = true ↔ deep + Dg s <= 17 /\ dT w vs s = true /\ nd + jw s <= 400) /\ ((nt w vs s deep st nd).1 = true -> (nt w vs s deep st nd).2.2 = nd + jw s)
 | .mk op n a t e, deep, st, nd, d0, d1, n0, n1 => by
  rw [jw] at n1;rw [wQ, Dg, jw, dT, eo (n := nd + 1) (by omega) (by omega), eo (n := deep + 1) (by omega) (by omega), Di hc];generalize IntKind.i64.wrap (st + 1) = st1
  by_cases hb : nd + 1 > 400
  ·rw [decide_eq_true hb, Bool.true_or, if_pos rfl]
   refine ⟨⟨fun h => (by cases h), fun ⟨_, _, h⟩ => by omega⟩, fun h => (by cases h)⟩
  rw [decide_eq_false hb, Bool.false_or];cases hH : iP vs (.mk op n a t e) with
  | false => simp
  | true =>
   rw [Bool.not_true, if_neg (by simp)];obtain ⟨a1, a2⟩ := wV w vs hh a (nd + 1) (by omega) (by omega);generalize iO w vs a (nd + 1) = q at a1 a2;unfold GO;cases hq : q.1 with
   | false =>
    rw [hq] at a1;rw [if_neg (by simp), <- a1]; simp
   | true =>
    rw [hq] at a1;rw [if_pos rfl, <- a1, a2 hq];unfold nu;obtain ⟨t1, t2⟩ := oP hh hc t (deep + 1) st1 (nd + 1 + dn a) (by omega) (by omega) (by omega) (by omega);generalize dK w vs t (deep + 1) st1 (nd + 1 + dn a) = T at t1 t2;cases hT : T.1 with
    | false =>
     rw [if_neg (by simp)];refine ⟨⟨fun h => (by rw [hT] at h; cases h), fun ⟨g1, g2, g3⟩ => ?_⟩, fun h => (by rw [hT] at h; cases h)⟩
     have : T.1 = true := t1.2 ⟨by omega, by simp only [Bool.and_eq_true] at g2; exact g2.1.1.2, by omega⟩
     rw [hT] at this; cases this
    | true =>
     rw [if_pos rfl, t2 hT];obtain ⟨g1, g2, g3⟩ := t1.1 hT;obtain ⟨e1, e2⟩ := oP hh hc e (deep + 1) T.2.1 (nd + 1 + dn a + bu t) (by omega) (by omega) (by omega) (by omega);refine ⟨?_, fun h => by rw [e2 h]; omega⟩
     rw [e1];simp only [g2, Bool.true_and, Bool.and_true];constructor
     ·rintro ⟨k1, k2, k3⟩; exact ⟨by omega, k2, by omega⟩
     ·rintro ⟨k1, k2, k3⟩; exact ⟨by omega, k2, by omega⟩
theorem um {w : Int} {vs : List bk} (hh : cV w vs = true) (hc : ∀ v, v ∈ vs -> 1 <= v.cells) : ∀ (l : List ay) (deep st nd : Int), 1 <= deep -> deep <= 16 -> 0 <= nd -> nd + bu l < 1000000 ->
  ((gJ w vs l deep st nd).1 = true ↔ deep + kK l <= 17 /\ ce w vs l = true /\ nd + bu l <= 400) /\ ((gJ w vs l deep st nd).1 = true -> (gJ w vs l deep st nd).2.2 = nd + bu l)
 | [], deep, st, nd, d0, d1, n0, n1 => by
  rw [gJ, kK, ce, bu];simp only [decide_eq_true_eq];refine ⟨⟨fun h => ⟨by omega, by trivial, by omega⟩, fun ⟨_, _, h⟩ => by omega⟩, fun _ => by omega⟩
 | s :: l, deep, st, nd, d0, d1, n0, n1 => by
  rw [bu] at n1;rw [mz, kK, ce, bu];obtain ⟨t1, t2⟩ := ul hh hc s deep st nd d0 d1 n0 (by omega);generalize nt w vs s deep st nd = T at t1 t2;unfold wP;cases hT : T.1 with
  | false =>
   rw [if_neg (by simp)];refine ⟨⟨fun h => (by rw [hT] at h; cases h), fun ⟨g1, g2, g3⟩ => ?_⟩, fun h => (by rw [hT] at h; cases h)⟩
   have : T.1 = true := t1.2 ⟨by omega, by simp only [Bool.and_eq_true] at g2; exact g2.1, by omega⟩
   rw [hT] at this; cases this
  | true =>
   rw [if_pos rfl, t2 hT];obtain ⟨g1, g2, g3⟩ := t1.1 hT;obtain ⟨e1, e2⟩ := um hh hc l deep T.2.1 (nd + jw s) d0 d1 (by omega) (by omega);refine ⟨?_, fun h => by rw [e2 h]; omega⟩
   rw [e1, g2, Bool.true_and];constructor
   ·rintro ⟨k1, k2, k3⟩; exact ⟨by omega, k2, by omega⟩
   ·rintro ⟨k1, k2, k3⟩; exact ⟨by omega, k2, by omega⟩
theorem oP {w : Int} {vs : List bk} (hh : cV w vs = true) (hc : ∀ v, v ∈ vs -> 1 <= v.cells) : ∀ (l : List ay) (deep st nd : Int), 1 <= deep -> deep <= 17 -> 0 <= nd -> nd + bu l < 1000000 ->
  ((dK w vs l deep st nd).1 = true ↔ deep + kK l <= 17 /\ ce w vs l = true /\ nd + bu l <= 400) /\ ((dK w vs l deep st nd).1 = true -> (dK w vs l deep st nd).2.2 = nd + bu l)
 | [], deep, st, nd, d0, d1, n0, n1 => by
  unfold dK lg;simp only [List.length_nil, kK, ce, bu, gJ];rw [if_neg (by simp)];simp only [decide_eq_true_eq];refine ⟨⟨fun h => ⟨by omega, by trivial, by omega⟩, fun ⟨_, _, h⟩ => by omega⟩, fun _ => by omega⟩
 | s :: l, deep, st, nd, d0, d1, n0, n1 => by
  by_cases hd : deep > 16
  ·unfold dK lg
   rw [if_pos (by rw [decide_eq_true hd]; simp)];refine ⟨⟨fun h => (by cases h), fun ⟨g, _, _⟩ => ?_⟩, fun h => (by cases h)⟩
   rw [kK] at g;have : 1 <= Dg s := by cases s; rw [Dg]; omega
   omega
  ·have hg : dK w vs (s :: l) deep st nd = gJ w vs (s :: l) deep st nd := by
    unfold dK lg;rw [if_neg (by rw [decide_eq_false hd]; simp)]
   rw [hg];rw [bu] at n1;rw [mz, kK, ce, bu];obtain ⟨t1, t2⟩ := ul hh hc s deep st nd d0 (by omega) n0 (by omega);generalize nt w vs s deep st nd = T at t1 t2;unfold wP;cases hT : T.1 with
   | false =>
    rw [if_neg (by simp)];refine ⟨⟨fun h => (by rw [hT] at h; cases h), fun ⟨g1, g2, g3⟩ => ?_⟩, fun h => (by rw [hT] at h; cases h)⟩
    have : T.1 = true := t1.2 ⟨by omega, by simp only [Bool.and_eq_true] at g2; exact g2.1, by omega⟩
    rw [hT] at this; cases this
   | true =>
    rw [if_pos rfl, t2 hT];obtain ⟨g1, g2, g3⟩ := t1.1 hT;obtain ⟨e1, e2⟩ := um hh hc l deep T.2.1 (nd + jw s) d0 (by omega) (by omega) (by omega);refine ⟨?_, fun h => by rw [e2 h]; omega⟩
    rw [e1, g2, Bool.true_and];constructor
    ·rintro ⟨k1, k2, k3⟩; exact ⟨by omega, k2, by omega⟩
    ·rintro ⟨k1, k2, k3⟩; exact ⟨by omega, k2, by omega⟩
end
theorem GR (p : bp) (hN : bu p.body <= 600) : sT p = iF p := by
 unfold sT iF;rw [<- vt];cases hh : cV p.width p.vars with
 | false => simp
 | true =>
  have hc : ∀ v, v ∈ p.vars -> 1 <= v.cells := by
   have := hh;rw [vt] at this;unfold iz at this;simp only [Bool.and_eq_true] at this;exact zq this.2
  obtain ⟨g1, _⟩ := oP hh hc p.body 1 0 0 (by omega) (by omega) (by omega) (by omega);have hD := qf p.body;rw [ny _ _ (by omega) (by omega), nA _ _ (by omega) (by omega) (by omega)];rw [Bool.eq_iff_iff, Bool.true_and, Bool.true_and, g1];simp only [Bool.and_eq_true, decide_eq_true_eq];constructor
  ·rintro ⟨k1, k2, k3⟩; exact ⟨⟨by omega, by omega⟩, k2⟩
  ·rintro ⟨⟨k1, k2⟩, k3⟩; exact ⟨by omega, k3, by omega⟩
mutual
theorem AC {w c : Int} {vs : List bk} : ∀ (e : aF), df w vs c e = true -> E6 vs.length e
 | .mk op n cp es, h => by
  rw [df, Bool.and_eq_true] at h;rw [E6];refine ⟨fun ho => ?_, xb es h.2⟩
  have := h.1;unfold kG at this;dsimp only at this;rw [if_pos ho] at this;simp only [Bool.and_eq_true, decide_eq_true_eq] at this;exact ⟨this.1.1.1.1, this.1.1.1.2⟩
theorem xb {w c : Int} {vs : List bk} : ∀ (es : List aF), db w vs c es = true -> s7 vs.length es
 | [], _ => trivial
 | e :: es, h => by
  rw [db, Bool.and_eq_true] at h;exact ⟨AC e h.1, xb es h.2⟩
end
theorem GS {w c : Int} {vs : List bk} {e : aF} (h : ks w vs c e = true) : E6 vs.length e := by
 unfold ks at h;simp only [Bool.and_eq_true] at h;exact AC e h.2
theorem oQ (p : bp) (hN : bu p.body <= 600) : s9 p = cx p := by
 unfold s9 cx iR;rw [GR p hN];cases iF p <;> simp
theorem fC {p : bp} (h : iF p = true) : cV p.width p.vars = true /\ 1 <= p.vars.length /\ p.vars.length <= 18 := by
 unfold iF at h;simp only [Bool.and_eq_true] at h;have := h.1.1.1;rw [vt];refine ⟨this, ?_⟩;unfold iz at this;simp only [Bool.and_eq_true, Bool.not_eq_true', decide_eq_false_iff_not] at this;omega
theorem vD {sz : Nat} {rows : List (List AV)} (h : rows ≠ []) : bg sz rows = .vs sz rows := by
 cases rows with
 | nil => exact absurd rfl h
 | cons r l => rfl
theorem cq (p : bp) : (bd p).length = p.vars.length := by simp [bd]
theorem vE {p : bp} (h : 1 <= p.vars.length) : ag (bd p) ≠ [] := fun e => by
 have := congrArg List.length e;rw [bw, cq, List.length_nil] at this;omega
theorem gW (p : bp) : (cx p = 0 /\ iF p = true /\ bt p = true) \/ cx p = 1 \/ cx p = 30 := by
 unfold cx;cases iF p <;> cases bt p <;> simp
theorem BQ (k lo : Nat) (h : aj) (hk : 1 <= k) : call Tryz.prog ba k lo (.func 6) [] h = some (.bool true, h) := by
 cases k with
 | zero => omega
 | succ k => rfl
def oaS (h : aj) (lo : Nat) (l : List Int) (es : List aF) (j : Int) (a : Int) : St :=
 {env := [(0, .v (.vs 1 (ag l))), (5, .v (.int .i64 a)), (8, .v (.vs 4 (bc es))), (9, .v (.int .i64 (bc es).length)), (10, .v (.int .i64 j))], loc := [], heap := h, inRound := false, lo := lo }
theorem un (es : List aF) (l : List Int) (k : Nat) (hk : cQ es <= k) (hl : es.length < 9223372036854775808) (hb : jg es) (hr : s7 l.length es) (h : aj) (lo : Nat) : call Tryz.prog ba (k + 1) lo (.func 61) [.vs 1 (ag l), .vs 4 (bc es)] h = some (.int .i64 (bz l 0 es), h) := by
 have hlen := bB es;apply ai Tryz.func61 U (Nb U) U U;(repeat' (first | apply ab | refine Wr 0 U U ?_ | refine Wr 1 U U ?_ | refine Wr 2 U U ?_ | apply ae));apply cg (S := oaS h h.length l es) (l := es) (a0 := 0) (fun rest a => bz l a rest = bz l 0 es) hl (by omega) rfl rfl
 ·intro i e rest a hi hd hil hJ
  have hrow := bQ _ _ _ hi;have ih := zg k e l (by have := bX es i _ hi; omega) (bL es i _ hb hi) (rj hr hi) h.length h;have hlt := di hil;obtain ⟨op', n', cp', es'⟩ := e;(repeat' (first | apply ab | refine ah U U ?_ | (refine Wo 3 U ?_;refine Tt U U ‹_› (Tn ?_)) | (refine Wo 4 U ?_;refine Tg U (aq U U U U U ‹_›) ?_ <;> refine Tg U U (Tc 2 U (Tn ?_))) | (refine Wo 5 U ?_;refine Tc 3 U (Tg U (aa U U U U ‹_›) ?_) <;> refine Tc 2 U (Tn ?_)) | refine Wr 6 U U ?_ | apply ak | apply ae));exact ⟨_, rfl, by rw [<- hJ]; rfl⟩
 ·intro a hJ
  have hlt := dj (l := es);(repeat' (first | apply ab | refine af U U ?_ | (refine Wo 3 U ?_;refine Tf U U ‹_› (Tn ?_)) | refine Wr 7 U U ?_ | apply am | apply aC));exact ⟨.inl rfl, Eq.trans (b := some (AV.int .i64 a, _)) rfl (by rw [<- hJ]; rfl)⟩
def aW (a b : Int) : Bool := IntKind.i64.wrap ((BitVec.ofInt 64 a) &&& ~~~(BitVec.ofInt 64 b)).toNat == 0
theorem d5 (a b : Int) (k lo : Nat) (h : aj) : call Tryz.prog ba (k + 1) lo (.func 35) [.int .i64 a, .int .i64 b] h = some (.bool (aW a b), h) := by
 cases hc : aW a b
 all_goals
  unfold aW at hc;apply ai Tryz.func35 U (Nb U) U U;(repeat' (first | apply ab | refine Wr 0 U U ?_ | (refine Wo 1 U ?_;refine Tc 3 U ?_ <;> (refine aK U ?_; first | refine bi U ‹_› ?_ | refine aT U ‹_› ?_) <;> refine Tc 1 U (Tn ?_)) | apply am))
  all_goals exact ⟨.inl rfl, rfl⟩
def ep (a f t : Int) : List (List AV) := if aW f t = true then [] else [[.int .i64 a, .int .i64 f, .int .i64 t]]
mutual
def jj : ay -> Int -> Int
 | .mk _ _ _ t e, n => IntKind.i64.wrap (IntKind.i64.wrap (IntKind.i64.wrap (n + 1) + cW t 0) + cW e 0)
def cW : List ay -> Int -> Int
 | [], n => n
 | s :: l, n => cW l (jj s n)
end
def cnS (h : aj) (lo : Nat) (l : List ay) (i : Int) (n : Int) : St :=
 {env := [(0, .v (.vs 5 (br l))), (3, .v (.int .i64 n)), (4, .v (.int .i64 i))], loc := [], heap := h, inRound := false, lo := lo }
theorem eZ : ∀ (k : Nat) (l : List ay), bA l <= k -> l.length < 9223372036854775808 -> eQ l -> ∀ (h : aj) (lo : Nat), call Tryz.prog ba k lo (.func 130) [.vs 5 (br l)] h = some (.int .i64 (cW l 0), h)
 | 0, l, hk, _, _, _, _ => by have := b9 l; omega
 | k + 1, l, hk, hlen, hb, h, lo => by
  have hll := b9 l;apply ai Tryz.func130 U (Nb U) U U;(repeat' (first | apply ab | refine Wr 0 U U ?_ | refine Wr 1 U U ?_ | refine Wr 2 U U ?_ | apply ae));apply cg (S := cnS h h.length l) (l := l) (a0 := 0) (fun rest a => cW rest a = cW l 0) hlen (by omega) rfl rfl
  ·intro i st rest a hi hd hil hJ
   have hlt := f5 hil;have hrow := de _ _ _ hi;have hmem := dY l i _ hi;have hbm := dt l i _ hb hi;obtain ⟨op, nn, ar, t, e⟩ := st;rw [iy] at hmem;rw [kP] at hbm;obtain ⟨⟨ha1, ha2⟩, ⟨ht1, ht2⟩, he1, he2⟩ := hbm;have hla := bB ar;rw [cW, jj] at hJ;have iht := eZ k t (by omega) ht1 ht2 h h.length;have ihe := eZ k e (by omega) he1 he2 h h.length;(repeat' (first | apply ab | refine ah U U ?_ | (refine Wo 3 U ?_;refine Tc 3 U (Tt U U ‹_› (Tn ?_))) | refine Wr 4 U U ?_ | (refine Wd 5 [0,1,0,0,12,28,60,124,255,0,0,1536,3584,7680,16124,32767,65535] U U (by decide +kernel) ?_;refine Uf U U U (Uf U U U (Uf U U U (Uf U U U (Uf U (aq U U U U U ‹_›) U ?_)))) <;> refine Uf U U U (Uf U U U (Uf U (aa U U U U ‹_›) U ?_)) <;> refine Uf U U U (Uf U U U (Uf U U U (Uf U (aq U U U U U ‹_›) U ?_))) <;> refine Uf U U U (Uf U U U (Uf U (aa U U U U ‹_›) U ?_)) <;> refine Uo U U (Uo U U (Un ?_))) | apply ak | apply ae));exact ⟨_, rfl, hJ⟩
  ·intro a hJ
   have hlt := f8 (l := l);(repeat' (first | apply ab | refine af U U ?_ | (refine Wo 3 U ?_;refine Tc 3 U (Tf U U ‹_› (Tn ?_))) | refine Wr 6 U U ?_ | apply am | apply aC));exact ⟨.inl rfl, Eq.trans (b := some (AV.int .i64 a, _)) rfl (by rw [<- hJ]; rfl)⟩
def bF (x : Int × ay) : List AV := .int .i64 x.1 :: ig x.2
def bj : List ay -> Int -> List (Int × ay)
 | [], _ => []
 | s :: l, n => (n, s) :: bj l (jj s n)
theorem f9 : ∀ (l : List ay) (n : Int), (bj l n).length = l.length
 | [], _ => rfl
 | s :: l, n => by simp [bj, f9 l]
theorem gX (its : List (Int × ay)) : ∀ r, r ∈ its.map bF -> r.length = 6 /\ ∀ x, x ∈ r -> bh x = true := by
 intro r hr;obtain ⟨⟨n, s⟩, _, rfl⟩ := List.mem_map.1 hr;obtain ⟨op, nn, a, t, e⟩ := s;refine ⟨rfl, fun x hx => ?_⟩
 simp only [bF, ig, List.mem_cons, List.not_mem_nil, or_false] at hx;rcases hx with rfl | rfl | rfl | rfl | rfl | rfl <;> rfl
theorem uo (h : aj) (its : List (Int × ay)) (x : Int × ay) (hl : its.length < 100000) : append ba.tab h.length (aQ h 92 (its.map bF)) 89 (bo h 6 (its.map bF)) (.vs 6 [bF x]) = some (bo h 6 ((its ++ [x]).map bF), aQ h 92 ((its ++ [x]).map bF)) := by
 have := cy (tab := ba.tab) (lo := h.length) (h := h) (t := 89) (e := 92) rfl rfl (by decide) (Nat.le_refl _) (its.map bF) [bF x] (fun r hr => (gX its r hr).1) (by rw [List.length_map]; simp only [List.length_cons, List.length_nil, ca]; show (its.length + (0 + 1)) * 96 <= _; omega) (by rw [List.length_map]; simp [ca]; omega);rw [this];simp
def imS (h : aj) (l : List ay) (i : Int) (a : List (Int × ay) × Int) : St :=
 {env := [(0, .v (.vs 5 (br l))), (1, .v (.int .i64 a.2)), (5, .v (bo h 6 (a.1.map bF))), (6, .v (.int .i64 i))], loc := [], heap := aQ h 92 (a.1.map bF), inRound := false, lo := h.length }
theorem oS (l : List ay) (n : Int) (k : Nat) (hk : bA l <= k) (hl : l.length < 1000) (hb : eQ l) (h : aj) (lo : Nat) : call Tryz.prog ba (k + 1) lo (.func 89) [.vs 5 (br l), .int .i64 n] h = some (bg 6 ((bj l n).map bF), h) := by
 have hll := b9 l;have hfin := ed (h := h) (e := 92) (sz := 6) ((bj l n).map bF) (gX _);apply ai Tryz.func89 U (Nb U) U U;(repeat' (first | apply ab | refine Wr 0 U U ?_ | refine Wr 1 U U ?_ | refine Wr 2 U U ?_ | apply ae));apply aS (S := imS h l) (l := l) (a0 := ([], n)) (fun i rest a => a.1 ++ bj rest a.2 = bj l n /\ a.1.length = i) (by omega) (by omega) rfl ⟨rfl, rfl⟩
 ·intro i st rest a hi hd hil hJ
  obtain ⟨its, m⟩ := a;have hlt := f5 hil;have hrow := de _ _ _ hi;have hmem := dY l i _ hi;have hbm := dt l i _ hb hi;have hap := uo h its (m, st) (by have := hJ.2; dsimp only at this; omega);obtain ⟨hJ, hJl⟩ := hJ;rw [bj] at hJ;obtain ⟨op, nn, ar, t, e⟩ := st;rw [iy] at hmem;rw [kP] at hbm;obtain ⟨⟨ha1, ha2⟩, ⟨ht1, ht2⟩, he1, he2⟩ := hbm;have hla := bB ar;rw [jj] at hJ;dsimp only at hJ hJl;have iht := eZ k t (by omega) ht1 ht2 (aQ h 92 ((its ++ [(m, ay.mk op nn ar t e)]).map bF)) (aQ h 92 ((its ++ [(m, ay.mk op nn ar t e)]).map bF)).length;have ihe := eZ k e (by omega) he1 he2 (aQ h 92 ((its ++ [(m, ay.mk op nn ar t e)]).map bF)) (aQ h 92 ((its ++ [(m, ay.mk op nn ar t e)]).map bF)).length;(repeat' (first | apply ab | refine ah U U ?_ | (refine Wo 3 U ?_;refine Tc 3 U (Tt U U ‹_› (Tn ?_))) | refine Wr 4 U U ?_ | (refine Wo 5 U ?_;refine Tc 4 U (Tg U (aq U U U U U ‹_›) ?_) <;> refine Tg U U (Tc 2 U (Tg U (aN U U U U U ‹_›) ?_)) <;> refine Tc 1 U (Tn ?_)) | (refine Wd 6 [0,1,0,0,12,28,60,124,255,0,0,1536,3584,7680,16124,32767,65535] U U (by decide +kernel) ?_;refine Uf U U U (Uf U U U (Uf U U U (Uf U U U (Uf U (aq U U U U U ‹_›) U ?_)))) <;> refine Uf U U U (Uf U U U (Uf U (aa U U U U ‹_›) U ?_)) <;> refine Uf U U U (Uf U U U (Uf U U U (Uf U (aq U U U U U ‹_›) U ?_))) <;> refine Uf U U U (Uf U U U (Uf U (aa U U U U ‹_›) U ?_)) <;> refine Uo U U (Uo U U (Un ?_))) | apply ak | apply ae));exact ⟨(its ++ [(m, .mk op nn ar t e)], IntKind.i64.wrap (IntKind.i64.wrap (IntKind.i64.wrap (m + 1) + cW t 0) + cW e 0)), rfl, by rw [<- hJ]; simp, by simp [hJl]⟩
 ·intro a hJ
  have hlt := f8 (l := l);obtain ⟨its, m⟩ := a;(repeat' (first | apply ab | refine af U U ?_ | (refine Wo 3 U ?_;refine Tc 3 U (Tf U U ‹_› (Tn ?_))) | refine Wr 7 U U ?_ | apply am | apply aC));have : its = bj l n := by simpa [bj] using hJ.1
  subst this;exact ⟨.inl rfl, hfin⟩
theorem Dl (n op nn : Int) (a : List aF) (t e : List ay) (k : Nat) (hk : bA t + 1 <= k) (hl : t.length < 1000) (hb : eQ t) (h : aj) (lo : Nat) :
  call Tryz.prog ba (k + 1) lo (.func 128) [.agg (bF (n, .mk op nn a t e))] h = some (bg 6 ((bj t (IntKind.i64.wrap (n + 1))).map bF), h) := by
 have hi := oS t (IntKind.i64.wrap (n + 1)) (k - 1) (by omega) hl hb h h.length;rw [show k - 1 + 1 = k by omega] at hi
 generalize bj t (IntKind.i64.wrap (n + 1)) = its at hi;cases its <;>
 ·apply ai Tryz.func128 U (Nb U) U U
  (repeat' (first | apply ab | refine Wr 0 U U ?_ | (refine Wo 1 U ?_;refine Tc 6 U (Tg U (aa U U U U ‹_›) ?_) <;> refine Tc 1 U (Tn ?_)) | apply am));exact ⟨.inl rfl, rfl⟩
theorem Dm (n op nn : Int) (a : List aF) (t e : List ay) (k : Nat) (hk : bA t + bA e + 1 <= k) (ht : t.length < 1000) (htb : eQ t) (hl : e.length < 1000) (hb : eQ e) (h : aj) (lo : Nat) :
  call Tryz.prog ba (k + 1) lo (.func 129) [.agg (bF (n, .mk op nn a t e))] h = some (bg 6 ((bj e (IntKind.i64.wrap (IntKind.i64.wrap (n + 1) + cW t 0))).map bF), h) := by
 have hc := eZ k t (by omega) (by omega) htb h h.length;have hi := oS e (IntKind.i64.wrap (IntKind.i64.wrap (n + 1) + cW t 0)) (k - 1) (by omega) hl hb h h.length;rw [show k - 1 + 1 = k by omega] at hi
 generalize bj e (IntKind.i64.wrap (IntKind.i64.wrap (n + 1) + cW t 0)) = its at hi;cases its <;>
 ·apply ai Tryz.func129 U (Nb U) U U
  (repeat' (first | apply ab | refine Wr 0 U U ?_ | (refine Wd 1 [0,1,3,0,8,24,0,64,192,448,1016,2047,4095] U U (by decide +kernel) ?_;refine Uf U U U (Uf U U U (Uf U U U (Uf U U U (Uf U U U (Uf U U U (Uf U U U (Uf U U U (Uf U U U (Uf U (aa U U U U ‹_›) U ?_))))))))) <;> refine Uf U U U (Uo U (aa U U U U ‹_›) ?_) <;> refine Uo U U (Un ?_)) | apply am));exact ⟨.inl rfl, rfl⟩
theorem xd {tab : wb} {lo : Nat} {h : aj} {t e : Nat} {ti : TI} {sz0 by_ : Nat} {zr : List AV} (ht : Go.Ev.look tab t = some ⟨.slice e, sz0, by_, zr⟩) (he : Go.Ev.look tab e = some ti) (hsz : 0 < ti.sz) (hlo : lo <= h.length) (rows more : List (List AV))
  (hr : ∀ r, r ∈ rows -> r.length = ti.sz) (hroom : (rows.length + more.length) * ti.bytes <= ca) (hroom2 : rows.length + more.length <= ca) :
  append tab lo (aQ h e rows) t (bo h ti.sz rows) (bg ti.sz more) = some (bo h ti.sz (rows ++ more), aQ h e (rows ++ more)) := by
 cases more with
 | cons m ms => exact cy ht he hsz hlo rows (m :: ms) hr hroom hroom2
 | nil =>
  have := cy ht he hsz hlo rows [] hr hroom hroom2;rw [<- this];unfold append;rw [ht];dsimp only;rw [he];simp [bg, fh, lenOf]
mutual
def xe (m : Nat) : ay -> Prop
 | .mk op n a t e => s7 m a /\ ((op = 0 \/ op = 4) -> 0 <= n /\ n < m) /\ vF m t /\ vF m e
def vF (m : Nat) : List ay -> Prop
 | [] => True
 | s :: l => xe m s /\ vF m l
end
theorem xf {m : Nat} : ∀ {l : List ay} {i : Nat} {e : ay}, vF m l -> l[i]? = some e -> xe m e
 | [], i, e, _, h => by simp at h
 | a :: l, 0, e, hb, h => by simp at h; subst h; exact hb.1
 | a :: l, i + 1, e, hb, h => by simp at h; exact xf hb.2 h
mutual
def xg (lv : List Int) : ay -> Int -> Int -> List (List AV)
 | .mk op nn a t e, ar, n =>
  (if op = 0 then ep n (be ar (bz lv 0 a)) (lv.getD nn.toNat 0) else if op = 4 then ep n (be (be ar (bz lv 0 a)) 16) (lv.getD nn.toNat 0) else if op = 3 then ep n (be ar (bz lv 0 a)) nn else []) ++
   (eE lv t (be ar (bz lv 0 a)) (IntKind.i64.wrap (n + 1)) ++ eE lv e (be ar (bz lv 0 a)) (IntKind.i64.wrap (IntKind.i64.wrap (n + 1) + cW t 0)))
def eE (lv : List Int) : List ay -> Int -> Int -> List (List AV)
 | [], _, _ => []
 | s :: l, ar, n => xg lv s ar n ++ eE lv l ar (jj s n)
end
theorem uq (a f t : Int) : ∀ r, r ∈ ep a f t -> r.length = 3 /\ ∀ x, x ∈ r -> bh x = true := by
 intro r hr;unfold ep at hr
 split at hr
 ·cases hr
 ·simp at hr; subst hr
  refine ⟨rfl, fun x hx => ?_⟩
  simp only [List.mem_cons, List.not_mem_nil, or_false] at hx;rcases hx with rfl | rfl | rfl <;> rfl
theorem BR (a f t : Int) : (ep a f t).length <= 1 := by unfold ep; split <;> simp
theorem iB : ∀ l : List ay, l.length <= bu l
 | [] => by simp
 | s :: l => by have := iB l; have := Fd s; rw [bu, List.length_cons]; omega
theorem xh : ∀ (l : List ay) (i : Nat) (e : ay), l[i]? = some e -> jw e <= bu l
 | [], i, e, h => by simp at h
 | a :: l, 0, e, h => by simp at h; subst h; rw [bu]; omega
 | a :: l, i + 1, e, h => by
  simp at h;have := xh l i e h;rw [bu]; omega
theorem GT {l : List ay} {n : Int} {i : Nat} (h : i < l.length) : decide ((i : Int) < (((bj l n).map bF).length : Int)) = true := decide_eq_true (by rw [List.length_map, f9]; omega)
theorem GU {l : List ay} {n : Int} : decide ((l.length : Int) < (((bj l n).map bF).length : Int)) = false := decide_eq_false (by rw [List.length_map, f9]; omega)
section
variable {σ : Type} (tl : σ -> Int -> Int -> Int -> σ) (lv : List Int)
mutual
def ma : ay -> Int -> σ -> Int -> σ × Int
 | .mk op nn a t e, ar, x, n =>
  if op = 0 then (tl x n (be ar (bz lv 0 a)) (lv.getD nn.toNat 0), IntKind.i64.wrap (n + 1)) else if op = 4 then (tl x n (be (be ar (bz lv 0 a)) 16) (lv.getD nn.toNat 0), IntKind.i64.wrap (n + 1))
  else if op = 3 then (tl x n (be ar (bz lv 0 a)) nn, IntKind.i64.wrap (n + 1))
  else if op = 1 \/ op = 2 then dR e (be ar (bz lv 0 a)) (dR t (be ar (bz lv 0 a)) x (IntKind.i64.wrap (n + 1))).1 (dR t (be ar (bz lv 0 a)) x (IntKind.i64.wrap (n + 1))).2
  else (x, IntKind.i64.wrap (n + 1))
def dR : List ay -> Int -> σ -> Int -> σ × Int
 | [], _, x, n => (x, n)
 | s :: l, ar, x, n => dR l ar (ma s ar x n).1 (ma s ar x n).2
end
end
def dy (x : List (List AV)) (a f t : Int) : List (List AV) := x ++ ep a f t
def Dn (h : aj) : List (List AV) -> AV
 | [] => .nils
 | r :: l => .sl (h.length + 2) 3 0 (l.length + 1)
def BS (h : aj) : List (List AV) -> aj
 | [] => h ++ [.cells 46 [.nils], .cells 3 [.int .i64 0]]
 | r :: l => h ++ [.cells 46 [.sl (h.length + 2) 3 0 (l.length + 1)], .cells 3 [.int .i64 0], .cells 109 (r :: l).flatten]
def kN (h : aj) : List (List AV) -> Int -> aj
 | [], m => h ++ [.cells 46 [.nils], .cells 3 [.int .i64 m]]
 | r :: l, m => h ++ [.cells 46 [.sl (h.length + 2) 3 0 (l.length + 1)], .cells 3 [.int .i64 m], .cells 109 (r :: l).flatten]
theorem vG (h : aj) (rows : List (List AV)) (m : Int) : (BS h rows).set (h.length + 1) (.cells 3 [.int .i64 m]) = kN h rows m := by
 cases rows <;> simp [BS, kN, List.set_append]
theorem Fh (h : aj) (rows : List (List AV)) : h.length + 1 < (BS h rows).length := by
 cases rows <;> simp [BS]
theorem Do (h : aj) (rows : List (List AV)) (hr : ∀ r, r ∈ rows -> r.length = 3) (hl : rows.length < 100000) (a f t m : Int) (k lo : Nat) (hlo : lo <= h.length) :
  call Tryz.prog ba (k + 2) lo (.func 101) [.int .i64 a, .int .i64 f, .int .i64 t, .hp h.length 1 0] (kN h rows m) = some (.tup [], kN h (rows ++ ep a f t) m) := by
 have hw := d5 f t k lo (kN h rows m);have hw2 := d5 f t k (kN h rows m).length (kN h rows m);unfold ep;cases hc : aW f t
 ·rw [hc] at hw hw2
  rw [if_neg (by simp)];cases rows with
  | nil =>
   have hg : (kN h [] m)[h.length]? = some (.cells 46 [.nils]) := by simp [kN]
   have hg2 : (kN h [] m ++ [ap.cells 109 [.int .i64 a, .int .i64 f, .int .i64 t]])[h.length]? = some (.cells 46 [.nils]) := by simp [kN]
   have hap : append ba.tab lo (kN h [] m) 46 .nils (.vs 3 [[.int .i64 a, .int .i64 f, .int .i64 t]]) = some (.sl (kN h [] m).length 3 0 1, kN h [] m ++ [.cells 109 [.int .i64 a, .int .i64 f, .int .i64 t]]) := rfl;have hend : (kN h [] m ++ [ap.cells 109 [.int .i64 a, .int .i64 f, .int .i64 t]]).set h.length (.cells 46 [.sl (kN h [] m).length 3 0 1]) = kN h [[.int .i64 a, .int .i64 f, .int .i64 t]] m := by simp [kN, List.set_append]
   rw [List.nil_append, <- hend];apply ai Tryz.func101 U (Nb U) U U;(repeat' (first | apply ab | refine ah U U ?_ | (refine Wo 0 U ?_;refine Tc 2 U (Tf U (aa U U U U ‹_›) U ?_) <;> refine Tc 1 U (Tn ?_)) | (refine Wo 1 U ?_;refine Tg U (aA U U U ‹_› U U) ?_ <;> refine Tc 5 U (Tg U (aN U U U U U ‹_›) ?_) <;> refine Tg U (aM U U U U ‹_› ⟨by assumption, U, U, Nb U⟩) ?_ <;> refine Tn ?_)));exact ⟨.inr rfl, rfl⟩
  | cons r l =>
   have hg : (kN h (r :: l) m)[h.length]? = some (.cells 46 [.sl (h.length + 2) 3 0 (l.length + 1)]) := by simp [kN]
   have hgo : (kN h (r :: l) m)[h.length + 2]? = some (.cells 109 (r :: l).flatten) := by simp [kN]
   have hg2 : ((kN h (r :: l) m).set (h.length + 2) (ap.cells 109 ((r :: l).flatten ++ [.int .i64 a, .int .i64 f, .int .i64 t])))[h.length]? = some (.cells 46 [.sl (h.length + 2) 3 0 (l.length + 1)]) := by
    rw [List.getElem?_set_ne (by omega)]; exact hg
   have hap : append ba.tab lo (kN h (r :: l) m) 46 (.sl (h.length + 2) 3 0 (l.length + 1)) (.vs 3 [[.int .i64 a, .int .i64 f, .int .i64 t]]) = some (.sl (h.length + 2) 3 0 (l.length + 1 + 1), (kN h (r :: l) m).set (h.length + 2) (.cells 109 ((r :: l).flatten ++ [.int .i64 a, .int .i64 f, .int .i64 t]))) := by
    unfold append;rw [show Go.Ev.look ba.tab 46 = some ⟨.slice 109, 1, 24, [.nils]⟩ from rfl]
    dsimp only;rw [show Go.Ev.look ba.tab 109 = some ⟨.struct [(0, 3), (1, 3), (2, 3)], 3, 24, [.int .i64 0, .int .i64 0, .int .i64 0]⟩ from rfl]
    have hrow : fh (kN h (r :: l) m) 3 (.vs 3 [[.int .i64 a, .int .i64 f, .int .i64 t]]) = some [.int .i64 a, .int .i64 f, .int .i64 t] := by simp [fh]
    dsimp only;rw [hrow];simp only [lenOf];rw [hgo];dsimp only;simp only [List.length_cons] at hl;rw [if_pos ⟨by omega, by trivial, by trivial, by trivial, by rw [dg _ hr]; rfl, by trivial, by simp only [ca, List.length_cons, List.length_nil]; omega, by simp only [ca, List.length_cons, List.length_nil]; omega⟩]
    rfl
   have hend : ((kN h (r :: l) m).set (h.length + 2) (ap.cells 109 ((r :: l).flatten ++ [.int .i64 a, .int .i64 f, .int .i64 t]))).set h.length (.cells 46 [.sl (h.length + 2) 3 0 (l.length + 1 + 1)]) = kN h (r :: l ++ [[.int .i64 a, .int .i64 f, .int .i64 t]]) m := by simp [kN, List.set_append]
   rw [<- hend];apply ai Tryz.func101 U (Nb U) U U;(repeat' (first | apply ab | refine ah U U ?_ | (refine Wo 0 U ?_;refine Tc 2 U (Tf U (aa U U U U ‹_›) U ?_) <;> refine Tc 1 U (Tn ?_)) | (refine Wo 1 U ?_;refine Tg U (aA U U U ‹_› U U) ?_ <;> refine Tc 5 U (Tg U (aN U U U U U ‹_›) ?_) <;> refine Tg U (aM U U U U ‹_› ⟨by assumption, U, U, Nb U⟩) ?_ <;> refine Tn ?_)));exact ⟨.inr rfl, rfl⟩
 ·rw [hc] at hw hw2
  rw [if_pos rfl, List.append_nil];apply ai Tryz.func101 U (Nb U) U U;(repeat' (first | apply ab | refine af U U ?_ | (refine Wo 0 U ?_;refine Tc 2 U (Tt U (aa U U U U ‹_›) U ?_) <;> refine Tc 1 U (Tn ?_)) | apply ak));exact ⟨.inr rfl, rfl⟩
def rE (rows : List (List AV)) : Prop := ∀ r, r ∈ rows -> r.length = 3 /\ ∀ x, x ∈ r -> bh x = true
mutual
theorem ur (lv : List Int) : ∀ (s : ay) (ar : Int) (x : List (List AV)) (n : Int), rE x -> rE (ma dy lv s ar x n).1 /\ (ma dy lv s ar x n).1.length <= x.length + jw s
 | .mk op nn a t e, ar, x, n, hx => by
  have key : ∀ a f t : Int, rE (dy x a f t) /\ (dy x a f t).length <= x.length + 1 := fun a f t => by
   refine ⟨fun r hr => ?_, ?_⟩
   ·rcases List.mem_append.1 hr with hr | hr
    ·exact hx r hr
    ·exact uq _ _ _ r hr
   ·unfold dy; have := BR a f t; rw [List.length_append]; omega
  rw [ma, jw]
  split
  ·exact ⟨(key _ _ _).1, by have := (key n (be ar (bz lv 0 a)) (lv.getD nn.toNat 0)).2; dsimp only; omega⟩
  split
  ·exact ⟨(key _ _ _).1, by have := (key n (be (be ar (bz lv 0 a)) 16) (lv.getD nn.toNat 0)).2; dsimp only; omega⟩
  split
  ·exact ⟨(key _ _ _).1, by have := (key n (be ar (bz lv 0 a)) nn).2; dsimp only; omega⟩
  split
  ·obtain ⟨g1, g2⟩ := jy lv t (be ar (bz lv 0 a)) x (IntKind.i64.wrap (n + 1)) hx
   obtain ⟨g3, g4⟩ := jy lv e (be ar (bz lv 0 a)) _ (dR dy lv t (be ar (bz lv 0 a)) x (IntKind.i64.wrap (n + 1))).2 g1;exact ⟨g3, by omega⟩
  ·exact ⟨hx, by dsimp only; omega⟩
theorem jy (lv : List Int) : ∀ (l : List ay) (ar : Int) (x : List (List AV)) (n : Int), rE x -> rE (dR dy lv l ar x n).1 /\ (dR dy lv l ar x n).1.length <= x.length + bu l
 | [], ar, x, n, hx => by rw [dR, bu]; exact ⟨hx, by dsimp only; omega⟩
 | s :: l, ar, x, n, hx => by
  rw [dR, bu];obtain ⟨g1, g2⟩ := ur lv s ar x n hx;obtain ⟨g3, g4⟩ := jy lv l ar _ (ma dy lv s ar x n).2 g1;exact ⟨g3, by omega⟩
end
def fpS (lv : List Int) (h : aj) (lo : Nat) (ar : Int) (l : List ay) (i : Int) (a : List (List AV) × Int) : St :=
 {env := [(1, .v (.vs 1 (ag lv))), (2, .v (.int .i64 ar)), (3, .v (.hp (h.length + 1) 1 0)), (4, .v (.fn (.func 101) [.hp h.length 1 0])), (14, .v (.vs 5 (br l))), (15, .v (.int .i64 (br l).length)), (16, .v (.int .i64 i))], loc := [], heap := (BS h a.1).set (h.length + 1) (.cells 3 [.int .i64 a.2]), inRound := false, lo := lo }
theorem mF (lv : List Int) (h : aj) (lo : Nat) (hlo' : lo <= h.length) : ∀ (k : Nat) (l : List ay), bA l + 20 <= k -> l.length < 9223372036854775808 -> eQ l -> vF lv.length l -> ∀ (ar : Int) (x : List (List AV)) (n : Int), rE x -> x.length + bu l <= 90000 ->
  call Tryz.prog ba k lo (.func 100) [.vs 5 (br l), .vs 1 (ag lv), .int .i64 ar, .hp (h.length + 1) 1 0, .fn (.func 101) [.hp h.length 1 0]] ((BS h x).set (h.length + 1) (.cells 3 [.int .i64 n])) =
   some (.tup [], (BS h (dR dy lv l ar x n).1).set (h.length + 1) (.cells 3 [.int .i64 (dR dy lv l ar x n).2]))
 | 0, l, hk, _, _, _, _, _, _, _, _ => by have := b9 l; omega
 | k + 1, l, hk, hlen, hb, hr, ar, x, n, hx3, hxn => by
  have hll := b9 l;have hlo : lo <= h.length + 1 := by omega
  generalize hR : dR dy lv l ar x n = R;apply ai Tryz.func100 U (Nb U) U U;(repeat' (first | apply ab | refine Wr 0 U U ?_ | apply ae));apply cg (S := fpS lv h lo ar l) (l := l) (a0 := (x, n)) (fun rest a => dR dy lv rest ar a.1 a.2 = R /\ rE a.1 /\ a.1.length + bu rest <= 90000) hlen (by omega) rfl ⟨hR, hx3, hxn⟩
  ·intro i s rest a hi hd hil hJ
   obtain ⟨x1, n1⟩ := a;obtain ⟨hJ, hx1, hxl⟩ := hJ;dsimp only at hJ hx1 hxl;rw [bu] at hxl;have hid1 := Fh h x1;obtain ⟨rw1, rw2⟩ := ur lv s ar x1 n1 hx1;have hlt := f5 hil;have hrow := de _ _ _ hi;have hmem := dY l i _ hi;have hbm := dt l i _ hb hi;have hrm := xf hr hi;obtain ⟨op, nn, a, t, e⟩ := s;rw [iy] at hmem;rw [kP] at hbm;rw [xe] at hrm;obtain ⟨⟨ha1, ha2⟩, ⟨ht1, ht2⟩, he1, he2⟩ := hbm;obtain ⟨r1, r2, r3, r4⟩ := hrm;have hla := bB a;rw [dR] at hJ;rw [jw] at hxl rw2;generalize hP : ma dy lv (.mk op nn a t e) ar x1 n1 = P at hJ rw1 rw2;have hJn : dR dy lv rest ar P.1 P.2 = R /\ rE P.1 /\ P.1.length + bu rest <= 90000 := ⟨hJ, rw1, by omega⟩
   clear hJ rw1 rw2;rw [ma] at hP;have hA := un a lv (k - 1) (by omega) ha1 ha2 r1 ((BS h x1).set (h.length + 1) (.cells 3 [.int .i64 (IntKind.i64.wrap (n1 + 1))])) lo;rw [show k - 1 + 1 = k by omega] at hA
   have yT : ∀ f t : Int, call Tryz.prog ba k lo (.func 101) [.int .i64 n1, .int .i64 f, .int .i64 t, .hp h.length 1 0] ((BS h x1).set (h.length + 1) (.cells 3 [.int .i64 (IntKind.i64.wrap (n1 + 1))])) = some (.tup [], (BS h (dy x1 n1 f t)).set (h.length + 1) (.cells 3 [.int .i64 (IntKind.i64.wrap (n1 + 1))])) := fun f t => by
    have := Do h x1 (fun r hr => (hx1 r hr).1) (by omega) n1 f t (IntKind.i64.wrap (n1 + 1)) (k - 2) lo hlo';rw [show k - 2 + 2 = k by omega] at this
    rw [vG, vG];exact this
   have y0 := yT (be ar (bz lv 0 a)) (lv.getD nn.toNat 0);have y4 := yT (be (be ar (bz lv 0 a)) 16) (lv.getD nn.toNat 0);have y3 := yT (be ar (bz lv 0 a)) nn
   by_cases o0 : op = 0
   ·have hx := rk (r2 (.inl o0))
    simp only [if_pos o0] at hP;have c0 : (op == 0) = true := by simp [o0]
    (repeat' (first | apply ab | refine ah U U ?_ | (refine Wo 1 U ?_;refine Tt U U ‹_› (Tn ?_)) | (refine Wo 2 U ?_;refine Tg U (aq U U U U U ‹_›) ?_ <;> refine Tg U U (Tc 2 U (Tn ?_))) | (refine Wo 3 U ?_;refine Tc 2 U (Tg U (bP U U U U ‹_› U U) ?_) <;> refine Tc 1 U (Tn ?_)) | (refine Wo 4 U ?_;refine Tc 2 U (Tg U (bP U U U U ‹_› U U) ?_) <;> refine Tc 2 U (Tg U (cL U U U U U ‹_› ‹_› ⟨U, U, Nb U⟩ U) ?_) <;> refine Tn ?_) | (refine Wo 5 U ?_;refine Tc 4 U (Tg U (aa U U U U ‹_›) ?_) <;> refine Tc 2 U (Tn ?_)) | refine Wr 6 U U ?_ | (refine Wo 7 U ?_;refine Tt U U ‹_› (Tc 1 U (Tn ?_))) | (refine Wo 8 U ?_;refine Tc 6 U (Tg U (bq U U U U U ‹_›) ?_) <;> refine Tg U U (Tg U (aa U U U U ‹_›) ?_) <;> refine Tn ?_) | refine Wr 17 U U ?_ | apply ak | apply ae));subst hP; exact ⟨(_, _), rfl, hJn⟩
   by_cases o4 : op = 4
   ·have hx := rk (r2 (.inr o4))
    simp only [if_neg o0, if_pos o4] at hP;have c0 : (op == 0) = false := by simp [o0]
    have c4 : (op == 4) = true := by simp [o4]
    (repeat' (first | apply ab | refine ah U U ?_ | refine af U U ?_ | (refine Wo 1 U ?_;refine Tt U U ‹_› (Tn ?_)) | (refine Wo 2 U ?_;refine Tg U (aq U U U U U ‹_›) ?_ <;> refine Tg U U (Tc 2 U (Tn ?_))) | (refine Wo 3 U ?_;refine Tc 2 U (Tg U (bP U U U U ‹_› U U) ?_) <;> refine Tc 1 U (Tn ?_)) | (refine Wo 4 U ?_;refine Tc 2 U (Tg U (bP U U U U ‹_› U U) ?_) <;> refine Tc 2 U (Tg U (cL U U U U U ‹_› ‹_› ⟨U, U, Nb U⟩ U) ?_) <;> refine Tn ?_) | (refine Wo 5 U ?_;refine Tc 4 U (Tg U (aa U U U U ‹_›) ?_) <;> refine Tc 2 U (Tn ?_)) | refine Wr 6 U U ?_ | (refine Wo 7 U ?_;refine Tf U U ‹_› (Tc 1 U (Tn ?_))) | (refine Wo 9 U ?_;refine Tt U U ‹_› (Tc 1 U (Tn ?_))) | (refine Wo 10 U ?_;refine Tc 7 U (Tg U (bq U U U U U ‹_›) ?_) <;> refine Tg U U (Tg U (aa U U U U ‹_›) ?_) <;> refine Tn ?_) | refine Wr 17 U U ?_ | apply ak | apply ae));subst hP; exact ⟨(_, _), rfl, hJn⟩
   by_cases o3 : op = 3
   ·simp only [if_neg o0, if_neg o4, if_pos o3] at hP
    have c0 : (op == 0) = false := by simp [o0]
    have c4 : (op == 4) = false := by simp [o4]
    have c3 : (op == 3) = true := by simp [o3]
    (repeat' (first | apply ab | refine ah U U ?_ | refine af U U ?_ | (refine Wo 1 U ?_;refine Tt U U ‹_› (Tn ?_)) | (refine Wo 2 U ?_;refine Tg U (aq U U U U U ‹_›) ?_ <;> refine Tg U U (Tc 2 U (Tn ?_))) | (refine Wo 3 U ?_;refine Tc 2 U (Tg U (bP U U U U ‹_› U U) ?_) <;> refine Tc 1 U (Tn ?_)) | (refine Wo 4 U ?_;refine Tc 2 U (Tg U (bP U U U U ‹_› U U) ?_) <;> refine Tc 2 U (Tg U (cL U U U U U ‹_› ‹_› ⟨U, U, Nb U⟩ U) ?_) <;> refine Tn ?_) | (refine Wo 5 U ?_;refine Tc 4 U (Tg U (aa U U U U ‹_›) ?_) <;> refine Tc 2 U (Tn ?_)) | refine Wr 6 U U ?_ | (refine Wo 7 U ?_;refine Tf U U ‹_› (Tc 1 U (Tn ?_))) | (refine Wo 9 U ?_;refine Tf U U ‹_› (Tc 1 U (Tn ?_))) | (refine Wo 11 U ?_;refine Tt U U ‹_› (Tc 1 U (Tn ?_))) | (refine Wo 12 U ?_;refine Tc 5 U (Tg U (aa U U U U ‹_›) ?_) <;> refine Tn ?_) | refine Wr 17 U U ?_ | apply ak | apply ae));subst hP; exact ⟨(_, _), rfl, hJn⟩
   have c0 : (op == 0) = false := by simp [o0]
   have c4 : (op == 4) = false := by simp [o4]
   have c3 : (op == 3) = false := by simp [o3]
   by_cases o1 : op = 1 \/ op = 2
   ·simp only [if_neg o0, if_neg o4, if_neg o3, if_pos o1] at hP
    have iht := mF lv h lo hlo' k t (by omega) ht1 ht2 r3 (be ar (bz lv 0 a)) x1 (IntKind.i64.wrap (n1 + 1)) hx1 (by omega);obtain ⟨tr1, tr2⟩ := jy lv t (be ar (bz lv 0 a)) x1 (IntKind.i64.wrap (n1 + 1)) hx1;generalize dR dy lv t (be ar (bz lv 0 a)) x1 (IntKind.i64.wrap (n1 + 1)) = T at iht hP tr1 tr2;have ihe := mF lv h lo hlo' k e (by omega) he1 he2 r4 (be ar (bz lv 0 a)) T.1 T.2 tr1 (by omega);generalize dR dy lv e (be ar (bz lv 0 a)) T.1 T.2 = E at ihe hP;rcases o1 with o1 | o1
    ·have c1 : (op == 1) = true := by simp [o1]
     (repeat' (first | apply ab | refine ah U U ?_ | refine af U U ?_ | (refine Wo 1 U ?_;refine Tt U U ‹_› (Tn ?_)) | (refine Wo 2 U ?_;refine Tg U (aq U U U U U ‹_›) ?_ <;> refine Tg U U (Tc 2 U (Tn ?_))) | (refine Wo 3 U ?_;refine Tc 2 U (Tg U (bP U U U U ‹_› U U) ?_) <;> refine Tc 1 U (Tn ?_)) | (refine Wo 4 U ?_;refine Tc 2 U (Tg U (bP U U U U ‹_› U U) ?_) <;> refine Tc 2 U (Tg U (cL U U U U U ‹_› ‹_› ⟨U, U, Nb U⟩ U) ?_) <;> refine Tn ?_) | (refine Wo 5 U ?_;refine Tc 4 U (Tg U (aa U U U U ‹_›) ?_) <;> refine Tc 2 U (Tn ?_)) | refine Wr 6 U U ?_ | (refine Wo 7 U ?_;refine Tf U U ‹_› (Tc 1 U (Tn ?_))) | (refine Wo 9 U ?_;refine Tf U U ‹_› (Tc 1 U (Tn ?_))) | (refine Wo 11 U ?_;refine Tf U U ‹_› (Tc 1 U (Tn ?_))) | (refine Wo 13 U ?_;refine Tt U U ‹_› (Tc 1 U (Tn ?_))) | (refine Wo 15 U ?_;refine Tc 6 U (Tg U (aa U U U U ‹_›) ?_) <;> refine Tn ?_) | (refine Wo 16 U ?_;refine Tc 6 U (Tg U (aa U U U U ‹_›) ?_) <;> refine Tn ?_) | refine Wr 17 U U ?_ | apply ak | apply ae));subst hP; exact ⟨(E.1, E.2), rfl, hJn⟩
    ·have c1 : (op == 1) = false := by simp [o1]
     have c2 : (op == 2) = true := by simp [o1]
     (repeat' (first | apply ab | refine ah U U ?_ | refine af U U ?_ | (refine Wo 1 U ?_;refine Tt U U ‹_› (Tn ?_)) | (refine Wo 2 U ?_;refine Tg U (aq U U U U U ‹_›) ?_ <;> refine Tg U U (Tc 2 U (Tn ?_))) | (refine Wo 3 U ?_;refine Tc 2 U (Tg U (bP U U U U ‹_› U U) ?_) <;> refine Tc 1 U (Tn ?_)) | (refine Wo 4 U ?_;refine Tc 2 U (Tg U (bP U U U U ‹_› U U) ?_) <;> refine Tc 2 U (Tg U (cL U U U U U ‹_› ‹_› ⟨U, U, Nb U⟩ U) ?_) <;> refine Tn ?_) | (refine Wo 5 U ?_;refine Tc 4 U (Tg U (aa U U U U ‹_›) ?_) <;> refine Tc 2 U (Tn ?_)) | refine Wr 6 U U ?_ | (refine Wo 7 U ?_;refine Tf U U ‹_› (Tc 1 U (Tn ?_))) | (refine Wo 9 U ?_;refine Tf U U ‹_› (Tc 1 U (Tn ?_))) | (refine Wo 11 U ?_;refine Tf U U ‹_› (Tc 1 U (Tn ?_))) | (refine Wo 13 U ?_;refine Tf U U ‹_› (Tc 1 U (Tn ?_))) | (refine Wo 14 U ?_;refine Tt U U ‹_› (Tc 1 U (Tn ?_))) | (refine Wo 15 U ?_;refine Tc 6 U (Tg U (aa U U U U ‹_›) ?_) <;> refine Tn ?_) | (refine Wo 16 U ?_;refine Tc 6 U (Tg U (aa U U U U ‹_›) ?_) <;> refine Tn ?_) | refine Wr 17 U U ?_ | apply ak | apply ae));subst hP; exact ⟨(E.1, E.2), rfl, hJn⟩
   ·simp only [if_neg o0, if_neg o4, if_neg o3, if_neg o1] at hP
    have c1 : (op == 1) = false := by simp; exact fun h => o1 (.inl h)
    have c2 : (op == 2) = false := by simp; exact fun h => o1 (.inr h)
    (repeat' (first | apply ab | refine ah U U ?_ | refine af U U ?_ | (refine Wo 1 U ?_;refine Tt U U ‹_› (Tn ?_)) | (refine Wo 2 U ?_;refine Tg U (aq U U U U U ‹_›) ?_ <;> refine Tg U U (Tc 2 U (Tn ?_))) | (refine Wo 3 U ?_;refine Tc 2 U (Tg U (bP U U U U ‹_› U U) ?_) <;> refine Tc 1 U (Tn ?_)) | (refine Wo 4 U ?_;refine Tc 2 U (Tg U (bP U U U U ‹_› U U) ?_) <;> refine Tc 2 U (Tg U (cL U U U U U ‹_› ‹_› ⟨U, U, Nb U⟩ U) ?_) <;> refine Tn ?_) | (refine Wo 5 U ?_;refine Tc 4 U (Tg U (aa U U U U ‹_›) ?_) <;> refine Tc 2 U (Tn ?_)) | refine Wr 6 U U ?_ | (refine Wo 7 U ?_;refine Tf U U ‹_› (Tc 1 U (Tn ?_))) | (refine Wo 9 U ?_;refine Tf U U ‹_› (Tc 1 U (Tn ?_))) | (refine Wo 11 U ?_;refine Tf U U ‹_› (Tc 1 U (Tn ?_))) | (refine Wo 13 U ?_;refine Tf U U ‹_› (Tc 1 U (Tn ?_))) | (refine Wo 14 U ?_;refine Tf U U ‹_› (Tc 1 U (Tn ?_))) | refine Wr 17 U U ?_ | apply ak | apply ae));subst hP; exact ⟨(x1, IntKind.i64.wrap (n1 + 1)), rfl, hJn⟩
  ·intro a hJ
   have hlt := f8 (l := l);have hJ := hJ.1;rw [dR] at hJ;(repeat' (first | apply ab | refine af U U ?_ | (refine Wo 1 U ?_;refine Tf U U ‹_› (Tn ?_)) | apply aC));exact ⟨.inr rfl, Eq.trans (b := some (AV.tup [], (BS h a.1).set (h.length + 1) (.cells 3 [.int .i64 a.2]))) rfl (by rw [<- hJ])⟩
end Go.Proofs.YtelobnllkhnpaaaGreat.L
