/- The evaluator run on symbols: a rule for each form of code. -/
import Derived.Test.YtelobnllkhnpaaaGreatK2
import Derived.Laws.IdiomRangeMap
set_option linter.unusedVariables false
set_option linter.unusedSimpArgs false
set_option maxHeartbeats 40000000
set_option maxRecDepth 1000000
namespace Go.Ev
variable {P : Program} {C : dO} {K : Callee} {f fuel : Nat} {s s1 s2 : St} {r : Option (Ex × St)}
theorem HI {a b : Code} (h1 : cf C K f fuel a s = some (.normal, s1)) (h2 : cf C K f fuel b s1 = r) : cf C K f fuel (.seq a b) s = r := by
 simp only [cf, h1, h2]
theorem tX {a b : Code} {e : Ex} (h1 : cf C K f fuel a s = some (e, s1)) (he : e ≠ .normal) : cf C K f fuel (.seq a b) s = some (e, s1) := by
 simp only [cf, h1];cases e <;> first | exact absurd rfl he | rfl
theorem CX {c : Operand} {x y : Code} {b : Bool} (h : s.val c = some (.bool b)) (ht : b = true -> cf C K f fuel x s = r) (hf : b = false -> cf C K f fuel y s = r) : cf C K f fuel (.cond c x y) s = r := by
 simp only [cf, h];cases b
 ·exact hf rfl
 ·exact ht rfl
theorem GF {c : Operand} {x y : Code} {b : Bool} (h : s.val c = some (.bool b)) (hb : b = true) (ht : cf C K f fuel x s = r) : cf C K f fuel (.cond c x y) s = r :=
 CX h (fun _ => ht) (fun e => by rw [hb] at e; cases e)
theorem EZ {c : Operand} {x y : Code} {b : Bool} (h : s.val c = some (.bool b)) (hb : b = false) (hf : cf C K f fuel y s = r) : cf C K f fuel (.cond c x y) s = r :=
 CX h (fun e => by rw [hb] at e; cases e) (fun _ => hf)
theorem tY {id : Nat} {ops : Array Oper} (h : dv C K f ops ops.toList (b7 (C.fr f id) s) = some s1) : cf C K f fuel (.region id ops false) s = some (.normal, s1) := by
 simp only [cf, Bool.false_eq_true, if_false, h, Option.map_some]
theorem wE {id : Nat} {ops : Array Oper} (hfr : C.fr f id = []) (h : dv C K f ops ops.toList s = some s1) : cf C K f fuel (.region id ops false) s = some (.normal, s1) :=
 tY (by rw [hfr]; exact h)
theorem S_op {ops : Array Oper} {o : Oper} {l : List Oper} (hg : bG ops o s = some true) (h : aE C K f o s = some s1) (k : dv C K f ops l s1 = some s2) : dv C K f ops (o :: l) s = some s2 := by
 simp only [dv, hg, h, k]
theorem GG {ops : Array Oper} {o : Oper} {l : List Oper} (hg : bG ops o s = some false) (k : dv C K f ops l (s.putv o.dst (.tup [])) = some s2) : dv C K f ops (o :: l) s = some s2 := by
 simp only [dv, hg, k]
theorem vj {id : Nat} {b : Code} {e : Ex} (h : cf C K f fuel b s = some (e, s1)) (he : e ≠ .exit id) : cf C K f fuel (.block id b) s = some (e, s1) := by
 simp only [cf, h];cases e with
 | normal => rfl
 | ret => rfl
 | exit i =>
  have : (i == id) = false := by simpa using fun h => he (by rw [h])
  simp only [this, Bool.false_eq_true, if_false]
theorem vk {id : Nat} {b : Code} (h : cf C K f fuel b s = some (.exit id, s1)) : cf C K f fuel (.block id b) s = some (.normal, s1) := by
 simp only [cf, h, beq_self_eq_true, if_true]
def iw (C : dO) (fn : Func) (fid : Nat) (h : aj) (s : St) : Option (AV × aj) :=
 match cP C s fn.results.toList with
 | some [a] => fk (C.nz fid) (C.cut fid) h a s.heap
 | some l => fk (C.nz fid) (C.cut fid) h (.tup l) s.heap
 | none => none
theorem CY {k lo : Nat} {fid : FuncId} {fn : Func} {b : Code} {args : List AV} {h : aj} {e : Ex} {out : AV × aj} (hf : P.funcs[fid]? = some fn) (hb : fn.body = some b) (hl : args.length <= fn.ntmps) (ho : C.orc lo (.func fid) args h = none) (hw : uT C (call P C k) fid args h = none)
  (hx : cf C (call P C k) fid k b { env := jb 0 args, loc := [], heap := h, inRound := false, lo := if C.cut fid then h.length else lo } = some (e, s1)) (he : e = .ret \/ e = .normal) (hr : iw C fn fid h s1 = some out) :
  call P C (k + 1) lo (.func fid) args h = some out := by
 unfold iw at hr;rcases he with rfl | rfl <;> (simp only [call, ho, hw, hf, hb, if_pos hl, hx]; exact hr)
theorem oG {k lo : Nat} {fid : FuncId} {args xs : List AV} {h h1 : aj} {r : AV} (ho : C.orc lo (.func fid) args h = none) (hw : C.vw fid = true) (hs : CF args = true) (hx : mV h 0 args = some xs) (hr : qx r = true)
  (hc : call P C k 0 (.func fid) xs [] = some (r, h1)) : call P C (k + 1) lo (.func fid) args h = some (r, h) := by
 have : uT C (call P C k) fid args h = some (r, h) := by
  unfold uT;simp only [hw, hs, Bool.and_self, hx, hc, hr]
 simp only [call, ho, this]
theorem aa {o : Oper} {c : Call} {g : Operand} {vs caps : List AV} {fn : Fn} {a : AV} {h' : aj} (ho : o.op = .call c) (hc : c.callee = .value g) (hv : s.vals c.args.toList = some vs) (hg : s.val g = some (.fn fn caps))
  (hk : K s.lo fn (vs ++ caps) s.heap = some (a, h')) (hz : qu (C.fz f) o.dst = false := by rfl) : aE C K f o s = some (({ s with heap := h' } : St).putv o.dst a) := by
 unfold aE;rw [ho];dsimp only;rw [hv];dsimp only;rw [hc];dsimp only;rw [hg];dsimp only;rw [hk, hz];show some _ = some _;congr 1;exact fq _ _ _ _
theorem gj {o : Oper} {c : Call} {g : Operand} {vs caps : List AV} {fn : Fn} {r : AV × aj} {a : AV} {h' : aj} (ho : o.op = .call c) (hc : c.callee = .value g) (hv : s.vals c.args.toList = some vs) (hg : s.val g = some (.fn fn caps))
  (hk : K s.lo fn (vs ++ caps) s.heap = some r) (hz : qu (C.fz f) o.dst = true) (hb : fm s.lo r = (a, h')) : aE C K f o s = some (({ s with heap := h' } : St).putv o.dst a) := by
 unfold aE;rw [ho];dsimp only;rw [hv];dsimp only;rw [hc];dsimp only;rw [hg];dsimp only;rw [hk, hz];simp only [Option.map_some, lR, hb];congr 1;exact fq _ _ _ _
theorem dN {o : Oper} {c : Call} {t u : Nat} {e sz by_ : Nat} {zr : List AV} {s0 x a : AV} {r : AV × aj} {h' : aj} (ho : o.op = .call c) (hc : c.callee = .builtin .append) (ht : c.argTypes = #[t, u]) (hu : look C.tab u = some ⟨.slice e, sz, by_, zr⟩) (hv : s.vals c.args.toList = some [s0, x])
  (ha : append C.tab s.lo s.heap t s0 x = some r) (hz : qu (C.fz f) o.dst = true) (hb : fm s.lo r = (a, h')) : aE C K f o s = some (({ s with heap := h' } : St).putv o.dst a) := by
 unfold aE;rw [ho];dsimp only;rw [hv];dsimp only;rw [hc, ht];simp only [builtin, hu, ha, Option.map_some, hz, lR, hb];congr 1;exact fq _ _ _ _
theorem aq {o : Oper} {t e sz by_ : Nat} {zr : List AV} {ti : TI} {x i : Operand} {xs : List (List AV)} {j : Nat} {k : IntKind} {row : List AV} (ho : o.op = .indexAddr t x i) (ht : look C.tab t = some ⟨.slice e, sz, by_, zr⟩) (he : look C.tab e = some ti)
  (hx : s.val x = some (.vs ti.sz xs)) (hi : s.val i = some (.int k j)) (hr : xs[j]? = some row) : aE C K f o s = some (s.putv o.dst (.rp row)) := by
 unfold aE;rw [ho];dsimp only;rw [ht, hx, hi];dsimp only;rw [he];dsimp only;rw [if_pos (Int.natCast_nonneg j), if_pos rfl, Int.toNat_natCast, hr]
 rfl
theorem bq {o : Oper} {t e sz by_ : Nat} {zr : List AV} {ti : TI} {x i : Operand} {xs : List (List AV)} {j : Int} {k : IntKind} {row : List AV} (ho : o.op = .indexAddr t x i) (ht : look C.tab t = some ⟨.slice e, sz, by_, zr⟩) (he : look C.tab e = some ti)
  (hx : s.val x = some (.vs ti.sz xs)) (hi : s.val i = some (.int k j)) (hr : 0 <= j /\ xs[j.toNat]? = some row) : aE C K f o s = some (s.putv o.dst (.rp row)) := by
 obtain ⟨m, rfl⟩ := Int.eq_ofNat_of_zero_le hr.1;exact aq ho ht he hx hi (by simpa using hr.2)
theorem dJ {o : Oper} {t e sz by_ T id off len : Nat} {zr : List AV} {ti : TI} {x i : Operand} {xs : List AV} {j : Nat} {k : IntKind} (ho : o.op = .indexAddr t x i) (ht : look C.tab t = some ⟨.slice e, sz, by_, zr⟩) (he : look C.tab e = some ti)
  (hx : s.val x = some (.sl id ti.sz off len)) (hi : s.val i = some (.int k j)) (hH : s.heap[id]? = some (.cells T xs)) (hj : j < len) (hl : off + len * ti.sz = xs.length) : aE C K f o s = some (s.putv o.dst (.hp id xs.length (off + j * ti.sz))) := by
 unfold aE;rw [ho];dsimp only;rw [ht, hx, hi];dsimp only;rw [he];dsimp only;rw [if_pos (Int.natCast_nonneg j), hH];dsimp only;rw [if_pos ⟨rfl, by omega, hl⟩, Int.toNat_natCast]
theorem dc {o : Oper} {t e sz by_ T id off len : Nat} {zr : List AV} {ti : TI} {x i : Operand} {xs : List AV} {j : Int} {k : IntKind} (ho : o.op = .indexAddr t x i) (ht : look C.tab t = some ⟨.slice e, sz, by_, zr⟩) (he : look C.tab e = some ti)
  (hx : s.val x = some (.sl id ti.sz off len)) (hi : s.val i = some (.int k j)) (hH : s.heap[id]? = some (.cells T xs)) (hj : 0 <= j /\ j.toNat < len) (hl : off + len * ti.sz = xs.length) : aE C K f o s = some (s.putv o.dst (.hp id xs.length (off + j.toNat * ti.sz))) := by
 obtain ⟨m, rfl⟩ := Int.eq_ofNat_of_zero_le hj.1;exact dJ ho ht he hx hi hH (by simpa using hj.2) hl
theorem aA {o : Oper} {t T id n off : Nat} {ti : TI} {x : Operand} {xs : List AV} {a : AV} (ho : o.op = .load t x) (ht : look C.tab t = some ti) (hx : s.slot x = some (.v (.hp id n off))) (hH : s.heap[id]? = some (.cells T xs)) (hn : n = xs.length)
  (hp : part ti xs off = some a) : aE C K f o s = some (s.putv o.dst a) := by
 unfold aE;rw [ho];dsimp only;rw [ht, hx];dsimp only;rw [hH];dsimp only;rw [if_pos hn, hp]
 rfl
theorem aM {o : Oper} {t T id n off : Nat} {ti : TI} {x y : Operand} {xs ys : List AV} (ho : o.op = .store t x y) (ht : look C.tab t = some ti) (hx : s.slot x = some (.v (.hp id n off))) (hy : (s.val y).bind cellsOf = some ys) (hH : s.heap[id]? = some (.cells T xs))
  (hc : s.lo <= id /\ n = xs.length /\ ys.length = ti.sz /\ off + ti.sz <= xs.length) : aE C K f o s = some (({ s with heap := s.heap.set id (.cells T (bb xs off ys)) } : St).putv o.dst (.tup [])) := by
 unfold aE;rw [ho];dsimp only;rw [ht, hx, hy];dsimp only;rw [hH];dsimp only;rw [if_pos hc]
theorem aN {o : Oper} {c : Call} {t u : Nat} {e sz by_ : Nat} {zr : List AV} {s0 x a : AV} {h' : aj} (ho : o.op = .call c) (hc : c.callee = .builtin .append) (ht : c.argTypes = #[t, u]) (hu : look C.tab u = some ⟨.slice e, sz, by_, zr⟩) (hv : s.vals c.args.toList = some [s0, x])
  (ha : append C.tab s.lo s.heap t s0 x = some (a, h')) (hz : qu (C.fz f) o.dst = false := by rfl) : aE C K f o s = some (({ s with heap := h' } : St).putv o.dst a) := by
 unfold aE;rw [ho];dsimp only;rw [hv];dsimp only;rw [hc, ht];simp only [builtin, hu, ha, Option.map_some, hz, lR];congr 1;exact fq _ _ _ _
section
variable {α σ : Type} (g : α -> σ -> σ) (c : σ -> Bool)
end
structure W (C : dO) (K : Callee) (f fuel : Nat) (c : Code) (s : St) (Q : Ex -> St -> Prop) : Prop where
 out : ∃ e s', cf C K f fuel c s = some (e, s') /\ Q e s'
def Gj (next : St -> Prop) (Q : Ex -> St -> Prop) : Ex -> St -> Prop
 | .normal, s => next s
 | e, s => Q e s
def CZ (id : Nat) (Q : Ex -> St -> Prop) : Ex -> St -> Prop
 | .exit i, s => if i = id then Q .normal s else Q (.exit i) s
 | e, s => Q e s
variable {Q : Ex -> St -> Prop}
theorem C0 {id : Nat} {ops : Array Oper} (hfr : C.fr f id = []) (h : dv C K f ops ops.toList s = some s1) (k : Q .normal s1) : W C K f fuel (.region id ops false) s Q := ⟨_, _, wE hfr h, k⟩
theorem GH {id : Nat} {ops : Array Oper} (hfr : C.fr f id = []) (hpin : C.pin f id = none) (ht : ml ops = false) (h : eu C K f ops (cR ops) ops.toList 0 s = some s1) (k : Q .normal s1) : W C K f fuel (.region id ops true) s Q :=
 ⟨.normal, s1, by simp only [cf, if_true, hfr, b7, yz, hpin, mX, ht, Bool.false_eq_true, if_false, h, Option.map_some], k⟩
theorem ab {a b : Code} (h : W C K f fuel a s (Gj (fun s1 => W C K f fuel b s1 Q) Q)) : W C K f fuel (.seq a b) s Q := by
 obtain ⟨e, s1, h1, h2⟩ := h;cases e with
 | normal =>
  obtain ⟨e2, s2, h3, h4⟩ := h2;exact ⟨e2, s2, HI h1 h3, h4⟩
 | exit i => exact ⟨_, _, tX h1 (by simp), h2⟩
 | ret => exact ⟨_, _, tX h1 (by simp), h2⟩
theorem y8 {c : Operand} {x y : Code} {b : Bool} (h : s.val c = some (.bool b)) (ht : b = true -> W C K f fuel x s Q) (hf : b = false -> W C K f fuel y s Q) : W C K f fuel (.cond c x y) s Q := by
 cases b with
 | true => obtain ⟨e, s', h1, h2⟩ := ht rfl; exact ⟨e, s', GF h rfl h1, h2⟩
 | false => obtain ⟨e, s', h1, h2⟩ := hf rfl; exact ⟨e, s', EZ h rfl h1, h2⟩
theorem ah {c : Operand} {x y : Code} {b : Bool} (h : s.val c = some (.bool b)) (hb : b = true) (ht : W C K f fuel x s Q) : W C K f fuel (.cond c x y) s Q :=
 y8 h (fun _ => ht) (fun e => by rw [hb] at e; cases e)
theorem af {c : Operand} {x y : Code} {b : Bool} (h : s.val c = some (.bool b)) (hb : b = false) (hf : W C K f fuel y s Q) : W C K f fuel (.cond c x y) s Q :=
 y8 h (fun e => by rw [hb] at e; cases e) (fun _ => hf)
theorem ak (h : Q .normal s) : W C K f fuel .skip s Q := ⟨_, _, rfl, h⟩
theorem aC {i : Nat} (h : Q (.exit i) s) : W C K f fuel (.exit i) s Q := ⟨_, _, rfl, h⟩
theorem am (h : Q .ret s) : W C K f fuel .ret s Q := ⟨_, _, rfl, h⟩
theorem ae {id : Nat} {b : Code} (h : W C K f fuel b s (CZ id Q)) : W C K f fuel (.block id b) s Q := by
 obtain ⟨e, s1, h1, h2⟩ := h;cases e with
 | normal => exact ⟨_, _, vj h1 (by simp), h2⟩
 | ret => exact ⟨_, _, vj h1 (by simp), h2⟩
 | exit i =>
  simp only [CZ] at h2
  split at h2
  ·rename_i e; subst e; exact ⟨_, _, vk h1, h2⟩
  ·rename_i e; exact ⟨_, _, vj h1 (by simpa using e), h2⟩
theorem ai {k lo : Nat} {fid : FuncId} {fn : Func} {b : Code} {args : List AV} {h : aj} {out : AV × aj} (hf : P.funcs[fid]? = some fn) (hb : fn.body = some b) (hl : args.length <= fn.ntmps) (ho : C.orc lo (.func fid) args h = none) (hw : uT C (call P C k) fid args h = none)
  (hx : W C (call P C k) fid k b { env := jb 0 args, loc := [], heap := h, inRound := false, lo := if C.cut fid then h.length else lo } (fun e s' => (e = .ret \/ e = .normal) /\ iw C fn fid h s' = some out)) : call P C (k + 1) lo (.func fid) args h = some out := by
 obtain ⟨e, s', h1, h2, h3⟩ := hx;exact CY hf hb hl ho hw h1 h2 h3
theorem cY {k lo : Nat} {fid : FuncId} {fn : Func} {b : Code} {args : List AV} {h : aj} {Z : AV × aj -> Prop} (hf : P.funcs[fid]? = some fn) (hb : fn.body = some b) (hl : args.length <= fn.ntmps) (ho : C.orc lo (.func fid) args h = none) (hw : uT C (call P C k) fid args h = none)
  (hx : W C (call P C k) fid k b { env := jb 0 args, loc := [], heap := h, inRound := false, lo := if C.cut fid then h.length else lo } (fun e s' => (e = .ret \/ e = .normal) /\ ∃ out, iw C fn fid h s' = some out /\ Z out)) : ∃ out, call P C (k + 1) lo (.func fid) args h = some out /\ Z out := by
 obtain ⟨e, s', h1, h2, out, h3, h4⟩ := hx;exact ⟨out, CY hf hb hl ho hw h1 h2 h3, h4⟩
def wF (l : Option (List Nat)) (next : St -> Prop) (Q : Ex -> St -> Prop) : Ex -> St -> Prop
 | .normal, t => next (mW l t)
 | e, t => Q e t
theorem wrap_i64 {n : Int} (h1 : -9223372036854775808 <= n) (h2 : n < 9223372036854775808) : IntKind.i64.wrap n = n := by
 have e1 : IntKind.i64.bits = 64 := rfl;have e2 : IntKind.i64.signed = true := rfl;simp only [IntKind.wrap, e1, e2, Bool.true_and, decide_eq_true_eq]
 split <;> omega
theorem aS {X A : Type} {b : Code} (J : Nat -> List X -> A -> Prop) (S : Int -> A -> St) {l : List X} {a0 : A} (hl : l.length < 9223372036854775808) (hfuel : l.length < fuel) (h0 : mW (C.live f (bJ b)) s = S 0 a0) (hJ : J 0 l a0)
  (step : ∀ (i : Nat) (x : X) (rest : List X) (a : A), l[i]? = some x -> l.drop i = x :: rest -> i < l.length -> J i (x :: rest) a ->
   W C K f fuel b (S i a) (wF (C.live f (bJ b)) (fun t => ∃ a', t = S (IntKind.i64.wrap ((i : Int) + 1)) a' /\ J (i + 1) rest a') Q))
  (last : ∀ a, J l.length [] a -> W C K f fuel b (S l.length a) (wF none (fun _ => False) Q)) : W C K f fuel (.loop b) s Q := by
 have key : ∀ (rest : List X) (i m : Nat) (s : St) (a : A), l.drop i = rest -> i + rest.length = l.length -> rest.length < m -> mW (C.live f (bJ b)) s = S i a -> J i rest a ->
   ∃ e s', fo (cf C K f fuel b) (C.live f (bJ b)) m s = some (e, s') /\ Q e s' := by
  intro rest
  induction rest with
  | nil =>
   intro i m s a hd hi hm hs hj;cases m with
   | zero => omega
   | succ m =>
    have hil : i = l.length := by simpa using hi
    subst hil;obtain ⟨e, s', h1, h2⟩ := last a hj;cases e with
    | normal => exact h2.elim
    | exit j => exact ⟨_, _, by simp only [fo, hs, h1], h2⟩
    | ret => exact ⟨_, _, by simp only [fo, hs, h1], h2⟩
  | cons x rest ih =>
   intro i m s a hd hi hm hs hj;simp only [List.length_cons] at hi hm;cases m with
   | zero => omega
   | succ m =>
    have hx : l[i]? = some x := by
     have := congrArg (fun z => z[0]?) hd;simpa using this
    obtain ⟨e, s', h1, h2⟩ := step i x rest a hx hd (by omega) hj;cases e with
    | normal =>
     obtain ⟨a', h3, h4⟩ := h2;have hw : IntKind.i64.wrap ((i : Int) + 1) = ((i + 1 : Nat) : Int) := by rw [wrap_i64 (n := (i : Int) + 1) (by omega) (by omega)]; omega
     rw [hw] at h3;have hd' : l.drop (i + 1) = rest := by rw [<- List.drop_drop, hd]; rfl
     obtain ⟨e2, s2, h5, h6⟩ := ih (i + 1) m s' a' hd' (by omega) (by omega) h3 h4;exact ⟨e2, s2, by simp only [fo, hs, h1]; exact h5, h6⟩
    | exit j => exact ⟨_, _, by simp only [fo, hs, h1], h2⟩
    | ret => exact ⟨_, _, by simp only [fo, hs, h1], h2⟩
 obtain ⟨e, s', h1, h2⟩ := key l 0 fuel s a0 rfl (by simp) hfuel h0 hJ;exact ⟨e, s', by simp only [cf]; exact h1, h2⟩
theorem cg {X A : Type} {b : Code} (J : List X -> A -> Prop) (S : Int -> A -> St) {l : List X} {a0 : A} (hl : l.length < 9223372036854775808) (hfuel : l.length < fuel) (h0 : mW (C.live f (bJ b)) s = S 0 a0) (hJ : J l a0)
  (step : ∀ (i : Nat) (x : X) (rest : List X) (a : A), l[i]? = some x -> l.drop i = x :: rest -> i < l.length -> J (x :: rest) a ->
   W C K f fuel b (S i a) (wF (C.live f (bJ b)) (fun t => ∃ a', t = S (IntKind.i64.wrap ((i : Int) + 1)) a' /\ J rest a') Q))
  (last : ∀ a, J [] a -> W C K f fuel b (S l.length a) (wF none (fun _ => False) Q)) : W C K f fuel (.loop b) s Q :=
 aS (fun _ => J) S hl hfuel h0 hJ step last
theorem vl {A : Type} {b : Code} (J : A -> Prop) (S : A -> St) (μ : A -> Nat) {a0 : A} (hfuel : μ a0 < fuel) (h0 : mW (C.live f (bJ b)) s = S a0) (hJ : J a0)
  (step : ∀ a, J a -> W C K f fuel b (S a) (wF (C.live f (bJ b)) (fun t => ∃ a', t = S a' /\ J a' /\ μ a' < μ a) Q)) : W C K f fuel (.loop b) s Q := by
 have key : ∀ (m : Nat) (s : St) (a : A), μ a < m -> mW (C.live f (bJ b)) s = S a -> J a ->
   ∃ e s', fo (cf C K f fuel b) (C.live f (bJ b)) m s = some (e, s') /\ Q e s' := by
  intro m
  induction m with
  | zero => intro s a hm; omega
  | succ m ih =>
   intro s a hm hs hj;obtain ⟨e, s', h1, h2⟩ := step a hj;cases e with
   | normal =>
    obtain ⟨a', h3, h4, h5⟩ := h2;obtain ⟨e2, s2, h6, h7⟩ := ih s' a' (by omega) h3 h4;exact ⟨e2, s2, by simp only [fo, hs, h1]; exact h6, h7⟩
   | exit j => exact ⟨_, _, by simp only [fo, hs, h1], h2⟩
   | ret => exact ⟨_, _, by simp only [fo, hs, h1], h2⟩
 obtain ⟨e, s', h1, h2⟩ := key fuel s a0 hfuel h0 hJ;exact ⟨e, s', by simp only [cf]; exact h1, h2⟩
theorem GI {ops : Array Oper} {bs : List Nat} {i : Nat} {o : Oper} {l : List Oper} (hg : bG ops o s = some false) (k : eu C K f ops bs l (i + 1) (s.putv o.dst (.tup [])) = some s2) : eu C K f ops bs (o :: l) i s = some s2 := by
 simp only [eu, hg, k]
structure WO (C : dO) (K : Callee) (f : Nat) (ops : Array Oper) (l : List Oper) (s : St) (Q : St -> Prop) : Prop where
 out : ∃ s2, dv C K f ops l s = some s2 /\ Q s2
structure WG (C : dO) (K : Callee) (f : Nat) (ops : Array Oper) (o : Oper) (l : List Oper) (s : St) (Q : St -> Prop) : Prop where
 out : ∃ s1, aE C K f o s = some s1 /\ WO C K f ops l s1 Q
variable {ops : Array Oper} {o : Oper} {l : List Oper} {R : St -> Prop}
theorem C2 {id : Nat} (hfr : C.fr f id = []) (h : WO C K f ops ops.toList s (Q .normal)) : W C K f fuel (.region id ops false) s Q := by
 obtain ⟨s2, h1, h2⟩ := h;exact ⟨_, _, wE hfr h1, h2⟩
theorem y9 {id : Nat} {s1 : St} (hfr : b7 (C.fr f id) s = s1) (h : WO C K f ops ops.toList s1 (Q .normal)) : W C K f fuel (.region id ops false) s Q := by
 obtain ⟨s2, h1, h2⟩ := h;exact ⟨_, _, tY (by rw [hfr]; exact h1), h2⟩
theorem Au (h : R s) : WO C K f ops [] s R := ⟨s, rfl, h⟩
theorem aK (hg : bG ops o s = some true) (k : WG C K f ops o l s R) : WO C K f ops (o :: l) s R := by
 obtain ⟨s1, h, s2, h1, h2⟩ := k;exact ⟨s2, S_op hg h h1, h2⟩
theorem au (hg : bG ops o s = some false) (k : WO C K f ops l (s.putv o.dst (.tup [])) R) : WO C K f ops (o :: l) s R := by
 obtain ⟨s2, h1, h2⟩ := k;exact ⟨s2, GG hg h1, h2⟩
theorem ev (h : aE C K f o s = some s1) (k : WO C K f ops l s1 R) : WG C K f ops o l s R := ⟨s1, h, k⟩
theorem km : ∀ (l m : List Oper) (s : St), dv C K f ops (l ++ m) s = (dv C K f ops l s).bind (dv C K f ops m)
 | [], m, s => rfl
 | o :: l, m, s => by
  simp only [List.cons_append, dv]
  split
  ·split
   ·exact km l m _
   ·rfl
  ·exact km l m _
  ·rfl
theorem T_ch (n : Nat) (h : dv C K f ops (l.take n) s = some s1) (k : WO C K f ops (l.drop n) s1 R) : WO C K f ops l s R := by
 obtain ⟨s2, h1, h2⟩ := k;refine ⟨s2, ?_, h2⟩
 conv => lhs; rw [<- List.take_append_drop n l]
 rw [km, h];exact h1
theorem aB {s0 : St} {d : Option Tmp} {b : Bool} (h : aE C K f o s = some (s0.putv d (.bool b))) (ht : b = true -> WO C K f ops l (s0.putv d (.bool true)) R) (hf : b = false -> WO C K f ops l (s0.putv d (.bool false)) R) : WG C K f ops o l s R := by
 cases b
 ·exact ⟨_, h, hf rfl⟩
 ·exact ⟨_, h, ht rfl⟩
theorem bi {s0 : St} {d : Option Tmp} {b : Bool} (h : aE C K f o s = some (s0.putv d (.bool b))) (hb : b = true) (k : WO C K f ops l (s0.putv d (.bool true)) R) : WG C K f ops o l s R := by
 subst hb; exact ⟨_, h, k⟩
theorem aT {s0 : St} {d : Option Tmp} {b : Bool} (h : aE C K f o s = some (s0.putv d (.bool b))) (hb : b = false) (k : WO C K f ops l (s0.putv d (.bool false)) R) : WG C K f ops o l s R := by
 subst hb; exact ⟨_, h, k⟩
structure WD (C : dO) (K : Callee) (f : Nat) (ops : Array Oper) (bs : List Nat) (l : List Oper) (i : Nat) (s : St) (Q : St -> Prop) : Prop where
 out : ∃ s2, eu C K f ops (bs) l i s = some s2 /\ Q s2
structure WH (C : dO) (K : Callee) (f : Nat) (ops : Array Oper) (bs : List Nat) (o : Oper) (l : List Oper) (i : Nat) (s : St) (Q : St -> Prop) : Prop where
 out : ∃ s1, (if dH (bs) ops.size i then aE C K f o s else qw C K f ops bs o i s) = some s1 /\ WD C K f ops bs l (i + 1) s1 Q
variable {bs : List Nat}
theorem GJ {id : Nat} (hfr : C.fr f id = []) (hpin : C.pin f id = none) (htl : ml ops = false) (hbs : cR ops = bs) (h : WD C K f ops bs ops.toList 0 s (Q .normal)) : W C K f fuel (.region id ops true) s Q := by
 obtain ⟨s2, h1, h2⟩ := h;subst hbs;exact GH hfr hpin htl h1 h2
theorem oH {id : Nat} {ops' : Array Oper} {es : List (Nat × Nat)} {hs : List Nat} (hfr : C.fr f id = []) (hpin : C.pin f id = some (es, hs)) (hok : Aj es hs ops = true) (hr : s.inRound = false) (he : pU es hs ops = ops') (hbs : cR ops' = bs) (h : WD C K f ops' bs ops'.toList 0 s (Q .normal)) : W C K f fuel (.region id ops true) s Q := by
 obtain ⟨s2, h1, h2⟩ := h;subst hbs he;exact ⟨.normal, s2, by simp only [cf, if_true, hfr, b7, yz, hpin, hok, hr, Bool.not_false, Bool.and_self, h1, Option.map_some], h2⟩
theorem HJ {i : Nat} (h : R s) : WD C K f ops bs [] i s R := ⟨s, rfl, h⟩
theorem aP {i : Nat} (hg : bG ops o s = some true) (k : WH C K f ops bs o l i s R) : WD C K f ops bs (o :: l) i s R := by
 obtain ⟨s1, h, s2, h1, h2⟩ := k;refine ⟨s2, ?_, h2⟩;simp only [eu, hg, h, h1]
theorem aL {i : Nat} (hg : bG ops o s = some false) (k : WD C K f ops bs l (i + 1) (s.putv o.dst (.tup [])) R) : WD C K f ops bs (o :: l) i s R := by
 obtain ⟨s2, h1, h2⟩ := k;exact ⟨s2, GI hg h1, h2⟩
theorem vm {i : Nat} (ha : dH (bs) ops.size i = true) (h : aE C K f o s = some s1) (k : WD C K f ops bs l (i + 1) s1 R) : WH C K f ops bs o l i s R := by
 refine ⟨s1, ?_, k⟩;rw [ha]; exact h
theorem aU {i d : Nat} {x : co} (ha : dH (bs) ops.size i = false) (hl : gO C f o = false)
  (h : aE C K f o { s with env := gI (cF ops o) s.env, lo := s.heap.length } = some s1) (hd : o.dst = some d) (hh : s1.heap = s.heap) (hx : look s1.env d = some x)
  (k : WD C K f ops bs l (i + 1) { s with env := (d, x) :: s.env } R) : WH C K f ops bs o l i s R := by
 have hs : jo C K f ops o s = some { s with env := (d, x) :: s.env } := by
  unfold jo;rw [hl];simp only [Bool.false_eq_true, if_false, h, hd, hx, hh, List.drop_length, List.append_nil]
 exact ⟨_, by rw [ha]; exact wf hs, k⟩
theorem ew {i d : Nat} {x : co} {more : aj} (ha : dH (bs) ops.size i = false) (hl : gO C f o = false)
  (h : aE C K f o { s with env := gI (cF ops o) s.env, lo := s.heap.length } = some s1) (hd : o.dst = some d) (hh : s1.heap = s.heap ++ more) (hx : look s1.env d = some x)
  (k : WD C K f ops bs l (i + 1) { s with env := (d, x) :: s.env, heap := s.heap ++ more } R) : WH C K f ops bs o l i s R := by
 have hs : jo C K f ops o s = some { s with env := (d, x) :: s.env, heap := s.heap ++ more } := by
  unfold jo;rw [hl];simp only [Bool.false_eq_true, if_false, h, hd, hx, hh, List.drop_left]
 exact ⟨_, by rw [ha]; exact wf hs, k⟩
structure WT (C : dO) (K : Callee) (f : Nat) (o0 o1 o2 : Oper) (s : St) (Q : St -> Prop) : Prop where
 out : ∃ s2 s3 s4, aE C K f o0 s = some s2 /\ jp o0 o1 o2 s s2 = true /\ aE C K f o1 s2 = some s3 /\ aE C K f o2 s3 = some s4 /\ Q s4
theorem C3 {id : Nat} {o0 o1 o2 : Oper} (hfr : C.fr f id = []) (hpin : C.pin f id = none) (ht : ml ops = true) (h0 : ops[ops.size - 3]? = some o0) (h1 : ops[ops.size - 2]? = some o1) (h2 : ops[ops.size - 1]? = some o2) (hbs : cR (dw ops) = bs)
  (h : WD C K f (dw ops) bs (dw ops).toList 0 s (fun s1 => WT C K f o0 o1 o2 s1 (Q .normal))) : W C K f fuel (.region id ops true) s Q := by
 obtain ⟨s1, q1, s2, s3, s4, q2, q3, q4, q5, q6⟩ := h;subst hbs;refine ⟨.normal, s4, ?_, q6⟩;simp only [cf, if_true, hfr, b7, yz, hpin, mX, ht, CE, q1, h0, h1, h2, q2, q3, q4, q5, Option.map_some]
theorem C4 {o0 o1 o2 : Oper} {s2 s3 s4 : St} (h0 : aE C K f o0 s = some s2) (ha : jp o0 o1 o2 s s2 = true) (h1 : aE C K f o1 s2 = some s3) (h2 : aE C K f o2 s3 = some s4) (k : R s4) : WT C K f o0 o1 o2 s R := ⟨s2, s3, s4, h0, ha, h1, h2, k⟩
theorem fy {i : Nat} (ha : dH (bs) ops.size i = false) (hn : io C ops bs o i s = true) (h : aE C K f o s = some s1) (k : WD C K f ops bs l (i + 1) s1 R) : WH C K f ops bs o l i s R :=
 ⟨s1, by rw [ha]; exact yy hn h, k⟩
theorem dA {i : Nat} {s0 : St} {d : Option Tmp} {b : Bool} (ha : dH (bs) ops.size i = true) (h : aE C K f o s = some (s0.putv d (.bool b))) (ht : b = true -> WD C K f ops bs l (i + 1) (s0.putv d (.bool true)) R) (hf : b = false -> WD C K f ops bs l (i + 1) (s0.putv d (.bool false)) R) : WH C K f ops bs o l i s R := by
 cases b
 ·exact vm ha h (hf rfl)
 ·exact vm ha h (ht rfl)
theorem fX {i : Nat} {s0 : St} {d : Option Tmp} {b : Bool} (ha : dH (bs) ops.size i = true) (h : aE C K f o s = some (s0.putv d (.bool b))) (hb : b = true) (k : WD C K f ops bs l (i + 1) (s0.putv d (.bool true)) R) : WH C K f ops bs o l i s R := by
 subst hb; exact vm ha h k
theorem d9 {i : Nat} {s0 : St} {d : Option Tmp} {b : Bool} (ha : dH (bs) ops.size i = true) (h : aE C K f o s = some (s0.putv d (.bool b))) (hb : b = false) (k : WD C K f ops bs l (i + 1) (s0.putv d (.bool false)) R) : WH C K f ops bs o l i s R := by
 subst hb; exact vm ha h k
theorem qd {i d : Nat} {s0 : St} {d' : Option Tmp} {b : Bool} (ha : dH (bs) ops.size i = false) (hl : gO C f o = false)
  (h : aE C K f o { s with env := gI (cF ops o) s.env, lo := s.heap.length } = some (s0.putv d' (.bool b))) (hd : o.dst = some d) (hd' : d' = some d) (hh : s0.heap = s.heap)
  (ht : b = true -> WD C K f ops bs l (i + 1) { s with env := (d, .v (.bool true)) :: s.env } R) (hf : b = false -> WD C K f ops bs l (i + 1) { s with env := (d, .v (.bool false)) :: s.env } R) : WH C K f ops bs o l i s R := by
 subst hd';refine aU ha hl h hd hh (x := .v (.bool b)) ?_ ?_
 ·show look ((d, _) :: s0.env) d = _
  rw [bE, if_pos rfl]
 ·cases b
  ·exact hf rfl
  ·exact ht rfl
theorem ix {i d : Nat} {s0 : St} {d' : Option Tmp} {b : Bool} (ha : dH (bs) ops.size i = false) (hl : gO C f o = false)
  (h : aE C K f o { s with env := gI (cF ops o) s.env, lo := s.heap.length } = some (s0.putv d' (.bool b))) (hd : o.dst = some d) (hd' : d' = some d) (hh : s0.heap = s.heap) (hb : b = true)
  (k : WD C K f ops bs l (i + 1) { s with env := (d, .v (.bool true)) :: s.env } R) : WH C K f ops bs o l i s R :=
 qd ha hl h hd hd' hh (fun _ => k) (fun e => by rw [hb] at e; cases e)
theorem iL {i d : Nat} {s0 : St} {d' : Option Tmp} {b : Bool} (ha : dH (bs) ops.size i = false) (hl : gO C f o = false)
  (h : aE C K f o { s with env := gI (cF ops o) s.env, lo := s.heap.length } = some (s0.putv d' (.bool b))) (hd : o.dst = some d) (hd' : d' = some d) (hh : s0.heap = s.heap) (hb : b = false)
  (k : WD C K f ops bs l (i + 1) { s with env := (d, .v (.bool false)) :: s.env } R) : WH C K f ops bs o l i s R :=
 qd ha hl h hd hd' hh (fun e => by rw [hb] at e; cases e) (fun _ => k)
theorem mw {t : Nat} {x i : Operand} {b : ByteArray} {sz by_ : Nat} {zr : List AV} {j : Int} {k : IntKind} {c : UInt8} (ho : o.op = .index t x i) (ht : look C.tab t = some ⟨.str, sz, by_, zr⟩) (hx : s.val x = some (.str b)) (hi : s.val i = some (.int k j))
  (hr : 0 <= j /\ b[j.toNat]? = some c) : aE C K f o s = some (s.putv o.dst (.int .u8 c.toNat)) := by
 unfold aE;rw [ho];dsimp only;rw [ht, hx, hi];dsimp only;rw [if_pos hr.1, hr.2]
 rfl
theorem bP {t T id n off : Nat} {ti : TI} {x : Operand} {xs : List AV} {a : AV} {h : aj} (ho : o.op = .load t x) (ht : look C.tab t = some ti) (hx : s.slot x = some (.v (.hp id n off))) (hh : s.heap = h.set id (.cells T xs)) (hid : id < h.length) (hn : n = xs.length)
  (hp : part ti xs off = some a) : aE C K f o s = some (s.putv o.dst a) :=
 aA ho ht hx (by rw [hh, List.getElem?_set_self hid]) hn hp
theorem cL {t T id n off : Nat} {ti : TI} {x y : Operand} {xs ys : List AV} {h : aj} (ho : o.op = .store t x y) (ht : look C.tab t = some ti) (hx : s.slot x = some (.v (.hp id n off))) (hy : (s.val y).bind cellsOf = some ys) (hh : s.heap = h.set id (.cells T xs)) (hid : id < h.length)
  (hlo : s.lo <= id) (hc : n = xs.length /\ ys.length = ti.sz /\ off + ti.sz <= xs.length) {zs : List AV} (hz : bb xs off ys = zs) : aE C K f o s = some (({ s with heap := h.set id (.cells T zs) } : St).putv o.dst (.tup [])) := by
 rw [aM ho ht hx hy (by rw [hh, List.getElem?_set_self hid]) ⟨hlo, hc⟩, hh, List.set_set, hz]
theorem C5 (h : aj) (o : ap) : h ++ [o] = (h ++ [ap.dead]).set h.length o := by simp
theorem qe {g : Operand} {ps : Array Nat} {asg body : Code} {h : FuncId} {caps : List AV} {a : AV} {heap' : aj} {r : fL} (hg : s.val g = some (.fn (.func h) caps)) (hr : s.inRound = false) (hlo : s.lo <= s.heap.length)
  (hK : K s.lo (.func h) ([.fn (.yield s.heap.length) []] ++ caps) (s.heap ++ [.loop { fn := f, env := s.env.map fun x => (x.1, match x.2 with | .v a => co.v a | _ => co.junk), params := ps.toList, assign := asg, body := body, st := 0, pending := none }]) = some (a, heap'))
  (hl : heap'[s.heap.length]? = some (.loop r)) (hst : r.st ≠ 1)
  (k : match r.pending with | none => Q .normal { s with heap := heap'.set s.heap.length .dead } | some .ret => Q .ret { s with heap := heap'.set s.heap.length .dead } | some (.exit i) => Q (.exit i) { s with heap := heap'.set s.heap.length .dead } | _ => False) :
  W C K f fuel (.rangeFunc g ps asg body) s Q := by
 have base : cf C K f fuel (.rangeFunc g ps asg body) s = (match (some (ap.loop r) : Option ap) with
    | some (.loop r) => if r.st = 1 then none else match r.pending with
     | none => some (.normal, { s with heap := heap'.set s.heap.length .dead })
     | some .ret => some (.ret, { s with heap := heap'.set s.heap.length .dead })
     | some (.exit id) => some (.exit id, { s with heap := heap'.set s.heap.length .dead })
     | _ => none
    | _ => none) := by
  rw [<- hl];unfold cf;rw [hg, hr];dsimp only;rw [if_pos hlo];generalize hz : K _ _ _ _ = z;have hz' : z = some (a, heap') := hz.symm.trans hK;subst hz'
  rfl
 dsimp only at base;rw [if_neg hst] at base;cases hp : r.pending with
 | none => rw [hp] at k base; exact ⟨_, _, base, k⟩
 | some c =>
  rw [hp] at k base;cases c <;> first | exact k.elim | exact ⟨_, _, base, k⟩
def GK (l : Nat) (out : AV × aj) : Ex -> St -> Prop
 | .normal, s => ∃ r', s.heap[l]? = some (.loop r') /\ out = (.bool true, s.heap.set l (.loop { r' with st := 0, pending := none }))
 | .ret, s => ∃ r', s.heap[l]? = some (.loop r') /\ out = (.bool false, s.heap.set l (.loop { r' with st := 2, pending := some .ret }))
 | .exit i, s => ∃ r', s.heap[l]? = some (.loop r') /\ out = (.bool false, s.heap.set l (.loop { r' with st := 2, pending := some (.exit i) }))
theorem kn {k lo l : Nat} {r : fL} {args : List AV} {h : aj} {out : AV × aj} (hl : h[l]? = some (.loop r)) (hlo : lo <= l) (hst : r.st = 0) (hn : args.length = r.params.length)
  (ha : W C (call P C k) r.fn k r.assign { env := g9 r.env r.params args, loc := [], heap := h, inRound := true, lo := lo }
   (Gj (fun s => ∃ r1, s.heap[l]? = some (.loop r1) /\ r1.st = 0 /\ W C (call P C k) r.fn k r.body { s with heap := s.heap.set l (.loop { r1 with st := 1 }) } (GK l out)) (fun _ _ => False))) :
  call P C (k + 1) lo (.yield l) args h = some out := by
 obtain ⟨e, s, h1, h2⟩ := ha;cases e with
 | normal =>
  obtain ⟨r1, g1, g2, e', s', g3, g4⟩ := h2;simp only [call, hl, if_pos (show lo <= l /\ r.st = 0 /\ args.length = r.params.length from ⟨hlo, hst, hn⟩), h1, g1, if_pos g2, g3];cases e' with
  | normal => obtain ⟨r', g5, g6⟩ := g4; simp only [g5, g6]
  | ret => obtain ⟨r', g5, g6⟩ := g4; simp only [g5, g6]
  | exit i => obtain ⟨r', g5, g6⟩ := g4; simp only [g5, g6]
 | exit i => exact h2.elim
 | ret => exact h2.elim
def dX (l : List ByteArray) : List (AV × AV) := l.map fun n => (.str n, .bool true)
theorem l6 (x : ByteArray) : ∀ l : List ByteArray, gf .str (dX l) (.str x) = some (if l.contains x then some (.bool true) else none)
 | [] => by simp [dX, gf]
 | a :: l => by
  have := l6 x l;simp only [dX] at this;simp only [dX, List.map_cons, gf, gm, List.contains_cons];cases h : (x == a) <;> simp [this]
theorem nj (x : ByteArray) : ∀ l : List ByteArray, l.contains x = false -> gC .str (dX l) (.str x) (.bool true) = some (dX (l ++ [x]))
 | [], _ => by simp [dX, gC]
 | a :: l, h => by
  simp only [List.contains_cons, Bool.or_eq_false_iff] at h;have := nj x l h.2;simp only [dX] at this;simp only [dX, List.map_cons, gC, gm, h.1, this, Option.map_some, List.cons_append, List.map_append]
theorem E0 {t kt e id sz by_ : Nat} {zr : List AV} {m k : Operand} {x : ByteArray} {l : List ByteArray} (ho : o.op = .lookup t m k false) (ht : look C.tab t = some ⟨.map kt e, sz, by_, zr⟩) (hk : ∃ a b c, look C.tab kt = some ⟨.str, a, b, c⟩) {ti : TI} (he : look C.tab e = some ti)
  (hz : part ti ti.zero 0 = some (.bool false)) (hm : s.val m = some (.mp id)) (hx : s.val k = some (.str x)) (hH : s.heap[id]? = some (.map (dX l))) : aE C K f o s = some (s.putv o.dst (.bool (l.contains x))) := by
 obtain ⟨a, b, c, hk⟩ := hk;unfold aE;rw [ho];dsimp only;rw [ht, hm, hx];dsimp only;rw [hH, he];simp only [fj, hk, l6];cases l.contains x <;> simp [hz]
theorem GL {t kt e id sz by_ : Nat} {zr : List AV} {m k v : Operand} {x : ByteArray} {l : List ByteArray} (ho : o.op = .mapUpdate t m k v) (ht : look C.tab t = some ⟨.map kt e, sz, by_, zr⟩) (hk : ∃ a b c, look C.tab kt = some ⟨.str, a, b, c⟩)
  (hm : s.val m = some (.mp id)) (hx : s.val k = some (.str x)) (hv : s.val v = some (.bool true)) (hH : s.heap[id]? = some (.map (dX l))) (hlo : s.lo <= id) (hn : l.contains x = false) :
  aE C K f o s = some (({ s with heap := s.heap.set id (.map (dX (l ++ [x]))) } : St).putv o.dst (.tup [])) := by
 obtain ⟨a, b, c, hk⟩ := hk;unfold aE;rw [ho];dsimp only;rw [hm, hx, hv, ht];dsimp only;rw [hH];simp only [fj, hk, if_pos hlo, nj x l hn, Option.map_some]
theorem C6 {t kt e id sz by_ : Nat} {zr : List AV} {m k : Operand} {x : ByteArray} {l : List ByteArray} {h : aj} (ho : o.op = .lookup t m k false) (ht : look C.tab t = some ⟨.map kt e, sz, by_, zr⟩) (hk : ∃ a b c, look C.tab kt = some ⟨.str, a, b, c⟩) {ti : TI} (he : look C.tab e = some ti)
  (hz : part ti ti.zero 0 = some (.bool false)) (hm : s.val m = some (.mp id)) (hx : s.val k = some (.str x)) (hh : s.heap = h.set id (.map (dX l))) (hid : id < h.length) : aE C K f o s = some (s.putv o.dst (.bool (l.contains x))) :=
 E0 ho ht hk he hz hm hx (by rw [hh, List.getElem?_set_self hid])
theorem E3 {t kt e id sz by_ : Nat} {zr : List AV} {m k v : Operand} {x : ByteArray} {l : List ByteArray} {h : aj} (ho : o.op = .mapUpdate t m k v) (ht : look C.tab t = some ⟨.map kt e, sz, by_, zr⟩) (hk : ∃ a b c, look C.tab kt = some ⟨.str, a, b, c⟩)
  (hm : s.val m = some (.mp id)) (hx : s.val k = some (.str x)) (hv : s.val v = some (.bool true)) (hh : s.heap = h.set id (.map (dX l))) (hid : id < h.length) (hlo : s.lo <= id) (hn : l.contains x = false) :
  aE C K f o s = some (({ s with heap := h.set id (.map (dX (l ++ [x]))) } : St).putv o.dst (.tup [])) := by
 rw [GL ho ht hk hm hx hv (by rw [hh, List.getElem?_set_self hid]) hlo hn, hh, List.set_set]
theorem HL {t u : Nat} {x y : Operand} {k k' : IntKind} {a b : Int} (ho : o.op = .binOp .shl t x y u) (hx : s.val x = some (.int k a)) (hy : s.val y = some (.int k' b)) (hb : 0 <= b) : aE C K f o s = some (s.putv o.dst (.int k (k.wrap (a * 2 ^ (min b.toNat k.bits))))) := by
 unfold aE;rw [ho];dsimp only;rw [hx, hy];dsimp only;have : binop C.tab C.eqs .shl t (.int k a) (.int k' b) = some (.int k (k.wrap (a * 2 ^ (min b.toNat k.bits)))) := by
  show lu .shl k a b = _;unfold lu;rw [if_neg (by omega)]
 rw [this]
 rfl
open Go
variable {P : Program} {C : dO} {K : Callee} {f fuel : Nat} {s s1 : St} {ops : Array Oper} {o : Oper} {l : List Oper} {R : St -> Prop} {Q : Ex -> St -> Prop} {bs : List Nat}
theorem U.{u} {α : Sort u} {a : α} : a = a := rfl
theorem Nb {a b : Nat} (h : Nat.ble a b = true) : a <= b := Nat.le_of_ble_eq_true h
theorem Wr (id : Nat) (hfr : C.fr f id = []) (h : dv C K f ops ops.toList s = some s1) (k : Q .normal s1) : W C K f fuel (.region id ops false) s Q := C0 hfr h k
theorem Wo (id : Nat) (hfr : C.fr f id = []) (h : WO C K f ops ops.toList s (Q .normal)) : W C K f fuel (.region id ops false) s Q := C2 hfr h
theorem Wd (id : Nat) (bs : List Nat) (hfr : C.fr f id = []) (hpin : C.pin f id = none) (hb : (ml ops, cR ops) = (false, bs)) (h : WD C K f ops bs ops.toList 0 s (Q .normal)) : W C K f fuel (.region id ops true) s Q :=
 GJ hfr hpin (congrArg Prod.fst hb) (congrArg Prod.snd hb) h
theorem Tg (hg : bG ops o s = some true) (h : aE C K f o s = some s1) (k : WO C K f ops l s1 R) : WO C K f ops (o :: l) s R := aK hg (ev h k)
theorem Tt {s0 : St} {d : Option Tmp} {b : Bool} (hg : bG ops o s = some true) (h : aE C K f o s = some (s0.putv d (.bool b))) (hb : b = true) (k : WO C K f ops l (s0.putv d (.bool true)) R) : WO C K f ops (o :: l) s R := aK hg (bi h hb k)
theorem Tf {s0 : St} {d : Option Tmp} {b : Bool} (hg : bG ops o s = some true) (h : aE C K f o s = some (s0.putv d (.bool b))) (hb : b = false) (k : WO C K f ops l (s0.putv d (.bool false)) R) : WO C K f ops (o :: l) s R := aK hg (aT h hb k)
theorem Ts {s0 : St} {d : Option Tmp} {b : Bool} (hg : bG ops o s = some true) (h : aE C K f o s = some (s0.putv d (.bool b))) (ht : b = true -> WO C K f ops l (s0.putv d (.bool true)) R) (hf : b = false -> WO C K f ops l (s0.putv d (.bool false)) R) : WO C K f ops (o :: l) s R := aK hg (aB h ht hf)
theorem Uf {i d : Nat} {x : co} (h1 : (bG ops o s, dH bs ops.size i, gO C f o, o.dst) = (some true, false, false, some d)) (h : aE C K f o { s with env := gI (cF ops o) s.env, lo := s.heap.length } = some s1) (h2 : (s1.heap, look s1.env d) = (s.heap, some x))
  (k : WD C K f ops bs l (i + 1) { s with env := (d, x) :: s.env } R) : WD C K f ops bs (o :: l) i s R := by
 simp only [Prod.mk.injEq] at h1 h2;exact aP h1.1 (aU h1.2.1 h1.2.2.1 h h1.2.2.2 h2.1 h2.2 k)
theorem Uo {i : Nat} (h1 : (bG ops o s, dH bs ops.size i) = (some true, true)) (h : aE C K f o s = some s1) (k : WD C K f ops bs l (i + 1) s1 R) : WD C K f ops bs (o :: l) i s R := by
 simp only [Prod.mk.injEq] at h1;exact aP h1.1 (vm h1.2 h k)
theorem Ut {i : Nat} {s0 : St} {d : Option Tmp} {b : Bool} (h1 : (bG ops o s, dH bs ops.size i) = (some true, true)) (h : aE C K f o s = some (s0.putv d (.bool b))) (hb : b = true) (k : WD C K f ops bs l (i + 1) (s0.putv d (.bool true)) R) : WD C K f ops bs (o :: l) i s R := by
 simp only [Prod.mk.injEq] at h1;exact aP h1.1 (fX h1.2 h hb k)
theorem Uu {i : Nat} {s0 : St} {d : Option Tmp} {b : Bool} (h1 : (bG ops o s, dH bs ops.size i) = (some true, true)) (h : aE C K f o s = some (s0.putv d (.bool b))) (hb : b = false) (k : WD C K f ops bs l (i + 1) (s0.putv d (.bool false)) R) : WD C K f ops bs (o :: l) i s R := by
 simp only [Prod.mk.injEq] at h1;exact aP h1.1 (d9 h1.2 h hb k)
theorem Tc (n : Nat) (h : dv C K f ops (l.take n) s = some s1) (k : WO C K f ops (l.drop n) s1 R) : WO C K f ops l s R := T_ch n h k
theorem Tk (hg : bG ops o s = some false) (k : WO C K f ops l (s.putv o.dst (.tup [])) R) : WO C K f ops (o :: l) s R := au hg k
theorem Tn (h : R s) : WO C K f ops [] s R := Au h
theorem Un {i : Nat} (h : R s) : WD C K f ops bs [] i s R := HJ h
theorem Uk {i : Nat} (hg : bG ops o s = some false) (k : WD C K f ops bs l (i + 1) (s.putv o.dst (.tup [])) R) : WD C K f ops bs (o :: l) i s R := aL hg k
inductive aF where
 | mk (op n copy : Int) (args : List aF)
def aF.args : aF -> List aF | .mk _ _ _ l => l
mutual
def cT : aF -> List AV
 | .mk op n c l => [.int .i64 op, .int .i64 n, .int .i64 c, .vs 4 (bc l)]
def bc : List aF -> List (List AV)
 | [] => []
 | e :: l => cT e :: bc l
end
theorem dd : ∀ l : List aF, (bc l).length = l.length
 | [] => rfl
 | _ :: l => by simp [bc, dd l]
theorem bQ : ∀ (l : List aF) (i : Nat) (e : aF), l[i]? = some e -> (bc l)[i]? = some (cT e)
 | [], i, e, h => by simp at h
 | a :: l, 0, e, h => by simp at h; subst h; rfl
 | a :: l, i + 1, e, h => by simp at h; simpa [bc] using bQ l i e h
mutual
def fM : aF -> Int -> Int
 | .mk _ _ _ l, m => if m < 1 then 0 else cD l (IntKind.i64.wrap (m - 1))
def cD : List aF -> Int -> Int
 | [], m => m
 | e :: l, m => cD l (fM e m)
end
mutual
def cM : aF -> Nat
 | .mk _ _ _ l => cQ l + 1
def cQ : List aF -> Nat
 | [] => 1
 | e :: l => cM e + cQ l
end
mutual
def dP : aF -> Prop
 | .mk _ _ _ l => l.length < 9223372036854775808 /\ jg l
def jg : List aF -> Prop
 | [] => True
 | e :: l => dP e /\ jg l
end
theorem bL : ∀ (l : List aF) (i : Nat) (e : aF), jg l -> l[i]? = some e -> dP e
 | [], i, e, _, h => by simp at h
 | a :: l, 0, e, hb, h => by simp at h; subst h; exact hb.1
 | a :: l, i + 1, e, hb, h => by simp at h; exact bL l i e hb.2 h
theorem fA (e : aF) : 2 <= cM e := by
 cases e with
 | mk op m cp l =>
  rw [cM];cases l with
  | nil => simp [cQ]
  | cons a l =>
   rw [cQ];have : 1 <= cM a := by cases a; rw [cM]; omega
   omega
theorem bB : ∀ l : List aF, l.length < cQ l
 | [] => by simp [cQ]
 | e :: l => by
  have := fA e;have := bB l;rw [cQ, List.length_cons]; omega
theorem bX : ∀ (l : List aF) (i : Nat) (e : aF), l[i]? = some e -> cM e <= cQ l
 | [], i, e, h => by simp at h
 | a :: l, 0, e, h => by simp at h; subst h; rw [cQ]; omega
 | a :: l, i + 1, e, h => by
  simp at h;have := bX l i e h;rw [cQ]; omega
theorem lc : ∀ l : List aF, 1 <= cQ l
 | [] => by simp [cQ]
 | e :: l => by have := lc l; rw [cQ]; omega
theorem ie : ∀ (l : List aF) (i : Nat) (e : aF), l[i]? = some e -> cM e + 1 <= cQ l
 | [], i, e, h => by simp at h
 | a :: l, 0, e, h => by simp at h; subst h; rw [cQ]; have := lc l; omega
 | a :: l, i + 1, e, h => by
  simp at h;have := ie l i e h;rw [cQ]; omega
theorem nk {α : Type} {l : List α} {i : Nat} {e : α} (h : l[i]? = some e) : l.take (i + 1) = l.take i ++ [e] := by
 rw [List.take_add_one, h]; rfl
theorem wrap_small {n : Int} (h1 : -9223372036854775808 <= n) (h2 : n < 9223372036854775808) : IntKind.i64.wrap n = n := by
 have e1 : IntKind.i64.bits = 64 := rfl;have e2 : IntKind.i64.signed = true := rfl;simp only [IntKind.wrap, e1, e2, if_true]
 try (rw [Int.bmod_def])
 try (simp)
 try omega
inductive ay where
 | mk (op n : Int) (args : List aF) (thn els : List ay)
mutual
def ig : ay -> List AV
 | .mk op n a t e => [.int .i64 op, .int .i64 n, .vs 4 (bc a), .vs 5 (br t), .vs 5 (br e)]
def br : List ay -> List (List AV)
 | [] => []
 | s :: l => ig s :: br l
end
theorem eC : ∀ l : List ay, (br l).length = l.length
 | [] => rfl
 | _ :: l => by simp [br, eC l]
theorem de : ∀ (l : List ay) (i : Nat) (e : ay), l[i]? = some e -> (br l)[i]? = some (ig e)
 | [], i, e, h => by simp at h
 | a :: l, 0, e, h => by simp at h; subst h; rfl
 | a :: l, i + 1, e, h => by simp at h; simpa [br] using de l i e h
mutual
def fY : ay -> Int -> Int
 | .mk _ _ a t e, m => cU e (cU t (cD a (IntKind.i64.wrap (m - 1))))
def cU : List ay -> Int -> Int
 | [], m => m
 | s :: l, m => if m > 0 then cU l (fY s m) else m
end
mutual
def iy : ay -> Nat
 | .mk _ _ a t e => cQ a + bA t + bA e + 1
def bA : List ay -> Nat
 | [] => 2
 | s :: l => iy s + bA l
end
mutual
def kP : ay -> Prop
 | .mk _ _ a t e => (a.length < 9223372036854775808 /\ jg a) /\ (t.length < 9223372036854775808 /\ eQ t) /\ e.length < 9223372036854775808 /\ eQ e
def eQ : List ay -> Prop
 | [] => True
 | s :: l => kP s /\ eQ l
end
theorem dt : ∀ (l : List ay) (i : Nat) (e : ay), eQ l -> l[i]? = some e -> kP e
 | [], i, e, _, h => by simp at h
 | a :: l, 0, e, hb, h => by simp at h; subst h; exact hb.1
 | a :: l, i + 1, e, hb, h => by simp at h; exact dt l i e hb.2 h
theorem E4 (s : ay) : 2 <= iy s := by
 obtain ⟨op, n, a, t, e⟩ := s;rw [iy];have := bB a;omega
theorem b9 : ∀ l : List ay, l.length + 1 < bA l
 | [] => by simp [bA]
 | e :: l => by
  have := E4 e;have := b9 l;rw [bA, List.length_cons]; omega
theorem dY : ∀ (l : List ay) (i : Nat) (e : ay), l[i]? = some e -> iy e <= bA l
 | [], i, e, h => by simp at h
 | a :: l, 0, e, h => by simp at h; subst h; rw [bA]; omega
 | a :: l, i + 1, e, h => by
  simp at h;have := dY l i e h;rw [bA]; omega
theorem nl : ∀ l : List ay, 2 <= bA l
 | [] => by simp [bA]
 | e :: l => by have := nl l; rw [bA]; omega
theorem jt : ∀ (l : List ay) (i : Nat) (e : ay), l[i]? = some e -> iy e + 2 <= bA l
 | [], i, e, h => by simp at h
 | a :: l, 0, e, h => by simp at h; subst h; rw [bA]; have := nl l; omega
 | a :: l, i + 1, e, h => by
  simp at h;have := jt l i e h;rw [bA]; omega
structure bk where
 name : ByteArray
 level : Int
 cells : Int
def E5 (v : bk) : List AV := [.str v.name, .int .i64 v.level, .int .i64 v.cells]
def vrB (v : bk) : Prop := v.name.size < 9223372036854775808
structure bp where
 width : Int
 vars : List bk
 body : List ay
def bY (p : bp) : List AV := [.int .i64 p.width, .vs 3 (p.vars.map E5), .vs 5 (br p.body)]
def lB (p : bp) : Prop := (p.vars.length < 9223372036854775808 /\ ∀ v, v ∈ p.vars -> vrB v) /\ p.body.length < 9223372036854775808 /\ eQ p.body
variable {P : Program} {C : dO} {Γ Γ0 : aX} {base n0 n f : Nat} {β : Nat -> Nat} {s s' : St} {a : Act} {o : Oper} {K : Callee}
theorem wG {w : World} {r : Nat} {m : Option Nat} {x : Nat} {sn : Array Nat} {y : Nat} (h : w.heap[r]? = some (.mapIter m x sn y)) : (getObj r).run P w = .ok (.mapIter m x sn y) w := by simp only [getObj, Sem.run, h]
theorem za {w : World} {r : Nat} {es : Array MapEntry} {y : Nat} (h : w.heap[r]? = some (.map es y)) : (getObj r).run P w = .ok (.map es y) w := by simp only [getObj, Sem.run, h]
theorem wH {w : World} {r : Nat} {m : Option Nat} {x : Nat} {sn : Array Nat} {y : Nat} {ob : Obj} (h : w.heap[r]? = some (.mapIter m x sn y)) : (setObj r ob).run P w = .ok () { w with heap := w.heap.setIfInBounds r ob } := by simp only [setObj, Sem.run, h]
theorem zb (q : Nat) (hq : 0 < q) (w : World) : ∃ j k, j < q /\ (choose (.mapNext q)).run P w = .ok j { w with drawn := k } := by
 by_cases h : q <= 1
 ·exact ⟨0, w.drawn, hq, by simp [choose, Sem.run, Question.forced, h]⟩
 ·exact ⟨w.tape w.drawn (.mapNext q) % q, w.drawn + 1, Nat.mod_lt _ hq, by
   simp only [choose, Sem.run, Question.forced, decide_eq_true_eq, h, if_false, Question.cut]⟩
theorem tZ (w : World) (x y : Obj) : ({ w.alloc x with heap := (w.alloc x).heap.setIfInBounds w.heap.size y } : World) = w.alloc y := by
 have : (w.heap.push x).setIfInBounds w.heap.size y = w.heap.push y := by
  apply Array.ext';simp
 show ({ w with heap := (w.heap.push x).setIfInBounds w.heap.size y } : World) = { w with heap := w.heap.push y };rw [this]
theorem C7 (w : World) (ty : TypeId) (bm since c0 : Nat) (seen : Array Nat) (es : Array MapEntry) (clock : Nat) (hb : w.heap[bm]? = some (.map es clock)) (hold : ∀ x, x ∈ es.toList -> x.born < since) (hsc : since <= c0) :
  ((leftOf es seen).size = 0 /\ (Instr.next (.pointer (some ⟨w.heap.size, 0, none⟩)) false ty).run P (w.alloc (.mapIter (some bm) since seen c0)) = .ok (.tuple #[.bool false]) (w.alloc (.mapIter (some bm) since seen c0))) \/
  ∃ e, e ∈ (leftOf es seen).toList /\ ∃ k : Nat, (Instr.next (.pointer (some ⟨w.heap.size, 0, none⟩)) false ty).run P (w.alloc (.mapIter (some bm) since seen c0)) = .ok (.tuple #[.bool true, e.key, e.val]) (({ w with drawn := k } : World).alloc (.mapIter (some bm) since (seen.push e.born) clock)) := by
 have g1 : (w.alloc (.mapIter (some bm) since seen c0)).heap[w.heap.size]? = some (.mapIter (some bm) since seen c0) := cB w _;have g2 : (w.alloc (.mapIter (some bm) since seen c0)).heap[bm]? = some (.map es clock) := (bD (dq hb)).trans hb;have hleft : ∀ x, x ∈ (leftOf es seen).toList -> x.born < since := fun x hx => hold x (mem_left hx).1
 have e1 : (leftOf es seen).filter (fun x => decide (x.born < since)) = leftOf es seen := Array.filter_eq_self.2 fun x hx => by simpa using hleft x (by simpa using hx)
 have e2 : (leftOf es seen).filter (fun x => decide (x.born >= since)) = #[] := by
  rw [Array.filter_eq_empty_iff];intro x hx;have := hleft x (by simpa using hx);simp; omega
 have hrun : (Instr.next (.pointer (some ⟨w.heap.size, 0, none⟩)) false ty).run P (w.alloc (.mapIter (some bm) since seen c0)) =
   (do
    let candidates := (if (leftOf es seen).isEmpty then #[none] else #[]) ++ (leftOf es seen).map some
    match candidates[<- choose (.mapNext candidates.size)]? with
    | some (some e) =>
     setObj w.heap.size (.mapIter (some bm) since (seen.push e.born) clock)
     pure (.tuple #[.bool true, e.key, e.val])
    | some none => pure (.tuple #[.bool false])
    | none => stuck "Next: no such candidate" : Sem Value).run P (w.alloc (.mapIter (some bm) since seen c0)) := by
  unfold Instr.next;simp only [Sem.run_bind, wG g1, za g2, Result.andThen_ok, next_test_false seen es since c0 hold hsc, Bool.false_eq_true, if_false];have e0 : Array.filter (fun e : MapEntry => !seen.contains e.born) es = leftOf es seen := rfl;simp only [e0, e1, e2, Array.append_empty]
  rfl
 rw [hrun]
 by_cases h0 : (leftOf es seen).size = 0
 ·refine .inl ⟨h0, ?_⟩
  have : leftOf es seen = #[] := Array.eq_empty_of_size_eq_zero h0;rw [this];simp [choose, Sem.run, Question.forced]
 ·refine .inr ?_
  have hne : (leftOf es seen).isEmpty = false := by simp [Array.isEmpty, h0]
  generalize hL : leftOf es seen = L at *;simp only [hne, Bool.false_eq_true, if_false, Array.empty_append, Array.size_map];obtain ⟨j, k, hj, hc⟩ := zb (P := P) L.size (by omega) (w.alloc (.mapIter (some bm) since seen c0));refine ⟨L[j], by simp, k, ?_⟩
  rw [Sem.run_bind, hc];simp only [Result.andThen_ok, Array.getElem?_map, Array.getElem?_eq_getElem hj, Option.map_some];rw [Sem.run_bind];have g3 : ({ w.alloc (.mapIter (some bm) since seen c0) with drawn := k } : World).heap[w.heap.size]? = some (.mapIter (some bm) since seen c0) := g1;rw [wH g3];simp only [Result.andThen_ok, Sem.run_pure];have := tZ ({ w with drawn := k } : World) (.mapIter (some bm) since seen c0) (.mapIter (some bm) since (seen.push L[j].born) clock);rw [<- this]
  rfl
theorem aZ.sub (R : aZ base n0 Γ β s a) {E : List (Nat × co)} (h : ∀ t x, look E t = some x -> look s.env t = some x) : aZ base n0 Γ β { s with env := E } a :=
 {R with env := fun t x hx => R.env t x (h t x hx) }
theorem aZ.other (R : aZ base n0 Γ β s a) {d : Nat} (v : Value) (h : look s.env d = none) : aZ base n0 Γ β s (a.put (some d) v) :=
 {R with
  env := fun t x hx => by
   obtain ⟨h1, h2⟩ := R.env t x hx;have e : d ≠ t := fun e => by rw [<- e, h] at hx; cases hx
   simp only [Act.put, Array.size_setIfInBounds];refine ⟨h1, ?_⟩;have : (a.tmps.setIfInBounds d v).getD t undef = a.tmps.getD t undef := by simp [Array.getD_eq_getD_getElem?, Array.getElem?_setIfInBounds, e]
   rw [this]; exact h2 }
theorem aZ.poke {lo r k : Nat} {ob : Obj} {m : Option Nat} {x y : Nat} {sn : Array Nat} (R : aZ base n0 Γ β s a) (hr : Γ.w.heap[r]? = some (.mapIter m x sn y)) (h2 : ∀ id, Γ.ρ id ≠ some r) (h3 : ¬ Γ.S r) (h4 : n0 <= r) :
  aZ base n0 { Γ with w := { Γ.w with heap := Γ.w.heap.setIfInBounds r ob, drawn := k } } β s a /\ dm lo n0 Γ { Γ with w := { Γ.w with heap := Γ.w.heap.setIfInBounds r ob, drawn := k } } := by
 have hlt := dq hr;have ne : ∀ b, r ≠ b -> ({ Γ.w with heap := Γ.w.heap.setIfInBounds r ob, drawn := k } : World).heap[b]? = Γ.w.heap[b]? := fun b e => aG (w := Γ.w) e
 have hext : dm lo n0 Γ { Γ with w := { Γ.w with heap := Γ.w.heap.setIfInBounds r ob, drawn := k } } :=
  {cA.refl lo (fun b => n0 <= b /\ ¬ Γ.S b) Γ with
   sizes := fun b ar T2 fr h => by
    by_cases e : r = b
    ·subst e; rw [hr] at h; cases h
    ·exact ⟨ar, fr, (ne b e).trans h, rfl⟩
   keep := fun b hb hρ hnB => ne b fun e => hnB (e ▸ ⟨h4, h3⟩)
   barrier := fun id _ _ => ⟨rfl, rfl, fun b hb _ => ne b fun e => h2 id (by rw [e]; exact hb)⟩
   size := by simp }
 have hB : ∀ b, Γ.S b -> ¬ (n0 <= b /\ ¬ Γ.S b) := fun b hs h => h.2 hs
 refine ⟨⟨R.inv.same hext hB rfl rfl rfl (fun id b e => ne b fun h => h2 id (h ▸ e)), ⟨R.sz.1, by simpa using R.sz.2⟩, R.heap, fun t z hz => ?_, fun d ys hy => ?_, R.linj, ?_⟩, hext⟩
 ·obtain ⟨k1, k2⟩ := R.env t z hz
  refine ⟨k1, ?_⟩;cases z with
  | v av => exact aD.ext hext R.inv hB k2
  | junk => trivial
  | p e' off => exact k2
 ·obtain ⟨arr, T, k1, k2, k3, k4, k5⟩ := R.loc d ys hy
  exact ⟨arr, T, (ne _ fun e => by rw [<- e, hr] at k1; cases k1).trans k1, k2, k3, fun i x hx => (k4 i x hx).ext hext R.inv hB, k5⟩
 ·obtain ⟨rs, m1, m2, m3⟩ := R.marks
  refine ⟨rs, m1, m2, fun q hq => ?_⟩
  obtain ⟨k1, k2, k3, k4⟩ := m3 q hq;exact ⟨(ne _ fun e => by rw [<- e, hr] at k1; cases k1).trans k1, k2, k3, k4⟩
theorem eX {d : Nat} {v : Value} (h : d < a.tmps.size) : (a.put (some d) v).tmps.getD d undef = v := by simp [Act.put, Array.getD_eq_getD_getElem?, h]
theorem iM {d t : Nat} {v : Value} (h : d ≠ t) : (a.put (some d) v).tmps.getD t undef = a.tmps.getD t undef := by simp [Act.put, Array.getD_eq_getD_getElem?, Array.getElem?_setIfInBounds, h]
theorem dZ {ro : Option Nat} {ops : Array Oper} {Q : Exit -> Act -> World -> Prop} {i : Nat} {rest : List Nat} {w w' : World} {v : Value} (ho : ops[i]? = some o) (hg : o.guard = none) (hnd : ∀ c, o.op ≠ .defer c) (hr : je P o a w w' v) (k : wpOpsIn (Fw ro) 0 P ops Q rest (a.put o.dst v) w') :
  wpOpsIn (Fw ro) 0 P ops Q (i :: rest) a w := by
 simp only [wpOpsIn, ho];rw [bZ hg];simp only [if_true];exact gP hnd hr k
def cZ (l : List Int) : List (AV × AV) := l.map fun n => (.int .i64 n, .bool true)
def rh (l : List Int) (n : Int) : List Int := if n ∈ l then l else l ++ [n]
theorem C8 {l : List Int} {n v : Int} : v ∈ rh l n ↔ v ∈ l \/ v = n := by
 unfold rh
 by_cases h : n ∈ l
 ·rw [if_pos h]
  exact ⟨.inl, fun e => e.elim id fun e => e ▸ h⟩
 ·rw [if_neg h]; simp
theorem ri (n : Int) : ∀ l : List Int, gC (.int .i64) (cZ l) (.int .i64 n) (.bool true) = some (cZ (rh l n))
 | [] => rfl
 | m :: l => by
  have ih := ri n l;simp only [cZ, List.map_cons, gC, gm] at ih ⊢
  by_cases h : n = m
  ·subst h; simp [rh]
  ·have hb : (n == m) = false := by simpa using h
   simp only [if_true, hb, ih, Option.map_some];unfold rh
   by_cases hm : n ∈ l
   ·rw [if_pos hm, if_pos (List.mem_cons_of_mem _ hm)]; rfl
   ·rw [if_neg hm, if_neg (fun e => by rcases List.mem_cons.1 e with e | e <;> first | exact h e | exact hm e)]; rfl
theorem pK (n : Int) : ∀ l : List Int, gf (.int .i64) (cZ l) (.int .i64 n) = some (if n ∈ l then some (.bool true) else none)
 | [] => rfl
 | m :: l => by
  have ih := pK n l;simp only [cZ, List.map_cons, gf, gm] at ih ⊢
  by_cases h : n = m
  ·subst h; simp
  ·have hb : (n == m) = false := by simpa using h
   simp [hb, ih, h]
def np (l : List (Int × Int)) : List (AV × AV) := l.map fun x => (.int .i64 x.1, .int .i64 x.2)
def ko (o : Oper) (op : Op) (d : Option Tmp) : Prop := o.op = op /\ o.dst = d /\ o.guard = none
theorem t8 (H : qb P C K) {ro : Option Nat} {ops : Array Oper} {n : Nat} (hops : dU n ops = true) {Q : Exit -> Act -> World -> Prop} (tail : List Oper) : ∀ (l : List Oper) (k : Nat) (Γ : aX) (β : Nat -> Nat) (s : St) (a : Act), ops.toList.drop k = l ++ tail -> aZ base n0 Γ β s a -> a.tmps.size = n -> dv C K f ops l s = some s' ->
  (∀ Γ' β' a', aZ base n0 Γ' β' s' a' -> dm s.lo n0 Γ Γ' -> a'.tmps.size = n -> s'.lo = s.lo -> s'.inRound = s.inRound -> wpOpsIn (Fw ro) 0 P ops Q (List.range' (k + l.length) tail.length) a' Γ'.w) -> wpOpsIn (Fw ro) 0 P ops Q (List.range' k (l.length + tail.length)) a Γ.w
 | [], k, Γ, β, s, a, _, R, hn, h, hq => by
  injection h with h; subst h;simpa using hq Γ β a R dm.refl hn rfl rfl
 | o :: l, k, Γ, β, s, a, hl, R, hn, h, hq => by
  have ho : ops[k]? = some o := by
   rw [<- Array.getElem?_toList];have := congrArg (·[0]?) hl;simpa using this
  have hl' : ops.toList.drop (k + 1) = l ++ tail := by
   rw [<- List.drop_drop, hl]; rfl
  have next : ∀ (s1 : St) (a1 : Act) (Γ1 : aX) (β1 : Nat -> Nat), aZ base n0 Γ1 β1 s1 a1 -> dm s.lo n0 Γ Γ1 -> a1.tmps.size = n -> s1.lo = s.lo -> s1.inRound = s.inRound -> dv C K f ops l s1 = some s' -> wpOpsIn (Fw ro) 0 P ops Q (List.range' (k + 1) (l.length + tail.length)) a1 Γ1.w := by
   intro s1 a1 Γ1 β1 R1 g e2 e3 e4 h1;refine t8 H hops tail l (k + 1) Γ1 β1 s1 a1 hl' R1 e2 h1 fun Γ' β' a' R' g' q1 q2 q3 => ?_
   have := hq Γ' β' a' R' (g.trans (e3 ▸ g') (Nat.le_refl _)) q1 (q2.trans e3) (q3.trans e4);rwa [List.length_cons, show k + (l.length + 1) = k + 1 + l.length by omega] at this
  rw [List.length_cons, show l.length + 1 + tail.length = (l.length + tail.length) + 1 by omega, List.range'_succ]
  simp only [wpOpsIn, ho];simp only [dv] at h
  split at h
  ·rename_i hg
   rw [dx R hg];simp only [if_true]
   split at h
   ·rename_i s1 h1
    refine fW H R (fun t ht => by rw [hn]; exact dh hops ho t ht) h1 fun a1 w1 hp => ?_
    obtain ⟨Γ1, β1, e1, R1, g, e2, e3, e4⟩ := hp;subst e1;exact next s1 a1 Γ1 β1 R1 g (e2.trans hn) e3 e4 h
   ·cases h
  ·rename_i hg
   rw [dx R hg];simp only [Bool.false_eq_true, if_false];refine ⟨fun _ _ => trivial, ?_⟩
   have R1 := R.put o.dst (fun t ht => by rw [hn]; exact dh hops ho t ht) (x := .v (.tup [])) (v := undef) (aD.tup rfl (by simp));exact next _ _ Γ β R1 dm.refl ((bO _ _ _).trans hn) (gF _ _ _).1 (gF _ _ _).2.1 h
  ·cases h
theorem BA (w : World) (b : Nat) (x y : Obj) (hb : b < w.heap.size) : ({ w.alloc x with heap := (w.alloc x).heap.setIfInBounds b y } : World) = ({ w with heap := w.heap.setIfInBounds b y } : World).alloc x := by
 have : (w.heap.push x).setIfInBounds b y = (w.heap.setIfInBounds b y).push x := by
  apply Array.ext';simp only [Array.toList_setIfInBounds, Array.toList_push];rw [List.set_append_left _ _ (by simpa using hb)]
 show ({ w with heap := (w.heap.push x).setIfInBounds b y } : World) = { w with heap := (w.heap.setIfInBounds b y).push x };rw [this]
theorem zc (w : World) (k : Nat) (x y : Obj) : ({ w.alloc x with heap := (w.alloc x).heap.setIfInBounds w.heap.size y, drawn := k } : World) = ({ w with drawn := k } : World).alloc y := by
 have := tZ ({ w with drawn := k } : World) x y;rw [<- this]
 rfl
theorem GM (H : qb P C K) {ro : Option Nat} {Q : Exit -> Act -> World -> Prop} {iA iS iE iU out nx : Nat} {opsA opsS opsE opsU : Array Oper} {pre : List Oper} {oR oS1 oS2 oE1 oE2 oE3 oU1 oU2 oU3 : Oper} {it tn tm tp tq tv ta tb tM : Nat} {x1 : Operand} {T1 T2 : TypeId}
  (hA : opsA.toList = pre ++ [oR]) (hS : opsS = #[oS1, oS2]) (hE : opsE = #[oE1, oE2, oE3]) (hU : opsU = #[oU1, oU2, oU3])
  (aR : ko oR (.range T1 (.tmp tM)) (some it)) (aS1 : ko oS1 (.next (.tmp it) false) (some tn)) (aS2 : ko oS2 (.extract (.tmp tn) 0) (some tm))
  (aE1 : ko oE1 (.entry (.tmp it)) (some tp)) (aE2 : ko oE2 (.extract (.tmp tp) 1) (some tq)) (aE3 : ko oE3 (.assign (.tmp tq)) (some tv))
  (aU1 : ko oU1 (.load T2 x1) (some ta)) (aU2 : ko oU2 (.move (.tmp tv)) (some tb)) (aU3 : ko oU3 (.mapUpdate T2 (.tmp ta) (.tmp tb) (.const (.bool true))) none)
  (hdst : dU n opsA = true) (hlt : ∀ d, d ∈ [it, tn, tm, tp, tq, tv, ta, tb] -> d < n) (hit : ∀ d, d ∈ [tn, tm, tp, tq, tv, ta, tb] -> d ≠ it) (hva : ta ≠ tv) (hab : tb ≠ ta)
  {s1 : St} {E : List (Nat × co)} {idM idS : Nat} {tl : List (Int × Int)} (hEn : ∀ d, d ∈ [it, tn, tm, tp, tq, tv, ta, tb] -> look E d = none) (hEs : ∀ t x, look E t = some x -> look s1.env t = some x)
  (R : aZ base n0 Γ β s a) (hn : a.tmps.size = n) (hex : dv C K f opsA pre s = some s1) (hM : s1.val (.tmp tM) = some (.mp idM)) (hHM : s1.heap[idM]? = some (.map (np tl))) (hHS : s1.heap[idS]? = some (.map (cZ []))) (hidne : idS ≠ idM) (hlo : s1.lo <= idS)
  {kt e sz by_ kt2 e2 sz2 by2 : Nat} {zr zr2 : List AV} (hT1 : look C.tab T1 = some { kind := .map kt e, sz := sz, bytes := by_, zero := zr }) (hT2 : look C.tab T2 = some { kind := .map kt2 e2, sz := sz2, bytes := by2, zero := zr2 }) (hk2 : ∀ m, fj C.tab kt2 (.int .i64 m) = some (.int .i64))
  (hload : ∀ l, aE C K f oU1 { s1 with env := E, heap := s1.heap.set idS (.map (cZ l)) } = some { s1 with env := (ta, .v (.mp idS)) :: E, heap := s1.heap.set idS (.map (cZ l)) })
  (hq : ∀ l, (∀ v, v ∈ l ↔ ∃ k, (k, v) ∈ tl) -> ∀ a' w', bI base n0 Γ s { s1 with env := E, heap := s1.heap.set idS (.map (cZ l)) } n a' w' -> Q .normal a' w') :
  (Code.seq (.region iA opsA false) (.block out (.loop (.seq (.region iS opsS false) (.seq (.cond (.tmp tm) .skip (.exit out)) (.block nx (.seq (.region iE opsE false) (.region iU opsU false)))))))).wpIn (Fw ro) 0 P Q a Γ.w := by
 subst hS hE hU;refine wpIn_seq (wpIn_region ?_);have hsz : opsA.size = pre.length + 1 := by rw [<- Array.length_toList, hA]; simp
 rw [hsz, List.range_eq_range'];refine t8 H hdst [oR] pre 0 Γ β s a (by simpa using hA) R hn hex fun Γ1 β1 a1 R1 g1 e1 e2 e3 => ?_
 have hoR : opsA[0 + pre.length]? = some oR := by
  rw [<- Array.getElem?_toList, hA]; simp
 obtain ⟨bM, hρM, hvM⟩ := oB (R1.val hM) (by rw [R1.heap]; exact hHM);obtain ⟨ms, cl, hbM, hms, hrel, hborn⟩ := R1.inv.map idM bM _ hρM (by rw [R1.heap]; exact hHM);have hu1 : P.underlying T1 = some (.map kt e) := (H.tab _ _ hT1).map rfl;have hr0 := run_range_map (P := P) Γ1.w T1 kt e bM ms cl hu1 hbM;have hrunR : je P oR a1 Γ1.w (Γ1.w.alloc (.mapIter (some bM) cl #[] cl)) (.pointer (some ⟨Γ1.w.heap.size, 0, none⟩)) := by
  left;unfold execOp;rw [aR.1];dsimp only;rw [hvM, Sem.run_bind, hr0]
  rfl
 show wpOpsIn (Fw ro) 0 P opsA _ [0 + pre.length] a1 Γ1.w;refine dZ hoR aR.2.2 (fun c h => by rw [aR.1] at h; cases h) hrunR ?_;rw [aR.2.1];show Exit.then _ _ .normal _ _;refine wpIn_block ?_;have hfree : ∀ id, Γ1.ρ id ≠ some Γ1.w.heap.size := fun id h => by have := (R1.inv.dom id _ h).2.1; omega
 have hfreeS : ¬ Γ1.S Γ1.w.heap.size := fun h => by have := R1.inv.stab _ h; omega
 have hn0 := R1.sz.2;generalize hrr : Γ1.w.heap.size = r at *;have hMlt : bM < r := by rw [<- hrr]; exact dq hbM
 have key : ∀ (m : Nat) (w0 : World) (seen : Array Nat) (c0 : Nat) (l : List Int) (L : List MapEntry) (a : Act), (leftOf ms seen).size < m -> cl <= c0 -> w0.heap.size = r -> w0.heap[bM]? = some (.map ms cl) ->
   seen = (L.map (·.born)).toArray -> (∀ e, e ∈ L -> e ∈ ms.toList) -> (∀ v, v ∈ l ↔ ∃ e, e ∈ L /\ e.val = .int .i64 v) ->
   aZ base n0 { Γ1 with H := s1.heap.set idS (.map (cZ l)), w := w0.alloc (.mapIter (some bM) cl seen c0) } β1 { s1 with env := E, heap := s1.heap.set idS (.map (cZ l)) } a ->
   dm s.lo n0 Γ { Γ1 with H := s1.heap.set idS (.map (cZ l)), w := w0.alloc (.mapIter (some bM) cl seen c0) } -> a.tmps.size = n -> a.tmps.getD it undef = .pointer (some ⟨r, 0, none⟩) ->
   Code.roundsIn (Fw ro) 0 P (.seq (.region iS #[oS1, oS2] false) (.seq (.cond (.tmp tm) .skip (.exit out)) (.block nx (.seq (.region iE #[oE1, oE2, oE3] false) (.region iU #[oU1, oU2, oU3] false))))) (Exit.inBlock out Q) m a (w0.alloc (.mapIter (some bM) cl seen c0)) := by
  intro m
  induction m with
  | zero => intro w0 seen c0 l L a h; omega
  | succ m ihm =>
   intro w0 seen c0 l L a hm hc0 hw0 hwM hseen hL hl R hwent han hait;rw [roundsIn_succ];refine wpIn_seq (wpIn_region ?_);show wpOpsIn (Fw ro) 0 P #[oS1, oS2] _ [0, 1] a _;have hnext := C7 (P := P) w0 oS1.type bM cl c0 seen ms cl hwM hborn.1 hc0;rw [hw0] at hnext;have hev : a.eval (.tmp it) = .pointer (some ⟨r, 0, none⟩) := hait;have hexec : ∀ (ty : Value) (w' : World), (Instr.next (.pointer (some ⟨r, 0, none⟩)) false oS1.type).run P (w0.alloc (.mapIter (some bM) cl seen c0)) = .ok ty w' -> je P oS1 a (w0.alloc (.mapIter (some bM) cl seen c0)) w' ty := fun ty w' h => by
    left;unfold execOp;rw [aS1.1];dsimp only;rw [hev, Sem.run_bind, h]
    rfl
   have hextr : ∀ (o' : Oper) (a' : Act) (t d i : Nat) (vs : Array Value) (v : Value) (w : World), ko o' (.extract (.tmp t) i) (some d) -> a'.tmps.getD t undef = .tuple vs -> vs[i]? = some v -> je P o' a' w w v := fun o' a' t d i vs v w ho ht hv => by
    left;unfold execOp;rw [ho.1];dsimp only;have : a'.eval (.tmp t) = .tuple vs := ht;rw [this];unfold Instr.extract;rw [Sem.run_bind];simp only [hv, Sem.run_pure, Result.andThen_ok]
   have htn : tn < a.tmps.size := by rw [han]; exact hlt tn (by simp)
   rcases hnext with ⟨hz, hrun⟩ | ⟨en, hen, k, hrun⟩
   ·
    refine dZ (o := oS1) rfl aS1.2.2 (fun c h => by rw [aS1.1] at h; cases h) (hexec _ _ hrun) ?_;rw [aS1.2.1];refine dZ (o := oS2) rfl aS2.2.2 (fun c h => by rw [aS2.1] at h; cases h) (hextr oS2 _ tn tm 0 #[.bool false] (.bool false) _ aS2 (eX htn) rfl) ?_;rw [aS2.2.1];show Exit.then _ _ .normal _ _;refine wpIn_seq (wpIn_cond_false (eX (by rw [bO]; rw [han]; exact hlt tm (by simp))) (wpIn_exit ?_));show Exit.inBlock out Q (.exit out) _ _;simp only [Exit.inBlock, if_true];refine hq l (fun v => ?_) _ _ ⟨_, β1, rfl, (R.other _ (hEn tn (by simp))).other _ (hEn tm (by simp)), hwent, by rw [bO, bO]; exact han, e2, e3⟩
    rw [hl];have hseen' := all_seen ms seen hz;constructor
    ·rintro ⟨x, hx, hxv⟩
     obtain ⟨i, hi⟩ := List.getElem?_of_mem (hL x hx);rw [Array.getElem?_toList] at hi;have hil : i < (np tl).length := by rw [<- hms]; exact (Array.getElem?_eq_some_iff.1 hi).1
     obtain ⟨y, q1, q2, q3⟩ := hrel i _ (List.getElem?_eq_getElem hil);rw [hi] at q1;injection q1 with q1;subst q1;have hil' : i < tl.length := by simpa [np] using hil
     have hmi : (np tl)[i] = (.int .i64 tl[i].1, .int .i64 tl[i].2) := by simp [np]
     rw [hmi, hxv] at q3;cases q3;exact ⟨tl[i].1, List.getElem_mem hil'⟩
    ·rintro ⟨k, hk⟩
     obtain ⟨i, hi⟩ := List.getElem?_of_mem hk;obtain ⟨y, q1, q2, q3⟩ := hrel i (.int .i64 k, .int .i64 v) (by simp [np, hi]);have hy : y ∈ ms.toList := List.mem_of_getElem? (by rw [Array.getElem?_toList]; exact q1);have := hseen' y hy;rw [hseen] at this;simp only [List.contains_toArray, List.contains_eq_mem, List.mem_map, decide_eq_true_eq] at this;obtain ⟨z, hz1, hz2⟩ := this;have := born_inj hborn.2 (hL z hz1) hy hz2;subst this;refine ⟨z, hz1, ?_⟩;cases hzv : z.val <;> rw [hzv] at q3 <;> cases q3
     rfl
   ·
    obtain ⟨hen1, hen2⟩ := mem_left hen;refine dZ (o := oS1) rfl aS1.2.2 (fun c h => by rw [aS1.1] at h; cases h) (hexec _ _ hrun) ?_;rw [aS1.2.1];refine dZ (o := oS2) rfl aS2.2.2 (fun c h => by rw [aS2.1] at h; cases h) (hextr oS2 _ tn tm 0 #[.bool true, en.key, en.val] (.bool true) _ aS2 (eX htn) rfl) ?_;rw [aS2.2.1];show Exit.then _ _ .normal _ _;refine wpIn_seq (wpIn_cond_true (eX (by rw [bO]; rw [han]; exact hlt tm (by simp))) (wpIn_skip ?_));show Exit.then _ _ .normal _ _;refine wpIn_block (wpIn_seq (wpIn_region ?_));show wpOpsIn (Fw ro) 0 P #[oE1, oE2, oE3] _ [0, 1, 2] _ _;generalize ha2 : (a.put (some tn) (Value.tuple #[.bool true, en.key, en.val])).put (some tm) (.bool true) = a2;have han2 : a2.tmps.size = n := by rw [<- ha2, bO, bO]; exact han
    have hait2 : a2.tmps.getD it undef = .pointer (some ⟨r, 0, none⟩) := by
     rw [<- ha2, iM (hit tm (by simp)), iM (hit tn (by simp))]; exact hait
    have hpk := aZ.poke (lo := s.lo) (r := r) (k := k) (ob := .mapIter (some bM) cl (seen.push en.born) cl) ((R.other (Value.tuple #[.bool true, en.key, en.val]) (hEn tn (by simp))).other (.bool true) (hEn tm (by simp))) (m := some bM) (x := cl) (y := c0) (sn := seen) (by
     show (w0.alloc _).heap[r]? = _;rw [<- hw0]; exact cB _ _) hfree hfreeS hn0
    rw [ha2] at hpk;have hwk : ({ w0.alloc (.mapIter (some bM) cl seen c0) with heap := (w0.alloc (.mapIter (some bM) cl seen c0)).heap.setIfInBounds r (.mapIter (some bM) cl (seen.push en.born) cl), drawn := k } : World) = ({ w0 with drawn := k } : World).alloc (.mapIter (some bM) cl (seen.push en.born) cl) := by
     rw [<- hw0]; exact zc w0 k _ _
    dsimp only at hpk;rw [hwk] at hpk;obtain ⟨R2, g2⟩ := hpk;have hw1 : ({ w0 with drawn := k } : World).heap.size = r := hw0;have hentry := run_entry_map (P := P) ({ w0 with drawn := k } : World) bM cl seen ms cl en hwM hen1 hborn.2;rw [hw1] at hentry;refine dZ (o := oE1) (v := .tuple #[en.key, en.val]) rfl aE1.2.2 (fun c h => by rw [aE1.1] at h; cases h) (.inl (by
     unfold execOp;rw [aE1.1];dsimp only;have : a2.eval (.tmp it) = .pointer (some ⟨r, 0, none⟩) := hait2;rw [this, Sem.run_bind, hentry]
     rfl)) ?_
    rw [aE1.2.1];refine dZ (o := oE2) rfl aE2.2.2 (fun c h => by rw [aE2.1] at h; cases h) (hextr oE2 _ tp tq 1 #[en.key, en.val] en.val _ aE2 (eX (by rw [han2]; exact hlt tp (by simp))) rfl) ?_;rw [aE2.2.1];have hmv : ∀ (o' : Oper) (a' : Act) (t : Nat) (v : Value) (w : World), (o'.op = .assign (.tmp t) \/ o'.op = .move (.tmp t)) -> a'.tmps.getD t undef = v -> je P o' a' w w v := fun o' a' t v w ho ht => by
     left;unfold execOp;have hev : a'.eval (.tmp t) = v := ht;rcases ho with ho | ho <;> rw [ho] <;> dsimp only <;> rw [hev] <;> rfl
    refine dZ (o := oE3) rfl aE3.2.2 (fun c h => by rw [aE3.1] at h; cases h) (hmv oE3 _ tq en.val _ (.inl aE3.1) (eX (by rw [bO, han2]; exact hlt tq (by simp)))) ?_;rw [aE3.2.1];show Exit.then _ _ .normal _ _;refine wpIn_region ?_;show wpOpsIn (Fw ro) 0 P #[oU1, oU2, oU3] _ [0, 1, 2] _ _;generalize ha3 : ((a2.put (some tp) (Value.tuple #[en.key, en.val])).put (some tq) en.val).put (some tv) en.val = a3;have han3 : a3.tmps.size = n := by rw [<- ha3, bO, bO, bO]; exact han2
    have hait3 : a3.tmps.getD it undef = .pointer (some ⟨r, 0, none⟩) := by
     rw [<- ha3, iM (hit tv (by simp)), iM (hit tq (by simp)), iM (hit tp (by simp))]; exact hait2
    have hav3 : a3.tmps.getD tv undef = en.val := by
     rw [<- ha3]; exact eX (by rw [bO, bO, han2]; exact hlt tv (by simp))
    have R3 := ((R2.other (Value.tuple #[en.key, en.val]) (hEn tp (by simp))).other en.val (hEn tq (by simp))).other en.val (hEn tv (by simp));rw [ha3] at R3;obtain ⟨v0, hv0⟩ : ∃ v0, en.val = .int .i64 v0 := by
     obtain ⟨i, hi⟩ := List.getElem?_of_mem hen1;rw [Array.getElem?_toList] at hi;have hil : i < (np tl).length := by rw [<- hms]; exact (Array.getElem?_eq_some_iff.1 hi).1
     obtain ⟨y, q1, q2, q3⟩ := hrel i _ (List.getElem?_eq_getElem hil);rw [hi] at q1;injection q1 with q1;subst q1;have hmi : (np tl)[i] = (.int .i64 (tl[i]'(by simpa [np] using hil)).1, .int .i64 (tl[i]'(by simpa [np] using hil)).2) := by simp [np]
     rw [hmi] at q3;exact ⟨_, by cases hzv : en.val <;> rw [hzv] at q3 <;> cases q3; rfl⟩
    obtain ⟨xv, uv, hl1, hl2, hl3⟩ := ox H.tab R3 aU1.1 (hload l);have hxv : xv = .v (.mp idS) := by
     rw [aU1.2.1] at hl3;have := congrArg St.env hl3;simp [St.put] at this;exact this.symm
    subst hxv;refine dZ (o := oU1) rfl aU1.2.2 (fun c h => by rw [aU1.1] at h; cases h) (.inl hl1) ?_;rw [aU1.2.1];refine dZ (o := oU2) rfl aU2.2.2 (fun c h => by rw [aU2.1] at h; cases h) (hmv oU2 _ tv en.val _ (.inr aU2.1) (by rw [iM hva]; exact hav3)) ?_;rw [aU2.2.1];have R4 := (R3.put (some ta) (fun t ht => by injection ht with ht; rw [<- ht, han3]; exact hlt ta (by simp)) hl2).put (some tb) (x := .v (.int .i64 v0)) (v := en.val) (fun t ht => by injection ht with ht; rw [<- ht, bO, han3]; exact hlt tb (by simp)) (by rw [hv0]; exact aD.int _ _);generalize ha4 : (a3.put (some ta) uv).put (some tb) en.val = a4 at R4;have han4 : a4.tmps.size = n := by rw [<- ha4, bO, bO]; exact han3
    have hait4 : a4.tmps.getD it undef = .pointer (some ⟨r, 0, none⟩) := by
     rw [<- ha4, iM (hit tb (by simp)), iM (hit ta (by simp))]; exact hait3
    have hidlt : idS < s1.heap.length := aV hHS;have hvm : (({ s1 with env := E, heap := s1.heap.set idS (.map (cZ l)) } : St).put (some ta) (.v (.mp idS))).put (some tb) (.v (.int .i64 v0)) = { s1 with env := (tb, .v (.int .i64 v0)) :: (ta, .v (.mp idS)) :: E, heap := s1.heap.set idS (.map (cZ l)) } := rfl;rw [hvm] at R4;have hHl : (s1.heap.set idS (.map (cZ l)))[idS]? = some (ap.map (cZ l)) := List.getElem?_set_self hidlt;have hva1 : ({ s1 with env := (tb, .v (.int .i64 v0)) :: (ta, .v (.mp idS)) :: E, heap := s1.heap.set idS (.map (cZ l)) } : St).val (.tmp ta) = some (.mp idS) := by
     simp [St.val, St.slot, bE, hab]
    have hvb1 : ({ s1 with env := (tb, .v (.int .i64 v0)) :: (ta, .v (.mp idS)) :: E, heap := s1.heap.set idS (.map (cZ l)) } : St).val (.tmp tb) = some (.int .i64 v0) := by
     simp [St.val, St.slot, bE]
    obtain ⟨bS, hρS, _⟩ := oB (R4.val hva1) hHl;obtain ⟨mS, cS, u1, u2, u3, u4⟩ := R4.inv.map idS bS _ hρS hHl;obtain ⟨ms', cl', z1, z2, z3⟩ := lX H.tab R4 (xv := .bool true) (x := .const (.bool true)) (kv := .int .i64 v0) hT2 hva1 hvb1 rfl (hk2 v0) (ri v0 l) hρS hHl u1 u2 u3 u4;obtain ⟨y1, y2⟩ := z1.to_array;have hbne : bS ≠ bM := fun e => hidne (R1.inv.inj idS idM bM (e ▸ hρS) hρM)
    have hbr : bS ≠ r := fun e => hfree idS (e ▸ hρS)
    have hblt : bS < r := by
     have := (R4.inv.dom idS bS hρS).2.1;have hsz2 : (({ w0 with drawn := k } : World).alloc (.mapIter (some bM) cl (seen.push en.born) cl)).heap.size = r + 1 := by rw [jX, hw1]
     have h5 : bS < (({ w0 with drawn := k } : World).alloc (.mapIter (some bM) cl (seen.push en.born) cl)).heap.size := this;omega
    have hext5 := cA.updMap R4.inv (es' := cZ (rh l v0)) (ms' := ms') (cl' := cl') hlo hρS hHl u1;have R5 := R4.ext hext5 (R4.inv.upd hρS hext5 ⟨ms', cl', rfl, by simpa using y1, fun i x hx => by
     obtain ⟨m', q1, q2⟩ := y2 i x hx;exact ⟨m', by rw [<- Array.getElem?_toList]; exact q1, q2⟩, z2⟩)
    refine dZ (o := oU3) (v := undef) (w' := { ({ w0 with drawn := k } : World).alloc (.mapIter (some bM) cl (seen.push en.born) cl) with heap := (({ w0 with drawn := k } : World).alloc (.mapIter (some bM) cl (seen.push en.born) cl)).heap.setIfInBounds bS (.map ms' cl') }) rfl aU3.2.2 (fun c h => by rw [aU3.1] at h; cases h) (.inr ⟨?_, rfl⟩) ?_
    ·unfold execOp
     rw [aU3.1];dsimp only;rw [Sem.run_bind, z3]
     rfl
    rw [aU3.2.1];show Exit.inBlock nx _ .normal _ _;show Code.roundsIn (Fw ro) 0 P _ _ m a4 _;have hwe : ({ ({ w0 with drawn := k } : World).alloc (.mapIter (some bM) cl (seen.push en.born) cl) with heap := (({ w0 with drawn := k } : World).alloc (.mapIter (some bM) cl (seen.push en.born) cl)).heap.setIfInBounds bS (.map ms' cl') } : World) =
     ({ w0 with drawn := k, heap := w0.heap.setIfInBounds bS (.map ms' cl') } : World).alloc (.mapIter (some bM) cl (seen.push en.born) cl) := BA ({ w0 with drawn := k } : World) bS _ _ (by rw [hw1]; exact hblt)
    have hHe : (s1.heap.set idS (.map (cZ l))).set idS (.map (cZ (rh l v0))) = s1.heap.set idS (ap.map (cZ (rh l v0))) := List.set_set _;have hΓe : aX.upd { Γ1 with H := s1.heap.set idS (.map (cZ l)), w := ({ w0 with drawn := k } : World).alloc (.mapIter (some bM) cl (seen.push en.born) cl) } idS bS (.map (cZ (rh l v0))) (.map ms' cl') =
      {Γ1 with H := s1.heap.set idS (.map (cZ (rh l v0))), w := ({ w0 with drawn := k, heap := w0.heap.setIfInBounds bS (.map ms' cl') } : World).alloc (.mapIter (some bM) cl (seen.push en.born) cl) } := by
     unfold aX.upd;dsimp only;rw [hHe, hwe]
    rw [hΓe] at R5 hext5;rw [hwe];refine ihm _ (seen.push en.born) cl (rh l v0) (L ++ [en]) a4 ?_ (Nat.le_refl _) (by simpa using hw0) ?_ ?_ (fun x hx => ?_) (fun v => ?_) (R5.sub (E := E) fun t x hx => ?_) ((hwent.trans g2 (Nat.le_refl _)).trans (dm.of hext5) (by rw [e2]; exact Nat.le_refl _)) han4 hait4
    ·have := left_shrinks ms seen en hen
     omega
    ·rw [show ({ w0 with drawn := k, heap := w0.heap.setIfInBounds bS (.map ms' cl') } : World).heap[bM]? = w0.heap[bM]? from aG (w := w0) hbne]; exact hwM
    ·rw [hseen]; simp
    ·rcases List.mem_append.1 hx with hx | hx
     ·exact hL x hx
     ·simp at hx; subst hx; exact hen1
    ·rw [C8, hl]
     constructor
     ·rintro (⟨x, hx, hxv⟩ | rfl)
      ·exact ⟨x, List.mem_append_left _ hx, hxv⟩
      ·exact ⟨en, by simp, hv0⟩
     ·rintro ⟨x, hx, hxv⟩
      rcases List.mem_append.1 hx with hx | hx
      ·exact .inl ⟨x, hx, hxv⟩
      ·simp at hx; subst hx
       rw [hv0] at hxv;injection hxv with _ hxv;exact .inr hxv.symm
    ·show look ((tb, _) :: (ta, _) :: E) t = some x
     have h1 : tb ≠ t := fun e => by rw [<- e, hEn tb (by simp)] at hx; cases hx
     have h2 : ta ≠ t := fun e => by rw [<- e, hEn ta (by simp)] at hx; cases hx
     rw [bE, if_neg h1, bE, if_neg h2]; exact hx
 refine wpIn_loop_rounds ((leftOf ms #[]).size + 1) ?_;have hset0 : s1.heap.set idS (.map (cZ [])) = s1.heap := by
  obtain ⟨hlt', hget⟩ := List.getElem?_eq_some_iff.1 hHS;rw [<- hget, List.set_getElem_self]
 have hH1 := R1.heap;have R1' := R1.sub (E := E) hEs;have hal := cA.alloc 0 Γ1 (.mapIter (some bM) cl #[] cl);have R2 := (R1'.ext hal (R1.inv.alloc _)).other (.pointer (some ⟨r, 0, none⟩)) (hEn it (by simp));have hΓ2 : ({ Γ1 with H := s1.heap.set idS (.map (cZ [])), w := Γ1.w.alloc (.mapIter (some bM) cl #[] cl) } : aX) = { Γ1 with w := Γ1.w.alloc (.mapIter (some bM) cl #[] cl) } := by rw [hset0, <- hH1]
 refine key _ Γ1.w #[] cl [] [] _ (Nat.lt_succ_self _) (Nat.le_refl _) hrr hbM rfl (fun e he => by cases he) (fun v => ⟨fun h => (by cases h), fun ⟨x, hx, _⟩ => by cases hx⟩) ?_ ?_ (by rw [bO]; exact e1) (eX (by rw [e1]; exact hlt it (by simp)))
 ·rw [hΓ2, hset0, <- hH1]; exact R2
 ·rw [hΓ2]; exact g1.trans (dm.of (cA.alloc s1.lo Γ1 _)) (by rw [e2]; exact Nat.le_refl _)
variable {P : Program} {C : dO} {Γ Γ0 : aX} {base n0 n f fuel : Nat} {β : Nat -> Nat} {s s' : St} {a : Act} {o : Oper} {K : Callee}
def fZ (P : Program) (n : Nat) (c : Code) (s : St) (Post : Ex -> St -> Prop) : Prop :=
 ∀ (base n0 : Nat) (Γ : aX) (β : Nat -> Nat) (a : Act) (Q : Exit -> Act -> World -> Prop), aZ base n0 Γ β s a -> a.tmps.size = n -> s.inRound = false -> (∀ e s' a' w', Post e s' -> bI base n0 Γ s s' n a' w' -> Q e.out a' w') -> c.wpIn (Fw none) 0 P Q a Γ.w
theorem fZ.of (H : qb P C K) (hD : kc P C K) (hF : nf P C K) {c : Code} {Post : Ex -> St -> Prop} (hok : da n c = true) (h : W C K f fuel c s Post) : fZ P n c s Post := by
 intro base n0 Γ β a Q R hn hr hq;obtain ⟨e, s', h1, h2⟩ := h;exact kd (ro := none) H hD hF c hok Γ β s s' e a Q R hn (by rw [hr]; rfl) h1 fun a' w' hp => hq e s' a' w' h2 hp
theorem fZ.seq {x y : Code} {P1 Post : Ex -> St -> Prop} (hx : fZ P n x s P1) (hy : ∀ s1, P1 .normal s1 -> s1.inRound = false -> fZ P n y s1 Post) (ho : ∀ e s1, e ≠ .normal -> P1 e s1 -> Post e s1) : fZ P n (.seq x y) s Post := by
 intro base n0 Γ β a Q R hn hr hq;refine wpIn_seq (hx base n0 Γ β a _ R hn hr fun e s1 a1 w1 hp hop => ?_);cases e with
 | normal =>
  obtain ⟨Γ1, β1, e1, R1, g, e2, e3, e4⟩ := hop;subst e1;exact hy s1 hp (e4.trans hr) base n0 Γ1 β1 a1 Q R1 e2 (e4.trans hr) fun e' s' a' w' hp' hop' => hq e' s' a' w' hp' (bI.then (a1 := a1) g e3 e4 hop')
 | exit i => exact hq _ s1 a1 w1 (ho _ _ (by simp) hp) hop
 | ret => exact hq _ s1 a1 w1 (ho _ _ (by simp) hp) hop
def lC (P : Program) (lo : Nat) (fid : FuncId) (vs : List AV) (h : aj) (r : AV) (h' : aj) : Prop :=
 ∀ (base : Nat) (Γ : aX), dM base Γ -> base <= Γ.w.heap.size -> Γ.H = h -> ∀ args : Array Value, bH Γ vs args.toList ->
  (∃ fn, P.funcs[fid]? = some fn /\ fn.name ≠ "runtime.NumGoroutine" /\ fn.body.isSome = true) /\ CallsIn Fence.wide 0 P fid args Γ.w (dr base lo Γ r h')
theorem fZ.call (hT : ck P C.tab) (hP : kX P = true) {lo : Nat} {fid : FuncId} {fn : Func} {b : Code} {vs : List AV} {h : aj} {r : AV} (hf : P.funcs[fid]? = some fn) (hb : fn.body = some b) (hle : vs.length <= fn.ntmps) (hcut : C.cut fid = true)
  (hd : fZ P fn.ntmps b { env := jb 0 vs, loc := [], heap := h, inRound := false, lo := h.length } (fun e s1 => (e = .ret \/ e = .normal) /\ iw C fn fid h s1 = some (r, h))) : lC P lo fid vs h r h := by
 intro base Γ I hb0 hH args hargs;subst hH;obtain ⟨o1, o2⟩ := pz hP hf hb;refine ⟨⟨fn, hf, o1, by rw [hb]; rfl⟩, ?_⟩
 have hal := hargs.len;simp only [Array.length_toList] at hal;have hR := aZ.start (ntmps := fn.ntmps) (lo := Γ.H.length) I hb0 hargs;have hsz : (args ++ Array.replicate (fn.ntmps - args.size) undef).size = fn.ntmps := by simp; omega
 refine callsIn_of_wp_marks hf hb trivial ?_;refine hd base Γ.w.heap.size Γ _ _ _ hR hsz rfl fun e s1 a' w' hp hop => ?_
 obtain ⟨he, hres⟩ := hp;obtain ⟨Γ1, β1, e1, R1, g1, e2, e3, e4⟩ := hop;subst e1;have hgoal : LeavesInM Fence.wide 0 P fn a'.tmps (dr base lo Γ r Γ.H) a'.defers .returning Γ1.w := by
  refine ke (lo := Γ.H.length) (base := base) (n0 := Γ.w.heap.size) (β := β1) (s := s1) a'.defers Γ1 R1 fun Γ2 R2 g2 => ?_
  have hx : cA Γ.H.length (fun _ => False) Γ Γ2 := (g1.trans g2 (Nat.le_refl _)).closed;unfold iw at hres;cases hrs : cP C s1 fn.results.toList with
  | none => rw [hrs] at hres; cases hres
  | some xs =>
   rw [hrs] at hres;obtain ⟨v, hv1, hv2⟩ := lY hT R2 hrs;refine ⟨v, hv1, ?_⟩;obtain ⟨q, hh, hnz⟩ := qR (pB hres)
   suffices hfin : dr base lo Γ q Γ.H (.returned v) Γ2.w by
    obtain ⟨Γ3, p1, p2, p3, p4, p5⟩ := hfin;exact ⟨Γ3, p1, p2, p3, p4, hnz Γ3 v p5⟩
   unfold ja at hh;rw [hcut] at hh;simp only [if_true] at hh
   split at hh
   ·rename_i q' hq
    injection hh with hh;injection hh with q1 q2;subst q1;rw [<- R2.heap] at hq;exact ⟨Γ.frz Γ2, rfl, rfl, uY I R2.inv hx, Ak I R2.inv hx, tD R2.inv hq hv2⟩
   ·cases hh
 rcases he with rfl | rfl
 ·exact hgoal
 ·exact hgoal
theorem fZ.then {x y : Code} {Post : Ex -> St -> Prop} (H : qb P C K) (hD : kc P C K) (hF : nf P C K) (hok : da n x = true)
  (h : W C K f fuel x s (fun e s1 => (e = .normal /\ fZ P n y s1 Post) \/ (e ≠ .normal /\ Post e s1))) : fZ P n (.seq x y) s Post := by
 refine fZ.seq (fZ.of H hD hF hok h) (fun s1 hp _ => ?_) (fun e s1 he hp => ?_)
 ·rcases hp with ⟨_, h⟩ | ⟨h, _⟩
  ·exact h
  ·exact absurd rfl h
 ·rcases hp with ⟨h, _⟩ | ⟨_, h⟩
  ·exact absurd h he
  ·exact h
theorem Av {ops : Array Oper} {bs : List Nat} {Q : Ex -> St -> Prop} {id : Nat} {s1 : St} (hfr : b7 (C.fr f id) s = s1) (hpin : C.pin f id = none) (ht : ml ops = false) (hbs : cR ops = bs) (h : WD C K f ops bs ops.toList 0 s1 (Q .normal)) : W C K f fuel (.region id ops true) s Q := by
 obtain ⟨s2, h1, h2⟩ := h;subst hbs;exact ⟨.normal, s2, by simp only [cf, if_true, hfr, yz, hpin, mX, ht, Bool.false_eq_true, if_false, h1, Option.map_some], h2⟩
theorem fZ.set (H : qb P C K) {y : Code} {Post : Ex -> St -> Prop} {iA iS iE iU out nx : Nat} {opsA : Array Oper} {oR oS1 oS2 oE1 oE2 oE3 oU1 oU2 oU3 : Oper} {it tn tm tp tq tv ta tb tM : Nat} {x1 : Operand} {T1 T2 : TypeId}
  (hA : opsA.toList.getLast? = some oR)
  (aR : ko oR (.range T1 (.tmp tM)) (some it)) (aS1 : ko oS1 (.next (.tmp it) false) (some tn)) (aS2 : ko oS2 (.extract (.tmp tn) 0) (some tm))
  (aE1 : ko oE1 (.entry (.tmp it)) (some tp)) (aE2 : ko oE2 (.extract (.tmp tp) 1) (some tq)) (aE3 : ko oE3 (.assign (.tmp tq)) (some tv))
  (aU1 : ko oU1 (.load T2 x1) (some ta)) (aU2 : ko oU2 (.move (.tmp tv)) (some tb)) (aU3 : ko oU3 (.mapUpdate T2 (.tmp ta) (.tmp tb) (.const (.bool true))) none)
  (hdst : dU n opsA = true) (hlt : ([it, tn, tm, tp, tq, tv, ta, tb].all fun d => decide (d < n)) = true) (hit : ([tn, tm, tp, tq, tv, ta, tb].all fun d => d != it) = true) (hva : (ta != tv) = true) (hab : (tb != ta) = true)
  (LV : List Nat) (hLV : ([it, tn, tm, tp, tq, tv, ta, tb].all fun d => !LV.contains d) = true)
  {kt e sz by_ kt2 e2 sz2 by2 : Nat} {zr zr2 : List AV} (hT1 : look C.tab T1 = some { kind := .map kt e, sz := sz, bytes := by_, zero := zr }) (hT2 : look C.tab T2 = some { kind := .map kt2 e2, sz := sz2, bytes := by2, zero := zr2 }) (hk2 : ∀ m, fj C.tab kt2 (.int .i64 m) = some (.int .i64))
  (h : WO C K f opsA opsA.toList.dropLast s (fun s1 => ∃ (E : List (Nat × co)) (idM idS : Nat) (tl : List (Int × Int)), gI LV s1.env = E /\ s1.val (.tmp tM) = some (.mp idM) /\ s1.heap[idM]? = some (.map (np tl)) /\ s1.heap[idS]? = some (.map (cZ [])) /\ idS ≠ idM /\ s1.lo <= idS /\
   (∀ l, aE C K f oU1 { s1 with env := E, heap := s1.heap.set idS (.map (cZ l)) } = some { s1 with env := (ta, .v (.mp idS)) :: E, heap := s1.heap.set idS (.map (cZ l)) }) /\
   ∀ l, (∀ v, v ∈ l ↔ ∃ k, (k, v) ∈ tl) -> fZ P n y { s1 with env := E, heap := s1.heap.set idS (.map (cZ l)) } Post)) :
  fZ P n (.seq (.seq (.region iA opsA false) (.block out (.loop (.seq (.region iS #[oS1, oS2] false) (.seq (.cond (.tmp tm) .skip (.exit out)) (.block nx (.seq (.region iE #[oE1, oE2, oE3] false) (.region iU #[oU1, oU2, oU3] false)))))))) y) s Post := by
 obtain ⟨s1, hex, E, idM, idS, tl, q1, q2, q3, q4, q5, q6, q7, q8⟩ := h;have hE : ∀ d, look E d = if d ∈ LV then look s1.env d else none := fun d => by rw [<- q1]; exact kg s1.env LV d
 refine fZ.seq (P1 := fun e s2 => e = .normal /\ ∃ l, (∀ v, v ∈ l ↔ ∃ k, (k, v) ∈ tl) /\ s2 = { s1 with env := E, heap := s1.heap.set idS (.map (cZ l)) }) ?_ (fun s2 hp _ => ?_) (fun e s2 he hp => absurd hp.1 he)
 ·intro base n0 Γ β a Q R hn hr hq
  refine GM (ro := none) (Q := Q) (opsS := #[oS1, oS2]) (opsE := #[oE1, oE2, oE3]) (opsU := #[oU1, oU2, oU3]) (pre := opsA.toList.dropLast) (oR := oR) H ?_ rfl rfl rfl aR aS1 aS2 aE1 aE2 aE3 aU1 aU2 aU3 hdst (fun d hd => ?_) (fun d hd => ?_) ?_ ?_ (fun d hd => ?_) (fun t x hx => ?_) R hn hex q2 q3 q4 q5 q6 hT1 hT2 hk2 q7 (fun l hl a' w' hop => hq .normal _ a' w' ⟨rfl, l, hl, rfl⟩ hop)
  ·cases hl : opsA.toList with
   | nil => rw [hl] at hA; cases hA
   | cons x l =>
    rw [hl, List.getLast?_eq_some_getLast (by simp)] at hA;injection hA with hA;rw [<- hA, List.dropLast_concat_getLast]
  ·have := List.all_eq_true.1 hlt d hd; simpa using this
  ·have := List.all_eq_true.1 hit d hd; simpa using this
  ·simpa using hva
  ·simpa using hab
  ·have := List.all_eq_true.1 hLV d hd
   rw [hE, if_neg (by simpa using this)]
  ·rw [hE] at hx
   split at hx
   ·exact hx
   ·cases hx
 ·obtain ⟨_, l, hl, rfl⟩ := hp
  exact q8 l hl
end Go.Ev
