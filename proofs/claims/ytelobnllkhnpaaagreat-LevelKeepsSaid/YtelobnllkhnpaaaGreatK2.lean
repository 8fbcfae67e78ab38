/- Variables of an activation's own; one operation, all told. -/
import Derived.Test.YtelobnllkhnpaaaGreatK1
import Derived.LoopNIn
import Derived.RangeFuncIn
import Derived.RangeFuncLeaves
set_option linter.unusedVariables false
set_option linter.unusedSimpArgs false
set_option maxHeartbeats 40000000
set_option maxRecDepth 1000000
namespace Go.Ev
variable {P : Program} {C : dO} {Γ : aX} {t : Nat} {ti : TI} {base n0 f : Nat} {β : Nat -> Nat} {s s' : St} {a : Act} {o : Oper} {K : Callee}
abbrev dm (lo n0 : Nat) (Γ Γ' : aX) : Prop := cA lo (fun b => n0 <= b /\ ¬ Γ.S b) Γ Γ'
theorem dm.refl {lo n0 : Nat} : dm lo n0 Γ Γ := cA.refl _ _ _
theorem dm.trans {lo lo' n0 : Nat} {Γ Γ1 Γ2 : aX} (h : dm lo n0 Γ Γ1) (k : dm lo' n0 Γ1 Γ2) (hlo : lo <= lo') : dm lo n0 Γ Γ2 :=
 cA.trans h k hlo fun b _ _ hB => ⟨hB.1, fun hs => hB.2 (h.stab b hs)⟩
theorem dm.of {lo n0 : Nat} {Γ Γ' : aX} (h : cA lo (fun _ => False) Γ Γ') : dm lo n0 Γ Γ' := h.weaken (Nat.le_refl _) (fun _ _ e => e.elim)
def bI (base n0 : Nat) (Γ : aX) (s s' : St) (n : Nat) (a' : Act) (w' : World) : Prop :=
 ∃ Γ' β', Γ'.w = w' /\ aZ base n0 Γ' β' s' a' /\ dm s.lo n0 Γ Γ' /\ a'.tmps.size = n /\ s'.lo = s.lo /\ s'.inRound = s.inRound
theorem bO (a : Act) (d : Option Tmp) (v : Value) : (a.put d v).tmps.size = a.tmps.size := by
 cases d <;> simp [Act.put]
theorem gF (s : St) (d : Option Tmp) (x : co) : (s.put d x).lo = s.lo /\ (s.put d x).inRound = s.inRound /\ (s.put d x).heap = s.heap /\ (s.put d x).loc = s.loc := by
 cases d <;> exact ⟨rfl, rfl, rfl, rfl⟩
theorem cC.op (R : aZ base n0 Γ β s a) {d : Option Tmp} (hd : ∀ t, d = some t -> t < a.tmps.size) {v : Value} {w' : World} (h : cC base Γ β s d s' v w') : bI base n0 Γ s s' a.tmps.size (a.put d v) w' := by
 obtain ⟨Γ', x, e1, hext, hI, hx, e2⟩ := h;subst e2;exact ⟨Γ', β, e1, (R.ext hext hI).put d hd hx, dm.of hext, bO _ _ _, (gF _ _ _).1, (gF _ _ _).2.1⟩
theorem qP (d t : Nat) : ∀ l : List (Nat × co), look (tr d l) t = (look l t).map (tk d)
 | [] => rfl
 | (k, x) :: l => by
  simp only [tr, bE]
  split
  ·rfl
  ·exact qP d t l
theorem dq {w : World} {b : Nat} {o : Obj} (h : w.heap[b]? = some o) : b < w.heap.size := by
 rcases Nat.lt_or_ge b w.heap.size with h' | h'
 ·exact h'
 ·rw [Array.getElem?_eq_none h'] at h; cases h
theorem aZ.newLocal (R : aZ base n0 Γ β s a) {d : Tmp} (hd : d < a.tmps.size) {xs : List AV} {cs : Array Value} (hc : fT Γ xs cs) (T : TypeId) :
  aZ base n0 { Γ with w := Γ.w.alloc (.cells cs T (0, 0)) } (fun x => if x = d then Γ.w.heap.size else β x)
   {s with env := (d, .p d 0) :: tr d s.env, loc := (d, xs) :: s.loc } (a.put (some d) (.pointer (some ⟨Γ.w.heap.size, 0, none⟩))) := by
 have hext := cA.alloc 0 Γ (.cells cs T (0, 0));have hB : ∀ b, Γ.S b -> ¬ (fun _ : Nat => False) b := fun _ _ h => h
 refine ⟨R.inv.alloc _, ⟨R.sz.1, by rw [jX]; have := R.sz.2; omega⟩, R.heap, fun t x hx => ?_, fun d' ys hy => ?_, fun d1 d2 x1 x2 h1 h2 e => ?_, ?_⟩
 ·simp only [bE] at hx
  simp only [Act.put, Array.size_setIfInBounds]
  split at hx
  ·rename_i e
   subst e;injection hx with hx; subst hx;refine ⟨hd, ?_⟩;simp [jc, Array.getD_eq_getD_getElem?, hd]
  ·rename_i e
   rw [qP] at hx;obtain ⟨y, hy, rfl⟩ := Option.map_eq_some_iff.1 hx;obtain ⟨h1, h2⟩ := R.env t y hy;refine ⟨h1, ?_⟩;have : (a.tmps.setIfInBounds d (.pointer (some ⟨Γ.w.heap.size, 0, none⟩))).getD t undef = a.tmps.getD t undef := by
    simp [Array.getD_eq_getD_getElem?, e]
   rw [this];cases y with
   | v av => exact aD.ext hext R.inv hB h2
   | junk => trivial
   | p e' off =>
    by_cases hne' : e' = d
    ·have : tk d (.p e' off) = .junk := by simp [tk, hne']
     rw [this]; trivial
    ·have : tk d (.p e' off) = .p e' off := by simp [tk, hne']
     rw [this];show a.tmps.getD t undef = .pointer (some ⟨(if e' = d then Γ.w.heap.size else β e'), off, none⟩);rw [if_neg hne'];exact h2
 ·simp only [bE] at hy
  split at hy
  ·rename_i e
   subst e;injection hy with hy; subst hy;simp only [if_true];refine ⟨cs, T, cB _ _, hc.1, hc.2.1, fun i x hx => (hc.2.2 i x hx).ext hext R.inv hB, fun id e => ?_, fun e => ?_, ?_, ?_⟩
   ·have := (R.inv.dom id _ e).2.1; omega
   ·have := R.inv.stab _ e; omega
   ·have := R.sz; omega
   ·exact R.sz.2
  ·rename_i e
   have e' : ¬ d' = d := fun h => e h.symm
   simp only [if_neg e'];obtain ⟨arr, T', h1, h2, h3, h4, h5, h6, h7, h8⟩ := R.loc d' ys hy;exact ⟨arr, T', (bD (dq h1)).trans h1, h2, h3, fun i x hx => (h4 i x hx).ext hext R.inv hB, h5, h6, h7, h8⟩
 ·simp only [bE] at h1 h2
  by_cases c1 : d = d1 <;> by_cases c2 : d = d2
  ·rw [<- c1, <- c2]
  ·rw [if_neg c2] at h2
   have c2' : ¬ d2 = d := fun h => c2 h.symm
   simp only [if_pos c1.symm, if_neg c2'] at e;obtain ⟨arr, T', g1, _⟩ := R.loc d2 x2 h2;have := dq g1;omega
  ·rw [if_neg c1] at h1
   have c1' : ¬ d1 = d := fun h => c1 h.symm
   simp only [if_pos c2.symm, if_neg c1'] at e;obtain ⟨arr, T', g1, _⟩ := R.loc d1 x1 h1;have := dq g1;omega
  ·rw [if_neg c1] at h1
   rw [if_neg c2] at h2;have c1' : ¬ d1 = d := fun h => c1 h.symm
   have c2' : ¬ d2 = d := fun h => c2 h.symm
   simp only [if_neg c1', if_neg c2'] at e;exact R.linj d1 d2 x1 x2 h1 h2 e
 ·obtain ⟨rs, h1, hnd, h2⟩ := R.marks
  refine ⟨rs, h1, hnd, fun r hr => ?_⟩
  obtain ⟨h3, h4, h5, h6⟩ := h2 r hr;exact ⟨(bD (dq h3)).trans h3, h4, h5, h6⟩
theorem aZ.setLocal (R : aZ base n0 Γ β s a) {lo : Nat} {d : Tmp} {xs zs : List AV} (hl : look s.loc d = some xs) {arr cs : Array Value} {T : TypeId} (ha : Γ.w.heap[β d]? = some (.cells arr T (0, 0))) (hsz : cs.size = arr.size) (hzs : zs.length = xs.length)
  (h1 : ∀ x, x ∈ zs -> oneCell x = true) (hr : ∀ (i : Nat) (x : AV), zs[i]? = some x -> aD Γ x (cs.getD i undef)) :
  aZ base n0 { Γ with w := { Γ.w with heap := Γ.w.heap.setIfInBounds (β d) (.cells cs T (0, 0)) } } β { s with loc := (d, zs) :: s.loc } a /\ dm lo n0 Γ { Γ with w := { Γ.w with heap := Γ.w.heap.setIfInBounds (β d) (.cells cs T (0, 0)) } } := by
 obtain ⟨arr', T', g1, g2, g3, g4, g5, g6, g7, g8⟩ := R.loc d xs hl;rw [ha] at g1;injection g1 with g1; injection g1 with q1 q2 _; subst q1 q2;have hlt := dq ha;have hext : dm lo n0 Γ { Γ with w := { Γ.w with heap := Γ.w.heap.setIfInBounds (β d) (.cells cs T (0, 0)) } } :=
  {cA.refl lo (fun b => n0 <= b /\ ¬ Γ.S b) Γ with
   sizes := fun b ar T2 fr h => by
    by_cases e : β d = b
    ·subst e
     rw [ha] at h;injection h with h; injection h with q1 q2 q3; subst q1 q2 q3;exact ⟨cs, (0, 0), ez hlt, hsz⟩
    ·exact ⟨ar, fr, (aG e).trans h, rfl⟩
   keep := fun b hb hρ hnB => aG fun e => hnB (e ▸ ⟨g8, g6⟩)
   barrier := fun id _ _ => ⟨rfl, rfl, fun b hb _ => aG fun e => g5 id (by rw [e]; exact hb)⟩
   size := by simp }
 have hB : ∀ b, Γ.S b -> ¬ (n0 <= b /\ ¬ Γ.S b) := fun b hs h => h.2 hs
 refine ⟨⟨R.inv.same hext hB rfl rfl rfl (fun id b e => aG fun h => g5 id (h ▸ e)), ⟨R.sz.1, by simpa using R.sz.2⟩, R.heap, fun t x hx => ?_, fun d' ys hy => ?_, fun d1 d2 x1 x2 h1 h2 e => ?_, ?_⟩, hext⟩
 ·obtain ⟨k1, k2⟩ := R.env t x hx
  refine ⟨k1, ?_⟩;cases x with
  | v av => exact aD.ext hext R.inv hB k2
  | junk => trivial
  | p e' off => exact k2
 ·simp only [bE] at hy
  split at hy
  ·rename_i e
   subst e;injection hy with hy; subst hy;exact ⟨cs, T, ez hlt, by omega, h1, fun i x hx => (hr i x hx).ext hext R.inv hB, g5, g6, g7, g8⟩
  ·rename_i e
   obtain ⟨arr2, T2, k1, k2, k3, k4, k5⟩ := R.loc d' ys hy;refine ⟨arr2, T2, (aG fun h => e (R.linj d d' xs ys hl hy h)).trans k1, k2, k3, fun i x hx => (k4 i x hx).ext hext R.inv hB, k5⟩
 ·have some_of : ∀ d' x', look ((d, zs) :: s.loc) d' = some x' -> ∃ y, look s.loc d' = some y := fun d' x' h => by
   simp only [bE] at h
   split at h
   ·rename_i e; subst e; exact ⟨xs, hl⟩
   ·exact ⟨x', h⟩
  obtain ⟨y1, k1⟩ := some_of d1 x1 h1;obtain ⟨y2, k2⟩ := some_of d2 x2 h2;exact R.linj d1 d2 y1 y2 k1 k2 e
 ·obtain ⟨rs, k1, hnd, k2⟩ := R.marks
  refine ⟨rs, k1, hnd, fun r hr => ?_⟩
  obtain ⟨h3, h4, h5, h6⟩ := k2 r hr;refine ⟨(aG fun e => ?_).trans h3, h4, h5, h6⟩;rw [<- e, ha] at h3;cases h3
theorem fW (H : qb P C K) (R : aZ base n0 Γ β s a) (hd : ∀ t, o.dst = some t -> t < a.tmps.size) {ro : Option Nat} {next : Act -> World -> Prop} {Q : Exit -> Act -> World -> Prop} (h : aE C K f o s = some s')
  (hn : ∀ a' w', bI base n0 Γ s s' a.tmps.size a' w' -> next a' w') : o.wpIn (Fw ro) 0 P a Γ.w next Q := by
 by_cases hl : kb C f s o
 ·unfold kb at hl
  cases ho : o.op <;> rw [ho] at hl <;> first | exact hl.elim | skip
  case alloc t =>
   obtain ⟨d, hdd, hesc⟩ := hl;unfold aE at h;rw [ho, hdd] at h;dsimp only at h
   split at h
   ·rename_i ti d' ht hd'
    injection hd' with hd'; subst hd';rw [if_neg hesc] at h;injection h with h;obtain ⟨z, hz, h1, h2, h3⟩ := (H.tab _ _ ht).run_zero Γ.w;have hc : fT Γ ti.zero z.cells := .of_zero h2;refine gP (w' := Γ.w.alloc (.cells z.cells t (0, 0))) (v := .pointer (some ⟨Γ.w.heap.size, 0, none⟩)) (fun c e => by rw [ho] at e; cases e) (.inl ?_) (hn _ _ ⟨_, fun x => if x = d then Γ.w.heap.size else β x, rfl, ?_, dm.of (cA.alloc s.lo Γ _), bO _ _ _, ?_, ?_⟩)
    ·unfold execOp
     rw [ho];dsimp only;have : (Instr.alloc t true (.tuple #[])).run P Γ.w = .ok (.pointer (some ⟨Γ.w.heap.size, 0, none⟩)) (Γ.w.alloc (.cells z.cells t (0, 0))) := by
      unfold Instr.alloc;simp only [Sem.run_bind, hz, Result.andThen_ok]
      rfl
     rw [Sem.run_bind, this]
     rfl
    ·rw [<- h, hdd]
     exact R.newLocal (hd d hdd) hc t
    ·rw [<- h]
    ·rw [<- h]
   ·cases h
  case box t x =>
   obtain ⟨d, hdd, hesc⟩ := hl;unfold aE at h;rw [ho, hdd] at h;dsimp only at h
   split at h
   ·rename_i d' ys hd' hx
    injection hd' with hd'; subst hd';rw [if_neg hesc] at h;injection h with h;obtain ⟨v, hv, hc⟩ := Option.bind_eq_some_iff.1 hx;have hc : fT Γ ys (a.eval x).cells := eU (R.val hv) hc;refine gP (w' := Γ.w.alloc (.cells (a.eval x).cells t (0, 0))) (v := .pointer (some ⟨Γ.w.heap.size, 0, none⟩)) (fun c e => by rw [ho] at e; cases e) (.inl ?_) (hn _ _ ⟨_, fun x => if x = d then Γ.w.heap.size else β x, rfl, ?_, dm.of (cA.alloc s.lo Γ _), bO _ _ _, ?_, ?_⟩)
    ·unfold execOp
     rw [ho]
     rfl
    ·rw [<- h, hdd]
     exact R.newLocal (hd d hdd) hc t
    ·rw [<- h]
    ·rw [<- h]
   ·cases h
  case store t x y =>
   obtain ⟨d, off, hsl⟩ := hl;unfold aE at h;rw [ho] at h;dsimp only at h;rw [hsl] at h
   split at h
   ·rename_i ti d' off' ys ht hx hy
    injection hx with hx; injection hx with e1 e2; subst e1 e2
    split at h
    ·rename_i xs hloc
     split at h
     ·rename_i hc
      injection h with h;obtain ⟨c1, c2⟩ := hc;obtain ⟨arr, T, g1, g2, g3, g4, g5⟩ := R.loc d xs hloc;obtain ⟨yv, hyv, hyc⟩ := Option.bind_eq_some_iff.1 hy;have hr := R.val hyv;have hfit : off + ys.length <= xs.length := by omega
      obtain ⟨q1, q2, q3⟩ := eU hr hyc;have hst := kR (w := Γ.w) (off := off) (H.tab _ _ ht) g1 hr hyc c1 (by omega);have hsz : (arr.toList.take off ++ (a.eval y).cells.toList ++ arr.toList.drop (off + ys.length)).toArray.size = arr.size := by
       simp [q1]; omega
      obtain ⟨hR, hW⟩ := R.setLocal (lo := s.lo) (zs := bb xs off ys) hloc g1 hsz (dI _ _ _ hfit) (fun z hz => by
       rcases jZ hz with hz | hz
       ·exact g3 z hz
       ·exact q2 z hz) (mn hr hyc hfit (by omega) g4)
      refine gP (v := undef) (fun c e => by rw [ho] at e; cases e) (.inr ⟨?_, rfl⟩) (hn _ _ ⟨_, β, rfl, ?_, hW, bO _ _ _, ?_, ?_⟩)
      ·unfold execOp
       rw [ho];dsimp only;have hp : a.eval x = .pointer (some ⟨β d, off, none⟩) := R.slot hsl;have : (Instr.storeAt t (a.eval x) (a.eval y)) = storeVar t ⟨β d, off, none⟩ (a.eval y) := by
        rw [hp];unfold Instr.storeAt Instr.sureAddr;rw [pure_bind]
       rw [this, Sem.run_bind, hst]
       rfl
      ·rw [<- h]
       exact hR.put o.dst hd (x := .v (.tup [])) (aD.tup rfl (by simp))
      ·rw [<- h]; exact (gF _ _ _).1
      ·rw [<- h]; exact (gF _ _ _).2.1
     ·cases h
    ·cases h
   ·rename_i hx _; cases hx
   ·cases h
 ·exact tG H R hl h fun v w' hp => hn _ _ (hp.op R hd)
variable {P : Program} {C : dO} {Γ : aX} {base n0 f : Nat} {β : Nat -> Nat} {s s' : St} {a : Act} {o : Oper} {K : Callee}
theorem bI.refl (R : aZ base n0 Γ β s a) : bI base n0 Γ s s a.tmps.size a Γ.w := ⟨Γ, β, rfl, R, dm.refl, rfl, rfl, rfl⟩
theorem bI.then {s1 s2 : St} {n : Nat} {a1 a2 : Act} {w2 : World} {Γ1 : aX} (h : dm s.lo n0 Γ Γ1) (hlo : s1.lo = s.lo) (hin : s1.inRound = s.inRound) (k : bI base n0 Γ1 s1 s2 n a2 w2) : bI base n0 Γ s s2 n a2 w2 := by
 obtain ⟨Γ2, β2, e1, R2, g, e2, e3, e4⟩ := k;exact ⟨Γ2, β2, e1, R2, h.trans (hlo ▸ g) (Nat.le_refl _), e2, e3.trans hlo, e4.trans hin⟩
theorem dx {ops : Array Oper} (R : aZ base n0 Γ β s a) {b : Bool} (h : bG ops o s = some b) : Region.wanted o (yielded ops a.tmps) = b := by
 unfold bG at h;unfold Region.wanted
 split at h
 ·rename_i hg
  rw [hg];injection h
 ·rename_i j want hg
  rw [hg];dsimp only
  split at h
  ·rename_i d hd
   unfold yielded;rw [hd];simp only [Option.bind_some]
   split at h
   ·rename_i v hv
    injection h with h; subst h;obtain ⟨h1, h2⟩ := R.env d _ hv;have e : a.tmps[d]? = some (.bool v) := by
     have : a.tmps.getD d undef = .bool v := by
      simp only [jc] at h2;cases hh : a.tmps.getD d undef <;> rw [hh] at h2 <;> cases h2; rfl
     rw [<- this];simp [Array.getD_eq_getD_getElem?, h1]
    rw [e];cases v <;> cases want <;> rfl
   ·rename_i hv
    injection h with h; subst h;obtain ⟨h1, h2⟩ := R.env d _ hv;have e : ∃ vs, a.tmps[d]? = some (.tuple vs) := by
     have : ∃ vs, a.tmps.getD d undef = .tuple vs := by
      simp only [jc] at h2;cases hh : a.tmps.getD d undef <;> rw [hh] at h2 <;> cases h2;exact ⟨_, rfl⟩
     obtain ⟨vs, this⟩ := this;refine ⟨vs, ?_⟩;rw [<- this];simp [Array.getD_eq_getD_getElem?, h1]
    obtain ⟨vs, e⟩ := e;rw [e]
    rfl
   ·cases h
  ·cases h
theorem dh {n : Nat} {ops : Array Oper} (h : dU n ops = true) {i : Nat} {o : Oper} (ho : ops[i]? = some o) : ∀ t, o.dst = some t -> t < n := fun t ht => by
 have := List.all_eq_true.1 h o (List.mem_of_getElem? (by rw [Array.getElem?_toList]; exact ho));rw [ht] at this;simpa using this
theorem kW (H : qb P C K) {ro : Option Nat} {ops : Array Oper} {n : Nat} (hops : dU n ops = true) {Q : Exit -> Act -> World -> Prop} : ∀ (l : List Oper) (k : Nat) (Γ : aX) (β : Nat -> Nat) (s : St) (a : Act), ops.toList.drop k = l -> aZ base n0 Γ β s a -> a.tmps.size = n -> dv C K f ops l s = some s' ->
  (∀ a' w', bI base n0 Γ s s' n a' w' -> Q .normal a' w') -> wpOpsIn (Fw ro) 0 P ops Q (List.range' k l.length) a Γ.w
 | [], k, Γ, β, s, a, _, R, hn, h, hq => by
  injection h with h; subst h;exact hq _ _ (hn ▸ bI.refl R)
 | o :: l, k, Γ, β, s, a, hl, R, hn, h, hq => by
  have ho : ops[k]? = some o := by
   rw [<- Array.getElem?_toList];have := congrArg (·[0]?) hl;simpa using this
  have hl' : ops.toList.drop (k + 1) = l := by
   rw [<- List.drop_drop, hl]; rfl
  simp only [List.length_cons, List.range'_succ, wpOpsIn, ho];simp only [dv] at h
  split at h
  ·rename_i hg
   rw [dx R hg];simp only [if_true]
   split at h
   ·rename_i s1 h1
    refine fW H R (fun t ht => by rw [hn]; exact dh hops ho t ht) h1 fun a1 w1 hp => ?_
    obtain ⟨Γ1, β1, e1, R1, g, e2, e3, e4⟩ := hp;subst e1;exact kW H hops l (k + 1) Γ1 β1 s1 a1 hl' R1 (e2.trans hn) h fun a' w' hp' => hq a' w' (bI.then g e3 e4 (s1 := s1) (a1 := a1) hp')
   ·cases h
  ·rename_i hg
   rw [dx R hg];simp only [Bool.false_eq_true, if_false];refine ⟨fun _ _ => trivial, ?_⟩
   have R1 := R.put o.dst (fun t ht => by rw [hn]; exact dh hops ho t ht) (x := .v (.tup [])) (v := undef) (aD.tup rfl (by simp));exact kW H hops l (k + 1) Γ β _ _ hl' R1 ((bO _ _ _).trans hn) h fun a' w' hp' => hq a' w' (bI.then dm.refl (gF _ _ _).1 (gF _ _ _).2.1 (a1 := a) hp')
  ·cases h
variable {P : Program} {C : dO} {Γ : aX} {base n0 f : Nat} {β : Nat -> Nat} {s s' : St} {a : Act} {o : Oper} {K : Callee}
def Ex.out : Ex -> Exit
 | .normal => .normal
 | .exit id => .exit id
 | .ret => .ret
theorem ib {α : Type} (env : List (Nat × α)) : ∀ (l : List Nat) (t : Nat) (x : α), look (l.filterMap fun t => (look env t).map fun x => (t, x)) t = some x -> look env t = some x
 | [], t, x, h => by cases h
 | k :: l, t, x, h => by
  cases hk : look env k with
  | none =>
   simp only [List.filterMap_cons, hk, Option.map_none] at h;exact ib env l t x h
  | some y =>
   simp only [List.filterMap_cons, hk, Option.map_some, bE] at h
   split at h
   ·rename_i e
    subst e;rw [hk]; exact h
   ·exact ib env l t x h
theorem aZ.keep (R : aZ base n0 Γ β s a) (l : List Nat) : aZ base n0 Γ β (keep s l) a :=
 {R with
  env := fun t x hx => R.env t x (ib _ _ _ _ hx)
  loc := fun d xs hx => R.loc d xs (ib _ _ _ _ hx)
  linj := fun d d' xs xs' h h' e => R.linj d d' xs xs' (ib _ _ _ _ h) (ib _ _ _ _ h') e }
theorem Ao {K : Act -> World -> Prop} {Q : Exit -> Act -> World -> Prop} {e : Exit} (h : e ≠ .normal) (a : Act) (w : World) : Exit.then K Q e a w = Q e a w := by
 cases e <;> first | exact absurd rfl h | rfl
section
variable (H : qb P C K) {n fuel : Nat} {ro : Option Nat}
def kc (P : Program) (C : dO) (K : Callee) : Prop := ∀ (base n0 f n id : Nat) (ro : Option Nat) (ops : Array Oper), dU n ops = true -> cI ops = true -> ∀ (Γ : aX) (β : Nat -> Nat) (s s' : St) (a : Act) (Q : Exit -> Act -> World -> Prop), aZ base n0 Γ β s a -> a.tmps.size = n -> s.inRound = ro.isSome ->
 yz C K f id ops s = some s' -> (∀ a' w', bI base n0 Γ s s' n a' w' -> Q .normal a' w') -> (Code.region id ops true).wpIn (Fw ro) 0 P Q a Γ.w
def nf (P : Program) (C : dO) (K : Callee) : Prop := ∀ (base n0 f n fuel : Nat) (g : Operand) (ps : Array Tmp) (assign body : Code), da n (.rangeFunc g ps assign body) = true -> ∀ (Γ : aX) (β : Nat -> Nat) (s s' : St) (e : Ex) (a : Act) (Q : Exit -> Act -> World -> Prop), aZ base n0 Γ β s a -> a.tmps.size = n ->
 cf C K f fuel (.rangeFunc g ps assign body) s = some (e, s') -> (∀ a' w', bI base n0 Γ s s' n a' w' -> Q e.out a' w') -> (Code.rangeFunc g ps assign body).wpIn (Fw none) 0 P Q a Γ.w
theorem kd (H : qb P C K) (hD : kc P C K) (hF : nf P C K) {n fuel : Nat} {ro : Option Nat} : ∀ (c : Code), da n c = true -> ∀ (Γ : aX) (β : Nat -> Nat) (s s' : St) (e : Ex) (a : Act) (Q : Exit -> Act -> World -> Prop), aZ base n0 Γ β s a -> a.tmps.size = n -> s.inRound = ro.isSome ->
  cf C K f fuel c s = some (e, s') -> (∀ a' w', bI base n0 Γ s s' n a' w' -> Q e.out a' w') -> c.wpIn (Fw ro) 0 P Q a Γ.w := by
 intro c
 induction c with
 | skip =>
  intro _ Γ β s s' e a Q R hn _ h hq;simp only [cf, Option.some.injEq, Prod.mk.injEq] at h;obtain ⟨rfl, rfl⟩ := h;exact wpIn_skip (hq _ _ (hn ▸ bI.refl R))
 | region id ops draw =>
  intro hok Γ β s s' e a Q R hn hin h hq;simp only [da, Bool.and_eq_true] at hok;simp only [cf, Option.map_eq_some_iff, Prod.mk.injEq] at h;obtain ⟨s1, h, rfl, rfl⟩ := h;obtain ⟨Γ1, e1, R1, x1, l1, r1⟩ := kU (C.fr f id) R;have hq' : ∀ a' w', bI base n0 Γ1 (b7 (C.fr f id) s) s1 n a' w' -> Q .normal a' w' := fun a' w' hp => by
   obtain ⟨Γ2, β2, p1, p2, p3, p4, p5, p6⟩ := hp;exact hq a' w' ⟨Γ2, β2, p1, p2, (dm.of x1).trans p3 (by rw [l1]; exact Nat.le_refl _), p4, p5.trans l1, p6.trans r1⟩
  rw [<- e1];cases draw with
  | false =>
   refine wpIn_region ?_;have := kW (ro := ro) H hok.1 (Q := Q) ops.toList 0 Γ1 β (b7 (C.fr f id) s) a rfl R1 hn h hq';rw [Array.length_toList, <- List.range_eq_range'] at this;exact this
  | true => exact hD base n0 f n id ro ops hok.1 (by simpa using hok.2) Γ1 β (b7 (C.fr f id) s) s1 a Q R1 hn (r1.trans hin) h hq'
 | seq x y ihx ihy =>
  intro hok Γ β s s' e a Q R hn hin h hq;simp only [da, Bool.and_eq_true] at hok;simp only [cf] at h;refine wpIn_seq ?_
  split at h
  ·rename_i s1 h1
   refine ihx hok.1 Γ β s s1 .normal a _ R hn hin h1 fun a1 w1 hp => ?_
   obtain ⟨Γ1, β1, e1, R1, g, e2, e3, e4⟩ := hp;subst e1;exact ihy hok.2 Γ1 β1 s1 s' e a1 Q R1 e2 (e4.trans hin) h fun a' w' hp' => hq a' w' (bI.then (a1 := a1) g e3 e4 hp')
  ·rename_i hne
   have hen : e.out ≠ .normal := by
    intro he;cases e with
    | normal => exact hne _ h
    | exit id => cases he
    | ret => cases he
   exact ihx hok.1 Γ β s s' e a _ R hn hin h fun a' w' hp => by rw [Ao hen]; exact hq a' w' hp
 | cond c x y ihx ihy =>
  intro hok Γ β s s' e a Q R hn hin h hq;simp only [da, Bool.and_eq_true] at hok;simp only [cf] at h
  split at h
  ·rename_i hc
   exact wpIn_cond_true (wm R hc) (ihx hok.1 Γ β s s' e a Q R hn hin h hq)
  ·rename_i hc
   exact wpIn_cond_false (wm R hc) (ihy hok.2 Γ β s s' e a Q R hn hin h hq)
  ·cases h
 | block id b ih =>
  intro hok Γ β s s' e a Q R hn hin h hq;simp only [da] at hok;simp only [cf] at h;refine wpIn_block ?_
  split at h
  ·rename_i i s1 h1
   split at h
   ·rename_i he
    have he : i = id := by simpa using he
    subst he;injection h with h; injection h with q1 q2; subst q1 q2;exact ih hok Γ β s s1 (.exit i) a _ R hn hin h1 fun a' w' hp => by
     show Exit.inBlock i Q (.exit i) a' w';simp only [Exit.inBlock, if_true];exact hq a' w' hp
   ·rename_i he
    have he : ¬ i = id := by simpa using he
    injection h with h; injection h with q1 q2; subst q1 q2;exact ih hok Γ β s s1 (.exit i) a _ R hn hin h1 fun a' w' hp => by
     show Exit.inBlock id Q (.exit i) a' w';simp only [Exit.inBlock, if_neg he];exact hq a' w' hp
  ·rename_i hne
   exact ih hok Γ β s s' e a _ R hn hin h fun a' w' hp => by
    cases e with
    | normal => exact hq a' w' hp
    | ret => exact hq a' w' hp
    | exit i => exact absurd h (hne _ _)
 | loop b ih =>
  intro hok Γ β s s' e a Q R hn hin h hq;simp only [da] at hok;simp only [cf] at h;refine wpIn_loop_rounds fuel ?_;have key : ∀ (m : Nat) (Γ : aX) (β : Nat -> Nat) (s : St) (a : Act), aZ base n0 Γ β s a -> a.tmps.size = n -> s.inRound = ro.isSome -> fo (cf C K f fuel b) (C.live f (bJ b)) m s = some (e, s') ->
    (∀ a' w', bI base n0 Γ s s' n a' w' -> Q e.out a' w') -> Code.roundsIn (Fw ro) 0 P b Q m a Γ.w := by
   intro m
   induction m with
   | zero => intro Γ β s a _ _ _ h _; cases h
   | succ m ihm =>
    intro Γ β s a R hn hin h hq;simp only [fo] at h;rw [roundsIn_succ];have hk : ∃ s1, aZ base n0 Γ β s1 a /\ s1.inRound = s.inRound /\ s1.lo = s.lo /\ mW (C.live f (bJ b)) s = s1 := by
     unfold mW;cases C.live f (bJ b) with
     | none => exact ⟨s, R, rfl, rfl, rfl⟩
     | some l => exact ⟨_, R.keep l, rfl, rfl, rfl⟩
    obtain ⟨s1, R1, i1, i2, i3⟩ := hk;rw [i3] at h
    split at h
    ·rename_i s2 h1
     refine ih hok Γ β s1 s2 .normal a _ R1 hn (i1.trans hin) h1 fun a1 w1 hp => ?_
     obtain ⟨Γ1, β1, e1, R2, g, e2, e3, e4⟩ := hp;subst e1;exact ihm Γ1 β1 s2 a1 R2 e2 (e4.trans (i1.trans hin)) h fun a' w' hp' => hq a' w' (bI.then (a1 := a1) (i2 ▸ g) (e3.trans i2) (e4.trans i1) hp')
    ·rename_i hne
     have hen : e.out ≠ .normal := by
      intro he;cases e with
      | normal => exact hne _ h
      | exit id => cases he
      | ret => cases he
     exact ih hok Γ β s1 s' e a _ R1 hn (i1.trans hin) h fun a' w' hp => by
      rw [Ao hen];obtain ⟨Γ1, β1, e1, R2, g, e2, e3, e4⟩ := hp;exact hq a' w' ⟨Γ1, β1, e1, R2, i2 ▸ g, e2, e3.trans i2, e4.trans i1⟩
  exact key fuel Γ β s a R hn hin h hq
 | rangeFunc g ps assign body iha ihb =>
  intro hok Γ β s s' e a Q R hn hin h hq;cases ro with
  | some l =>
   simp only [cf, hin] at h
   split at h
   ·rename_i hh; cases hh
   ·cases h
  | none => exact hF base n0 f n fuel g ps assign body hok Γ β s s' e a Q R hn h hq
 | exit id =>
  intro _ Γ β s s' e a Q R hn _ h hq;simp only [cf, Option.some.injEq, Prod.mk.injEq] at h;obtain ⟨rfl, rfl⟩ := h;exact wpIn_exit (hq _ _ (hn ▸ bI.refl R))
 | ret =>
  intro _ Γ β s s' e a Q R hn _ h hq;simp only [cf, Option.some.injEq, Prod.mk.injEq] at h;obtain ⟨rfl, rfl⟩ := h;exact wpIn_ret (hq _ _ (hn ▸ bI.refl R))
 | label l =>
  intro _ Γ β s s' e a Q R hn _ h hq;simp only [cf, Option.some.injEq, Prod.mk.injEq] at h;obtain ⟨rfl, rfl⟩ := h;exact wpIn_label (hq _ _ (hn ▸ bI.refl R))
 | _ => intro _ Γ β s s' e a Q R hn _ h hq; simp only [cf] at h; cases h
end
variable {P : Program} {C : dO} {Γ : aX} {base n0 f : Nat} {β : Nat -> Nat} {s s' : St} {a : Act} {o : Oper} {K : Callee}
theorem cA.kill (I : dM base Γ) {lo : Nat} {id b : Nat} {ob : Obj} {r : fL} {l : Loop} (hlo : lo <= id) (hρ : Γ.ρ id = some b) (ha : Γ.w.heap[b]? = some (.loop l)) :
  cA lo (fun _ => False) Γ (Γ.upd id b .dead ob) where
 len := by simp [aX.upd]
 cells id' T' ys _ hy := by
  rcases dz hy with ⟨rfl, e⟩ | ⟨_, e⟩
  ·cases e
  ·exact ⟨ys, e, .inr ⟨rfl, rfl⟩⟩
 map id' es2 _ hy := by
  rcases dz hy with ⟨rfl, e⟩ | ⟨_, e⟩
  ·cases e
  ·exact ⟨es2, e, rfl⟩
 loop id' r2 _ hy := by
  rcases dz hy with ⟨rfl, e⟩ | ⟨_, e⟩
  ·cases e
  ·exact ⟨r2, e, rfl⟩
 absent _ _ h := h
 barrier id' hl hid := ⟨List.getElem?_set_ne (by omega), rfl, fun b' hb' _ => aG fun e => by
  have := I.inj id id' b hρ (by rw [e]; exact hb');omega⟩
 sizes b' a T' fr h := by
  by_cases e : b = b'
  ·subst e; rw [ha] at h; cases h
  ·exact ⟨a, fr, (aG e).trans h, rfl⟩
 keep b' hb hn _ := aG (fun e => hn id (e ▸ hρ))
 fresh id' b' h := .inl ⟨id', h⟩
 stab _ h := h
 stabN _ h := .inl h
 size := by simp [aX.upd]
 os := rfl
 tape := rfl
 output := rfl
theorem tH : ∀ (l m : List Nat), l.map (fun r => ({ target := .collected r, args := #[] } : Deferred)) = m.map (fun r => ({ target := .collected r, args := #[] } : Deferred)) -> l = m
 | [], [], _ => rfl
 | [], _ :: _, h => by cases h
 | _ :: _, [], h => by cases h
 | x :: l, y :: m, h => by
  simp only [List.map_cons, List.cons.injEq] at h;obtain ⟨h1, h2⟩ := h;injection h1 with h1 _;injection h1 with h1;rw [h1, tH l m h2]
theorem gQ (g : co -> co) (t : Nat) : ∀ l : List (Nat × co), look (l.map fun x => (x.1, g x.2)) t = (look l t).map g
 | [] => rfl
 | (k, x) :: l => by
  simp only [List.map_cons, bE]
  split
  ·rfl
  ·exact gQ g t l
theorem gR (
           H : qb P C K) : nf P C K := by
 intro base n0 f n fuel g ps assign body hok Γ β s s' e a Q R hn h hq;simp only [da, Bool.and_eq_true] at hok;simp only [cf] at h
 split at h
 ·rename_i fid caps hg hin
  split at h
  ·rename_i hlo
   split at h
   ·rename_i rv heap' hk
    refine wpIn_rangeFunc fun fnn _ => ?_
    let Γ0 : aX := { Γ with w := Γ.w.alloc (.deferred (some [])) }
    let rec_ : fL := { fn := f, env := s.env.map fun x => (x.1, match x.2 with | .v a => co.v a | _ => co.junk), params := ps.toList, assign, body, st := 0, pending := none }
    let lp : Loop := { state := .ready, pending := none, fn := fnn, tmps := a.tmps, params := ps, assign, body, defers := Γ.w.heap.size }
    have hx0 : cA s.lo (fun _ => False) Γ Γ0 := cA.alloc s.lo Γ _;have hI0 : dM base Γ0 := R.inv.alloc _;have hB : ∀ b, Γ.S b -> ¬ (fun _ : Nat => False) b := fun _ _ h => h
    have henv : ∀ t (av : AV), look rec_.env t = some (.v av) -> look s.env t = some (.v av) := fun t av h => by
     have h1 := gQ (fun x => match x with | .v a => co.v a | _ => co.junk) t s.env;rw [h1] at h;cases hh : look s.env t with
     | none => rw [hh] at h; cases h
     | some x =>
      rw [hh] at h;cases x with
      | v a => exact h
      | p d off => cases h
      | junk => cases h
    have hL : Bg Γ0 rec_ lp :=
     {params := rfl, assign := rfl, body := rfl, pending := rfl, st0 := fun _ => rfl, st1 := fun _ h => by cases h
      env := fun t av hav => by
       obtain ⟨h1, h2⟩ := R.env t _ (henv t av hav);exact ⟨h1, aD.ext hx0 R.inv hB h2⟩
      nop := fun t d o hh => by
       have h1 := gQ (fun x => match x with | .v a => co.v a | _ => co.junk) t s.env;rw [h1] at hh;cases hz : look s.env t with
       | none => rw [hz] at hh; cases hh
       | some x => rw [hz] at hh; cases x <;> cases hh
      lt := fun t x hh => by
       have h1 := gQ (fun x => match x with | .v a => co.v a | _ => co.junk) t s.env;rw [h1] at hh;cases hz : look s.env t with
       | none => rw [hz] at hh; cases hh
       | some x => exact (R.env t x hz).1
      ok := ⟨by rw [hn]; exact hok.1.2, by rw [hn]; exact hok.2, fun t ht => by
       have := hok.1.1;rw [<- Array.all_toList, List.all_eq_true] at this;rw [hn];simpa using this t ht⟩ }
    have hbase0 : base <= Γ0.w.heap.size := by
     show base <= (Γ.w.alloc _).heap.size;rw [jX]; have := R.sz; omega
    have hx1 : cA s.lo (fun _ => False) Γ0 (Γ0.push (.loop rec_) (.loop lp)) := cA.push _ _ _;have hI1 : dM base (Γ0.push (.loop rec_) (.loop lp)) := hI0.push ⟨lp, rfl, hL⟩ hbase0;have hfn := R.val hg;obtain ⟨us, hu1, hu2, hu3⟩ : ∃ us, a.eval g = .func (.func fid) #[] us /\ us.size = caps.length /\ ∀ i x, caps[i]? = some x -> aD Γ x (us.getD i undef) := by
     generalize a.eval g = u at hfn;cases hfn with
     | fn h1 h2 => exact ⟨_, rfl, h1, h2⟩
    have hsz0 : Γ0.w.heap.size = Γ.w.heap.size + 1 := jX _ _;have hlen0 : Γ0.H.length = s.heap.length := by show Γ.H.length = _; rw [R.heap]
    have hyv : aD (Γ0.push (.loop rec_) (.loop lp)) (.fn (.yield s.heap.length) []) (.func (.yield (Γ.w.heap.size + 1)) #[] #[]) := by
     rw [<- hlen0];refine .yield (by simp [aX.push]) ⟨_, rfl⟩ fun r _ => ⟨_, fU.2, by rw [hsz0]⟩
    have hargs : bH (Γ0.push (.loop rec_) (.loop lp)) ([.fn (.yield s.heap.length) []] ++ caps) (#[Value.func (.yield (Γ.w.heap.size + 1)) #[] #[]] ++ us).toList := by
     rw [Array.toList_append];refine bH.append (.cons hyv .nil) ?_;have : bH Γ caps us.toList := bH.of_array (by simpa using hu2) fun i x hx => by
      have := hu3 i x hx;rw [Array.getD_eq_getD_getElem?] at this;rw [List.getD_eq_getElem?_getD, Array.getElem?_toList];exact this
     exact (this.ext hx0 R.inv hB).ext hx1 hI0 (fun _ _ h => h)
    have hH1 : (Γ0.push (.loop rec_) (.loop lp)).H = s.heap ++ [.loop rec_] := by
     show Γ.H ++ _ = _;rw [R.heap]
    obtain ⟨⟨fn, q1, q2, q3⟩, hcalls⟩ := H.sound s.lo (.func fid) _ _ rv heap' hk base _ hI1 (Nat.le_trans hbase0 hx1.size) hH1 _ hargs;refine ⟨Γ.w.heap.size + 1, [{ target := .collected Γ.w.heap.size, args := #[] }], (Γ0.push (.loop rec_) (.loop lp)).w, { target := .fn (.func fid) us, args := #[Value.func (.yield (Γ.w.heap.size + 1)) #[] #[]] }, (Γ0.push (.loop rec_) (.loop lp)).w, fid, _, _, ?_, ?_, fun _ _ => trivial, ?_, fun h => (by cases h), CallsIn.mono hcalls fun en w3 he => ?_⟩
    ·show (Instr.enterLoop fnn a.tmps ps assign body none).run P Γ.w = _
     unfold Instr.enterLoop;simp only [Sem.run_bind, run_newObj, Result.andThen_ok, Sem.run_pure];simp [aX.push, Γ0, lp, -World.alloc_eq, World.alloc]
    ·unfold resolve
     simp only [rangeCall, hu1, Deferred.ofValue];simp [Act.eval]
    ·unfold invoke
     exact kV q1 q2 q3 _ _
    ·cases en with
     | panicked c => exact he.elim
     | outgrown => exact he.elim
     | returned v =>
      obtain ⟨Γ2, e1, e2, hx2, hI2, hrv⟩ := he;subst e1;have hxA := (hx0.trans hx1 (Nat.le_refl _) (fun _ _ _ h => h.elim)).trans hx2 (Nat.le_refl _) (fun _ _ _ h => h.elim);rw [<- e2] at h
      split at h
      ·rename_i r' hr'
       split at h
       ·cases h
       ·rename_i hst
        obtain ⟨r0, hr0, hρ⟩ := hx2.loop s.heap.length r' (by rw [hH1]; simp) hr';have hρ2 : Γ2.ρ s.heap.length = some (Γ.w.heap.size + 1) := by
         rw [hρ, <- hlen0, fU.2, hsz0]
        obtain ⟨lp2, hl2, hL2⟩ := hI2.loop _ _ r' hρ2 hr';have hst2 : (lp2.state == .busy) = false := by
         have := hL2.st1 hst;simpa using this
        have hx3 : cA s.lo (fun _ => False) Γ2 (Γ2.upd s.heap.length (Γ.w.heap.size + 1) .dead (.loop { lp2 with state := .exhausted })) := cA.kill hI2 (r := r') hlo hρ2 hl2;have hI3 := hI2.upd hρ2 hx3 (o := .dead) trivial;have hxB := hxA.trans hx3 (Nat.le_refl _) (fun _ _ _ h => h.elim);have hend : (Instr.endLoop (Γ.w.heap.size + 1)).run P Γ2.w = .ok r'.pending (Γ2.upd s.heap.length (Γ.w.heap.size + 1) .dead (.loop { lp2 with state := .exhausted })).w := by
         rw [<- hL2.pending];unfold Instr.endLoop Instr.getLoop;have hgt : (getObj (Γ.w.heap.size + 1)).run P Γ2.w = .ok (.loop lp2) Γ2.w := by
          simp only [getObj, Sem.run, hl2]
         have hst' : (setObj (Γ.w.heap.size + 1) (.loop { lp2 with state := .exhausted })).run P Γ2.w = .ok () { Γ2.w with heap := Γ2.w.heap.setIfInBounds (Γ.w.heap.size + 1) (.loop { lp2 with state := .exhausted }) } := by
          simp only [setObj, Sem.run, hl2]
         simp only [Sem.run_bind, hgt, Result.andThen_ok, Sem.run_pure, hst2, Bool.false_eq_true, if_false, hst']
         rfl
        have hR3 := R.ext hxB hI3;have hmark : aZ base n0 (Γ2.upd s.heap.length (Γ.w.heap.size + 1) .dead (.loop { lp2 with state := .exhausted })) β { s with heap := (Γ2.upd s.heap.length (Γ.w.heap.size + 1) .dead (.loop { lp2 with state := .exhausted })).H }
          {a with defers := [{ target := .collected Γ.w.heap.size, args := #[] }] ++ a.defers } := by
         refine { hR3 with marks := ?_ };obtain ⟨rs, m1, m2, m3⟩ := hR3.marks;have hnot1 : ∀ id, (Γ0.push (.loop rec_) (.loop lp)).ρ id ≠ some Γ.w.heap.size := fun id he => by
          simp only [aX.push] at he
          split at he
          ·injection he with he; omega
          ·have := (R.inv.dom id _ he).2.1; omega
         have hlt1 : Γ.w.heap.size < (Γ0.push (.loop rec_) (.loop lp)).w.heap.size := by
          have := hx1.size; omega
         have hb1 : (Γ0.push (.loop rec_) (.loop lp)).w.heap[Γ.w.heap.size]? = some (.deferred (some [])) := by
          have h1 : Γ0.w.heap[Γ.w.heap.size]? = some (.deferred (some [])) := cB _ _;exact (bD (by omega)).trans h1
         have hx23 := hx2.trans hx3 (Nat.le_refl _) (fun _ _ _ h => h.elim);refine ⟨Γ.w.heap.size :: rs, by rw [m1]; rfl, List.nodup_cons.2 ⟨fun hm => ?_, m2⟩, fun r hr => ?_⟩
         ·obtain ⟨rs0, k1, k2, k3⟩ := R.marks
          have : rs = rs0 := by
           have h1 := m1.symm.trans k1;exact tH _ _ h1
          subst this;have := dq (k3 _ hm).1;omega
         ·rcases List.mem_cons.1 hr with rfl | hr
          ·refine ⟨(hx23.keep _ hlt1 hnot1 (fun e => e)).trans hb1, fun id he => ?_, fun he => ?_, R.sz.2⟩
           ·rcases hx23.fresh id _ he with ⟨id0, e0⟩ | e0
            ·exact hnot1 id0 e0
            ·omega
           ·rcases hxB.stabN _ he with e | ⟨id, e⟩ | e
            ·exact absurd (R.inv.stab _ e) (by omega)
            ·have := (R.inv.dom id _ e).2.1; omega
            ·rcases hx23.stabN _ he with e | ⟨id, e⟩ | e
             ·exact absurd (R.inv.stab _ e) (by omega)
             ·exact hnot1 id e
             ·omega
          ·exact m3 r hr
        have hpost : ∀ (e : Ex) (s' : St), s' = { s with heap := Γ2.H.set s.heap.length .dead } -> (∀ a' w', bI base n0 Γ s s' n a' w' -> Q e.out a' w') -> Q e.out { a with defers := [{ target := .collected Γ.w.heap.size, args := #[] }] ++ a.defers } (Γ2.upd s.heap.length (Γ.w.heap.size + 1) .dead (.loop { lp2 with state := .exhausted })).w := by
         intro e s' hs' hq;subst hs';exact hq _ _ ⟨_, β, rfl, hmark, dm.of hxB, hn, rfl, rfl⟩
        refine ⟨r'.pending, _, hend, ?_⟩
        split at h
        ·rename_i hp
         injection h with h; injection h with h1 h2;subst h1;rw [hp];exact hpost .normal s' h2.symm hq
        ·rename_i hp
         injection h with h; injection h with h1 h2;subst h1;rw [hp];exact wpIn_ret (hpost .ret s' h2.symm hq)
        ·rename_i id hp
         injection h with h; injection h with h1 h2;subst h1;rw [hp];exact wpIn_exit (hpost (.exit id) s' h2.symm hq)
        ·cases h
      ·cases h
   ·cases h
  ·cases h
 ·cases h
variable {P : Program} {C : dO} {Γ : aX} {base n0 f : Nat} {β : Nat -> Nat} {s s' : St} {a : Act} {o : Oper} {K : Callee}
def HG (fn : Func) : Bool := match fn.body with
 | some b => fn.name != "runtime.NumGoroutine" && da fn.ntmps b
 | none => true
def kX (P : Program) : Bool := P.funcs.toList.all HG
theorem pz (h : kX P = true) {f : FuncId} {fn : Func} {b : Code} (hf : P.funcs[f]? = some fn) (hb : fn.body = some b) : fn.name ≠ "runtime.NumGoroutine" /\ da fn.ntmps b = true := by
 have := List.all_eq_true.1 h fn (List.mem_of_getElem? (by rw [Array.getElem?_toList]; exact hf));unfold HG at this;rw [hb] at this;simpa using this
theorem pA : ∀ (l : List AV) (n t : Nat) (x : co), look (jb n l) t = some x -> n <= t /\ ∃ a, l[t - n]? = some a /\ x = .v a
 | [], _, _, _, h => by cases h
 | a :: l, n, t, x, h => by
  simp only [jb, bE] at h
  split at h
  ·rename_i e; subst e
   injection h with h;exact ⟨Nat.le_refl _, a, by simp, h.symm⟩
  ·rename_i e
   obtain ⟨h1, b, h2, h3⟩ := pA l (n + 1) t x h;refine ⟨by omega, b, ?_, h3⟩
   rw [show t - n = (t - (n + 1)) + 1 by omega]
   simpa using h2
theorem aZ.start {Γ : aX} (I : dM base Γ) (hb : base <= Γ.w.heap.size) {vs : List AV} {args : Array Value} (hr : bH Γ vs args.toList) {ntmps lo : Nat} :
  aZ base Γ.w.heap.size Γ (fun _ => 0) { env := jb 0 vs, loc := [], heap := Γ.H, inRound := false, lo := lo } { tmps := args ++ Array.replicate (ntmps - args.size) undef, defers := [] } where
 inv := I
 sz := ⟨hb, Nat.le_refl _⟩
 heap := rfl
 env t x hx := by
  obtain ⟨_, av, h2, rfl⟩ := pA _ _ _ _ hx;obtain ⟨v, h3, h4⟩ := hr.get _ _ h2;rw [Nat.sub_zero] at h3;rw [Array.getElem?_toList] at h3;have hlt : t < args.size := by
   rcases Nat.lt_or_ge t args.size with h' | h'
   ·exact h'
   ·rw [Array.getElem?_eq_none h'] at h3; cases h3
  refine ⟨by simp; omega, ?_⟩
  have : (args ++ Array.replicate (ntmps - args.size) undef).getD t undef = v := by
   rw [Array.getD_eq_getD_getElem?, Array.getElem?_append_left hlt, h3]; rfl
  simp only [jc];rw [this]; exact h4
 loc d xs h := by cases h
 linj d d' xs xs' h := by cases h
 marks := ⟨[], rfl, List.nodup_nil, fun r hr => by cases hr⟩
theorem aZ.takeMark {lo : Nat} {r : Nat} {ds : List Deferred} (R : aZ base n0 Γ β s { a with defers := { target := .collected r, args := #[] } :: ds }) :
  (Instr.takeDeferred r).run P Γ.w = .ok [] { Γ.w with heap := Γ.w.heap.setIfInBounds r (.deferred none) } /\
  aZ base n0 { Γ with w := { Γ.w with heap := Γ.w.heap.setIfInBounds r (.deferred none) } } β s { a with defers := ds } /\ dm lo n0 Γ { Γ with w := { Γ.w with heap := Γ.w.heap.setIfInBounds r (.deferred none) } } := by
 obtain ⟨rs, m1, m2, m3⟩ := R.marks;cases rs with
 | nil => cases m1
 | cons r' rs =>
  simp only [List.map_cons, List.cons.injEq] at m1;obtain ⟨e1, e2⟩ := m1;injection e1 with e1 _;injection e1 with e1;subst e1;obtain ⟨h1, h2, h3, h4⟩ := m3 r (List.mem_cons_self ..);have hlt := dq h1;have hext : dm lo n0 Γ { Γ with w := { Γ.w with heap := Γ.w.heap.setIfInBounds r (.deferred none) } } :=
   {cA.refl lo (fun b => n0 <= b /\ ¬ Γ.S b) Γ with
    sizes := fun b ar T2 fr h => by
     by_cases e : r = b
     ·subst e; rw [h1] at h; cases h
     ·exact ⟨ar, fr, (aG e).trans h, rfl⟩
    keep := fun b hb hρ hnB => aG fun e => hnB (e ▸ ⟨h4, h3⟩)
    barrier := fun id _ _ => ⟨rfl, rfl, fun b hb _ => aG fun e => h2 id (by rw [e]; exact hb)⟩
    size := by simp }
  have hB : ∀ b, Γ.S b -> ¬ (n0 <= b /\ ¬ Γ.S b) := fun b hs h => h.2 hs
  refine ⟨?_, ⟨R.inv.same hext hB rfl rfl rfl (fun id b e => aG fun h => h2 id (h ▸ e)), ⟨R.sz.1, by simpa using R.sz.2⟩, R.heap, fun t x hx => ?_, fun d ys hy => ?_, R.linj, ⟨rs, e2, (List.nodup_cons.1 m2).2, fun q hq => ?_⟩⟩, hext⟩
  ·unfold Instr.takeDeferred
   have hg : (getObj r).run P Γ.w = .ok (.deferred (some [])) Γ.w := by
    simp only [getObj, Sem.run, h1]
   have hst : (setObj r (.deferred none)).run P Γ.w = .ok () { Γ.w with heap := Γ.w.heap.setIfInBounds r (.deferred none) } := by
    simp only [setObj, Sem.run, h1]
   simp only [Sem.run_bind, hg, Result.andThen_ok, hst, Sem.run_pure]
  ·obtain ⟨k1, k2⟩ := R.env t x hx
   refine ⟨k1, ?_⟩;cases x with
   | v av => exact aD.ext hext R.inv hB k2
   | junk => trivial
   | p e' off => exact k2
  ·obtain ⟨arr, T, k1, k2, k3, k4, k5⟩ := R.loc d ys hy
   exact ⟨arr, T, (aG fun e => by rw [<- e, h1] at k1; cases k1).trans k1, k2, k3, fun i x hx => (k4 i x hx).ext hext R.inv hB, k5⟩
  ·obtain ⟨k1, k2, k3, k4⟩ := m3 q (List.mem_cons_of_mem _ hq)
   exact ⟨(aG (fun (e : r = q) => (List.nodup_cons.1 m2).1 (by rw [e]; exact hq))).trans k1, k2, k3, k4⟩
theorem ke {lo : Nat} {fn : Func} {tmps : Array Value} {Rr : Ending -> World -> Prop} : ∀ (ds : List Deferred) (Γ : aX), aZ base n0 Γ β s { tmps := tmps, defers := ds } ->
  (∀ Γ', aZ base n0 Γ' β s { tmps := tmps, defers := [] } -> dm lo n0 Γ Γ' -> ∃ v, (results fn tmps).run P Γ'.w = .ok v Γ'.w /\ Rr (.returned v) Γ'.w) -> LeavesInM Fence.wide 0 P fn tmps Rr ds .returning Γ.w
 | [], Γ, R, h => h Γ R dm.refl
 | d :: ds, Γ, R, h => by
  have hd : ∃ r, d = { target := .collected r, args := #[] } := by
   obtain ⟨rs, m1, _⟩ := R.marks;cases rs with
   | nil => cases m1
   | cons r rs => simp only [List.map_cons, List.cons.injEq] at m1; exact ⟨r, m1.1⟩
  obtain ⟨r, rfl⟩ := hd;obtain ⟨h1, h2, h3⟩ := aZ.takeMark (P := P) (lo := lo) (a := { tmps := tmps, defers := [] }) R;refine ⟨by simp, .inl ⟨r, _, rfl, h1, ke ds _ h2 fun Γ' R' g => h Γ' R' (h3.trans g (Nat.le_refl _))⟩⟩
def yO (tmps : Array Value) : ResultVar -> Sem Value
 | .tmp t => pure (tmps.getD t undef)
 | .cell a t => do loadVar t (<- asAddr (tmps.getD a undef))
theorem qQ (hT : ck P C.tab) (R : aZ base n0 Γ β s a) {r : ResultVar} {x : AV} (h : ip C s r = some x) : ∃ v, (yO a.tmps r).run P Γ.w = .ok v Γ.w /\ aD Γ x v := by
 cases r with
 | tmp t =>
  simp only [ip] at h
  split at h
  ·rename_i av hl
   injection h with h; subst h;exact ⟨_, rfl, (R.env t _ hl).2⟩
  ·cases h
 | cell c t =>
  simp only [ip] at h
  split at h
  ·rename_i ti d off ht hl
   split at h
   ·rename_i xs hloc
    obtain ⟨g, h1, h2⟩ := R.locCells hloc;obtain ⟨v, hv, hrel⟩ := iq (hT t ti ht) _ g h1 h2 off h;rw [eV] at hv;have hp : a.tmps.getD c undef = .pointer (some ⟨β d, off, none⟩) := (R.env c _ hl).2;refine ⟨v, ?_, hrel⟩;unfold yO;dsimp only;rw [hp];simp only [asAddr, pure_bind];exact hv
   ·cases h
  ·rename_i ti id n off ht hl
   split at h
   ·rename_i T xs hH
    split at h
    ·rename_i hn
     have hH' : Γ.H[id]? = some (.cells T xs) := by rw [R.heap]; exact hH
     obtain ⟨b, hb, hp⟩ := uX (R.env c _ hl).2 hH' hn;obtain ⟨g, h1, h2⟩ := R.inv.objCells hb hH';obtain ⟨v, hv', hrel⟩ := iq (hT t ti ht) _ g h1 h2 off h;rw [eV] at hv';refine ⟨v, ?_, hrel⟩;unfold yO;dsimp only;rw [hp];simp only [asAddr, pure_bind];exact hv'
    ·cases h
   ·cases h
  ·cases h
theorem kF (hT : ck P C.tab) (R : aZ base n0 Γ β s a) : ∀ {l : List ResultVar} {xs : List AV}, cP C s l = some xs -> ∃ vs, (l.mapM (yO a.tmps)).run P Γ.w = .ok vs Γ.w /\ bH Γ xs vs
 | [], xs, h => by injection h with h; subst h; exact ⟨[], rfl, .nil⟩
 | r :: l, xs, h => by
  simp only [cP] at h
  split at h
  ·rename_i x hx
   split at h
   ·rename_i m hm
    injection h with h; subst h;obtain ⟨v, h1, h2⟩ := qQ hT R hx;obtain ⟨vs, h3, h4⟩ := kF hT R hm;refine ⟨v :: vs, ?_, .cons h2 h4⟩;rw [List.mapM_cons];simp only [Sem.run_bind, h1, Result.andThen_ok, h3, Sem.run_pure]
   ·cases h
  ·cases h
def u7 : List AV -> AV
 | [x] => x
 | l => .tup l
theorem pB {z : Option Nz} {cut : Bool} {H h : aj} {xs : List AV} {r : AV × aj} (hres : (match some xs with | some [a] => fk z cut H a h | some l => fk z cut H (.tup l) h | none => none) = some r) : fk z cut H (u7 xs) h = some r := by
 cases xs with
 | nil => exact hres
 | cons a l => cases l <;> exact hres
theorem qR {z : Option Nz} {cut : Bool} {H h h' : aj} {a r : AV} (hres : fk z cut H a h = some (r, h')) : ∃ b, ja cut H a h = some (b, h') /\ ∀ (Γ : aX) (v : Value), aD Γ b v -> aD Γ r v := by
 unfold fk at hres
 split at hres
 ·exact ⟨r, hres, fun _ _ hr => hr⟩
 ·rename_i z
  split at hres
  ·rename_i b h1 hb
   injection hres with hres;injection hres with e1 e2;subst e1 e2;exact ⟨b, hb, fun _ _ hr => Bl hr⟩
  ·cases hres
theorem lY (hT : ck P C.tab) (R : aZ base n0 Γ β s a) {fn : Func} {xs : List AV} (h : cP C s fn.results.toList = some xs) :
  ∃ v, (results fn a.tmps).run P Γ.w = .ok v Γ.w /\ aD Γ (u7 xs) v := by
 obtain ⟨vs, h1, h2⟩ := kF hT R h;have hm : (fn.results.mapM (yO a.tmps)).run P Γ.w = .ok vs.toArray Γ.w := by
  rw [Array.mapM_eq_mapM_toList];simp only [Sem.run_map, h1, Result.andThen_ok]
 have hrun : (results fn a.tmps).run P Γ.w = .ok (if h : vs.toArray.size = 1 then vs.toArray[0] else .tuple vs.toArray) Γ.w := by
  have e : results fn a.tmps = (do let vs <- fn.results.mapM (yO a.tmps); pure (if h : vs.size = 1 then vs[0] else .tuple vs)) := by
   unfold results yO
   rfl
  rw [e, Sem.run_bind, hm]
  rfl
 refine ⟨_, hrun, ?_⟩;have hl := h2.len;cases h2 with
 | nil => simp; exact .tup rfl (by simp)
 | cons hx ht =>
  rename_i x v l m;cases ht with
  | nil => simpa [u7] using hx
  | cons hy hz =>
   rename_i y u l m;have hne : ¬ (v :: u :: m).toArray.size = 1 := by simp
   rw [dif_neg hne];refine .tup (by simpa using hl) fun i z hi => ?_
   obtain ⟨q, q1, q2⟩ := (bH.cons hx (bH.cons hy hz)).get i z hi;have : (v :: u :: m).toArray.getD i undef = q := by
    rw [Array.getD_eq_getD_getElem?, List.getElem?_toArray, q1]; rfl
   rw [this]; exact q2
theorem dm.closed {lo : Nat} {Γ Γ' : aX} (h : dm lo Γ.w.heap.size Γ Γ') : cA lo (fun _ => False) Γ Γ' := h.weaken (Nat.le_refl _) fun b hb e => by
 have := e.1; omega
theorem lZ {Γ : aX} : ∀ (ps : List Nat) (xs : List AV) (vs : List Value) (env : List (Nat × co)) (tmps : Array Value), bH Γ xs vs -> ps.length = vs.length -> (∀ t, t ∈ ps -> t < tmps.size) ->
  (∀ (t : Nat) (x : co), look env t = some x -> t < tmps.size /\ jc Γ (fun _ => 0) x (tmps.getD t undef)) ->
  ((ps.zip vs).foldl (fun tmps (t, a) => tmps.setIfInBounds t a) tmps).size = tmps.size /\
  ∀ (t : Nat) (x : co), look (g9 env ps xs) t = some x -> t < tmps.size /\ jc Γ (fun _ => 0) x (((ps.zip vs).foldl (fun tmps (t, a) => tmps.setIfInBounds t a) tmps).getD t undef)
 | [], xs, vs, env, tmps, hr, hl, _, he => by
  cases hr with
  | nil => exact ⟨rfl, he⟩
  | cons _ _ => simp at hl
 | p :: ps, xs, vs, env, tmps, hr, hl, hp, he => by
  cases hr with
  | nil => simp at hl
  | cons hv ht =>
   rename_i x v l m;have hplt := hp p (List.mem_cons_self ..);simp only [List.zip_cons_cons, List.foldl_cons, g9];obtain ⟨h1, h2⟩ := lZ ps l m ((p, .v x) :: env) (tmps.setIfInBounds p v) ht (by simpa using hl) (fun t ht => by
    rw [Array.size_setIfInBounds]; exact hp t (List.mem_cons_of_mem _ ht)) (fun t y hy => by
    rw [Array.size_setIfInBounds];simp only [bE] at hy
    split at hy
    ·rename_i e; subst e
     injection hy with hy; subst hy;refine ⟨hplt, ?_⟩;have : (tmps.setIfInBounds p v).getD p undef = v := by simp [Array.getD_eq_getD_getElem?, hplt]
     rw [this]; exact hv
    ·rename_i e
     obtain ⟨k1, k2⟩ := he t y hy;refine ⟨k1, ?_⟩;have : (tmps.setIfInBounds p v).getD t undef = tmps.getD t undef := by simp [Array.getD_eq_getD_getElem?, e]
     rw [this]; exact k2)
   rw [Array.size_setIfInBounds] at h1;refine ⟨h1, fun t y hy => ?_⟩
   have := h2 t y hy;rw [Array.size_setIfInBounds] at this;exact this
theorem oC (ps : Array Nat) (args : Array Value) (tmps : Array Value) : (ps.zip args).foldl (fun tmps (t, a) => tmps.setIfInBounds t a) tmps = (ps.toList.zip args.toList).foldl (fun tmps (t, a) => tmps.setIfInBounds t a) tmps := by
 rw [<- Array.foldl_toList, Array.toList_zip]
theorem yP {Γ Γ' : aX} {a : AV} {v : Value} (hs : qx a = true) (h : aD Γ a v) : aD Γ' a v := by
 cases h <;> first | (cases hs; done) | constructor
def aX.shown (Γ : aX) : aX := { H := [], ρ := fun _ => none, S := fun b => Γ.S b \/ ∃ id, 0 <= id /\ Γ.ρ id = some b, w := Γ.w }
theorem aX.shown_inv (I : dM base Γ) : dM base Γ.shown :=
 {dom := fun _ _ h => (by cases h), inj := fun _ _ _ h => (by cases h), cells := fun _ _ _ _ h => (by cases h), map := fun _ _ _ h => (by cases h), loop := fun _ _ _ h => (by cases h),
  stab := fun b hb => by
   rcases hb with hb | ⟨id, _, hb⟩
   ·exact I.stab b hb
   ·exact (I.dom id b hb).2.1 }
theorem yQ {k : Nat} (ih : gD P (call P C k)) {lo : Nat} {fid : FuncId} {vs : List AV} {r : AV} {h' : aj} (h : uT C (call P C k) fid vs Γ.H = some (r, h')) (I : dM base Γ) (hb0 : base <= Γ.w.heap.size) {args : Array Value} (hargs : bH Γ vs args.toList) :
  (∃ fn, P.funcs[fid]? = some fn /\ fn.name ≠ "runtime.NumGoroutine" /\ fn.body.isSome = true) /\ CallsIn Fence.wide 0 P fid args Γ.w (dr base lo Γ r h') := by
 unfold uT at h
 split at h
 ·cases h
 split at h
 ·rename_i xs hxs
  split at h
  ·rename_i r1 h1 hc
   split at h
   ·rename_i hs
    injection h with h;injection h with e1 e2;subst e1 e2;have hxs' : mV Γ.H ({ Γ.shown with H := [] } : aX).H.length vs = some xs := hxs;obtain ⟨m1, m2⟩ := mt (Γ := { Γ.shown with H := [] }) I hxs';have hal := hargs.len;have hrel : bH Γ.shown xs args.toList := bH.of_array (by rw [m1]; exact hal) fun i y hy => by
     obtain ⟨x, hx, hf⟩ := m2 i y hy;obtain ⟨v, hv, hr⟩ := hargs.get i x hx;have := mr (Γ := { Γ.shown with H := [] }) I hf hr;rw [List.getD_eq_getElem?_getD, hv];exact this
    have := ih 0 (.func fid) xs [] r1 h1 hc base Γ.shown (aX.shown_inv I) hb0 rfl args hrel;refine ⟨this.1, callsIn_wide.2 ((callsIn_wide.1 this.2).mono fun e w' he => ?_)⟩;cases e with
    | returned v =>
     obtain ⟨Γ1, g1, g2, g3, g4, g5⟩ := he;subst g1;have hkeep : ∀ b, b < Γ.w.heap.size -> Γ1.w.heap[b]? = Γ.w.heap[b]? := fun b hb => g3.keep b hb (fun id e => by cases e) (fun e => e)
     have hx : cA lo (fun _ => False) Γ { Γ with w := Γ1.w } :=
      {cA.refl lo (fun _ => False) Γ with
       sizes := fun b arr T fr hb' => ⟨arr, fr, (hkeep b (dq hb')).trans hb', rfl⟩
       keep := fun b hb' _ _ => hkeep b hb'
       barrier := fun id _ _ => ⟨rfl, rfl, fun b _ hlt => hkeep b hlt⟩
       size := g3.size, os := g3.os, tape := g3.tape, output := g3.output }
     exact ⟨{ Γ with w := Γ1.w }, rfl, rfl, hx, I.same hx (fun _ _ h => h) rfl rfl rfl (fun id b e => hkeep b (I.dom id b e).2.1), yP hs g5⟩
    | panicked c => exact he.elim
    | outgrown => exact he.elim
   ·cases h
  ·cases h
 ·cases h
theorem Bo (hO : gD P C.orc) (hT : ck P C.tab) (hE : ∀ t, t ∈ C.eqs -> uU P t) (hP : kX P = true) {k : Nat} (ih : gD P (call P C k)) (hD : kc P C (call P C k)) {lo : Nat} {fid : FuncId} {vs : List AV} {r : AV} {h' : aj}
  (h : call P C (k + 1) lo (.func fid) vs Γ.H = some (r, h')) (I : dM base Γ) (hb0 : base <= Γ.w.heap.size) {args : Array Value} (hargs : bH Γ vs args.toList) :
  (∃ fn, P.funcs[fid]? = some fn /\ fn.name ≠ "runtime.NumGoroutine" /\ fn.body.isSome = true) /\ CallsIn Fence.wide 0 P fid args Γ.w (dr base lo Γ r h') := by
 have H : qb P C (call P C k) := ⟨hT, hE, ih⟩;cases ho : C.orc lo (.func fid) vs Γ.H with
 | some q =>
  simp only [call, ho] at h;injection h with h;subst h;exact hO lo (.func fid) vs Γ.H r h' ho base Γ I hb0 rfl args hargs
 | none =>
 cases hw : uT C (call P C k) fid vs Γ.H with
 | some q =>
  simp only [call, ho, hw] at h;injection h with h;subst h;exact yQ ih hw I hb0 hargs
 | none =>
 simp only [call, ho, hw] at h
 split at h
 ·rename_i fn hf
  split at h
  ·rename_i b hb
   split at h
   ·rename_i hle
    obtain ⟨o1, o2⟩ := pz hP hf hb;refine ⟨⟨fn, hf, o1, by rw [hb]; rfl⟩, ?_⟩
    have hal := hargs.len;simp only [Array.length_toList] at hal;have hR := aZ.start (ntmps := fn.ntmps) (lo := if C.cut fid then Γ.H.length else lo) I hb0 hargs;have hsz : (args ++ Array.replicate (fn.ntmps - args.size) undef).size = fn.ntmps := by simp; omega
    refine callsIn_of_wp_marks hf hb trivial ?_;have fin : ∀ (e : Ex) (s1 : St), e = .normal \/ e = .ret -> cf C (call P C k) fid k b { env := jb 0 vs, loc := [], heap := Γ.H, inRound := false, lo := if C.cut fid then Γ.H.length else lo } = some (e, s1) ->
      (match cP C s1 fn.results.toList with | some [a] => fk (C.nz fid) (C.cut fid) Γ.H a s1.heap | some l => fk (C.nz fid) (C.cut fid) Γ.H (.tup l) s1.heap | none => none) = some (r, h') ->
      b.wpIn Fence.wide 0 P (bodyPostM Fence.wide 0 P fn (dr base lo Γ r h')) { tmps := args ++ Array.replicate (fn.ntmps - args.size) undef, defers := [] } Γ.w := by
     intro e s1 he hex hres;refine kd (ro := none) H hD (gR H) b o2 Γ _ _ s1 e _ _ hR hsz rfl hex fun a' w' hp => ?_
     obtain ⟨Γ1, β1, e1, R1, g1, e2, e3, e4⟩ := hp;subst e1;have hgoal : LeavesInM Fence.wide 0 P fn a'.tmps (dr base lo Γ r h') a'.defers .returning Γ1.w := by
      refine ke (lo := if C.cut fid then Γ.H.length else lo) (base := base) (n0 := Γ.w.heap.size) (β := β1) (s := s1) a'.defers Γ1 R1 fun Γ2 R2 g2 => ?_
      have hx : cA (if C.cut fid then Γ.H.length else lo) (fun _ => False) Γ Γ2 := (g1.trans g2 (Nat.le_refl _)).closed;cases hrs : cP C s1 fn.results.toList with
      | none => rw [hrs] at hres; cases hres
      | some xs =>
       rw [hrs] at hres;obtain ⟨v, hv1, hv2⟩ := lY hT R2 hrs;refine ⟨v, hv1, ?_⟩;obtain ⟨b, hh, hnz⟩ := qR (pB hres)
       suffices hfin : dr base lo Γ b h' (.returned v) Γ2.w by
        obtain ⟨Γ3, p1, p2, p3, p4, p5⟩ := hfin;exact ⟨Γ3, p1, p2, p3, p4, hnz Γ3 v p5⟩
       unfold ja at hh;cases hcut : C.cut fid with
       | true =>
        rw [hcut] at hh;simp only [hcut, if_true] at hx;simp only [if_true] at hh
        split at hh
        ·rename_i q hq
         injection hh with hh;injection hh with q1 q2;subst q1 q2;rw [<- R2.heap] at hq;exact ⟨Γ.frz Γ2, rfl, rfl, uY I R2.inv hx, Ak I R2.inv hx, tD R2.inv hq hv2⟩
        ·cases hh
       | false =>
        rw [hcut] at hh;simp only [hcut, Bool.false_eq_true, if_false] at hx;simp only [Bool.false_eq_true, if_false] at hh;injection hh with hh;injection hh with q1 q2;subst q1 q2;exact ⟨Γ2, rfl, R2.heap, hx, R2.inv, hv2⟩
     rcases he with rfl | rfl
     ·exact hgoal
     ·exact hgoal
    split at h
    ·rename_i s1 hex
     exact fin .normal s1 (.inl rfl) hex h
    ·rename_i s1 hex
     exact fin .ret s1 (.inr rfl) hex h
    ·cases h
   ·cases h
  ·cases h
 ·cases h
variable {P : Program} {C : dO} {Γ : aX} {base n0 f : Nat} {β : Nat -> Nat} {s s' : St} {a : Act} {o : Oper} {K : Callee}
theorem kZ {b : Nat} {lp : Loop} {w : World} (h : w.heap[b]? = some (.loop lp)) : (Instr.getLoop b).run P w = .ok lp w := by
 unfold Instr.getLoop;have hg : (getObj b).run P w = .ok (.loop lp) w := by
  simp only [getObj, Sem.run, h]
 simp only [Sem.run_bind, hg, Result.andThen_ok, Sem.run_pure]
theorem pC {b : Nat} {lp : Loop} {w : World} (h : w.heap[b]? = some (.loop lp)) (o : Obj) : (setObj b o).run P w = .ok () { w with heap := w.heap.setIfInBounds b o } := by
 simp only [setObj, Sem.run, h]
theorem yR (
          hT : ck P C.tab) (hE : ∀ t, t ∈ C.eqs -> uU P t) {k : Nat} (ih : gD P (call P C k)) (hD : kc P C (call P C k)) {lo l : Nat} {vs : List AV} {r : AV} {h' : aj}
  (h : call P C (k + 1) lo (.yield l) vs Γ.H = some (r, h')) (I : dM base Γ) (hb0 : base <= Γ.w.heap.size) {args : Array Value} (hargs : bH Γ vs args.toList) :
  (∃ rec_, Γ.H[l]? = some (.loop rec_)) /\ ∀ b, Γ.ρ l = some b -> ∃ fid tmps assign body, (Instr.yield b args).run P Γ.w = .ok (.round b fid tmps assign body) Γ.w /\ RoundIn Fence.wide 0 P b fid tmps assign body Γ.w (dr base lo Γ r h') := by
 have H : qb P C (call P C k) := ⟨hT, hE, ih⟩;simp only [call] at h
 split at h
 ·rename_i rc hrc
  refine ⟨⟨rc, hrc⟩, fun b hb => ?_⟩
  split at h
  ·rename_i hc
   obtain ⟨c1, c2, c3⟩ := hc;obtain ⟨lp, hl, hL⟩ := I.loop l b rc hb hrc;have hal := hargs.len;simp only [Array.length_toList] at hal;have hps : lp.params.toList.length = args.toList.length := by
    rw [hL.params, Array.length_toList]; omega
   refine ⟨lp.fn, (lp.params.zip args).foldl (fun tmps (t, a) => tmps.setIfInBounds t a) lp.tmps, lp.assign, lp.body, ?_, ?_⟩
   ·unfold Instr.yield
    simp only [Sem.run_bind, kZ hl, Result.andThen_ok];rw [if_neg (by simp at hps; omega)]
    rfl
   ·obtain ⟨ok1, ok2, ok3⟩ := hL.ok
    rw [<- hL.assign] at ok1;rw [<- hL.body] at ok2;rw [oC];obtain ⟨p1, p2⟩ := lZ (Γ := Γ) lp.params.toList vs args.toList rc.env lp.tmps hargs hps (fun t ht => ok3 t (hL.params ▸ ht)) (fun t x hx => by
     cases x with
     | v av => exact hL.env t av hx
     | p d off => exact absurd hx (hL.nop t d off)
     | junk => exact ⟨hL.lt t _ hx, trivial⟩)
    generalize hT2 : (lp.params.toList.zip args.toList).foldl (fun tmps (t, a) => tmps.setIfInBounds t a) lp.tmps = tmps2 at p1 p2;refine roundIn_of_wpIn trivial ?_;have hR : aZ base Γ.w.heap.size Γ (fun _ => 0) { env := g9 rc.env rc.params vs, loc := [], heap := Γ.H, inRound := true, lo := lo } { tmps := tmps2, defers := [] } :=
     {inv := I, sz := ⟨hb0, Nat.le_refl _⟩, heap := rfl, env := fun t x hx => by rw [<- hL.params] at hx; rw [p1]; exact p2 t x hx, loc := fun d xs h => (by cases h), linj := fun d d' xs xs' h => (by cases h), marks := ⟨[], rfl, List.nodup_nil, fun r hr => by cases hr⟩ }
    split at h
    ·rename_i s1 h1
     rw [<- hL.assign] at h1;refine kd (ro := some b) H hD (gR H) lp.assign ok1 Γ _ _ s1 .normal _ _ hR p1 rfl h1 fun a1 w1 hp => ?_
     obtain ⟨Γ1, β1, e1, R1, g1, e2, e3, e4⟩ := hp;subst e1;show ∃ w₂, (Instr.beginRound b).run P Γ1.w = .ok () w₂ /\ _
     split at h
     ·rename_i r1 hr1
      split at h
      ·rename_i hst
       rw [<- R1.heap] at hr1;have hllt : l < Γ.H.length := aV hrc;obtain ⟨_, _, hρ1⟩ := g1.loop l r1 hllt hr1;have hb1 : Γ1.ρ l = some b := hρ1.trans hb;obtain ⟨lp1, hl1, hL1⟩ := R1.inv.loop l b r1 hb1 hr1;have hready : lp1.state = .ready := hL1.st0 hst;have hx2 : cA lo (fun _ => False) Γ1 (Γ1.upd l b (.loop { r1 with st := 1 }) (.loop { lp1 with state := .busy })) := cA.updLoop R1.inv c1 hb1 hr1 hl1;have hI2 := R1.inv.upd hb1 hx2 (o := .loop { r1 with st := 1 }) ⟨_, rfl, { hL1 with st0 := fun h => (by cases h), st1 := fun h => absurd rfl h, env := hL1.env }⟩
       have hR2 := R1.ext hx2 hI2;refine ⟨(Γ1.upd l b (.loop { r1 with st := 1 }) (.loop { lp1 with state := .busy })).w, ?_, ?_⟩
       ·unfold Instr.beginRound
        simp only [Sem.run_bind, kZ hl1, Result.andThen_ok, pC hl1, hready]
        rfl
       ·split at h
        ·rename_i e s2 h2
         rw [<- hL.body] at h2;have hs1 : ({ s1 with heap := s1.heap.set l (.loop { r1 with st := 1 }) } : St) = { s1 with heap := (Γ1.upd l b (.loop { r1 with st := 1 }) (.loop { lp1 with state := .busy })).H } := by
          show _ = ({ s1 with heap := Γ1.H.set l _ } : St);rw [R1.heap]
         rw [hs1] at h2;refine kd (ro := some b) H hD (gR H) lp.body ok2 _ _ _ s2 e a1 _ hR2 (e2.trans rfl) (e4.trans rfl) h2 fun a3 w3 hp => ?_
         obtain ⟨Γ3, β3, e5, R3, g3, e6, e7, e8⟩ := hp;subst e5;have gAll : dm lo Γ.w.heap.size Γ Γ3 := (dm.trans (lo' := lo) g1 (dm.of hx2) (Nat.le_refl _)).trans g3 (by show lo <= s1.lo; rw [e3]; exact Nat.le_refl _);have hxAll := gAll.closed
         split at h
         ·rename_i r3 hr3
          rw [<- R3.heap] at hr3;obtain ⟨_, _, hρ3⟩ := gAll.loop l r3 hllt hr3;have hb3 : Γ3.ρ l = some b := hρ3.trans hb;obtain ⟨lp3, hl3, hL3⟩ := R3.inv.loop l b r3 hb3 hr3;have fin : ∀ (st : Nat) (ls : LoopState) (pend : Option Code) (rb : Bool), (st = 0 -> ls = .ready) -> (ls ≠ .busy) -> rb = pend.isNone -> ls = (if pend.isNone then .ready else .done) ->
            r = .bool rb -> h' = s2.heap.set l (.loop { r3 with st := st, pending := pend }) ->
            ∃ v w', (Instr.endRound b pend).run P Γ3.w = .ok v w' /\ dr base lo Γ r h' (.returned v) w' := by
           intro st ls pend rb hs0 hs1 hrb hls hr' hh';have hx4 : cA lo (fun _ => False) Γ3 (Γ3.upd l b (.loop { r3 with st := st, pending := pend }) (.loop { lp3 with state := ls, pending := pend })) := cA.updLoop R3.inv c1 hb3 hr3 hl3;have hI4 := R3.inv.upd hb3 hx4 (o := .loop { r3 with st := st, pending := pend }) ⟨_, rfl, { hL3 with st0 := hs0, st1 := fun _ => hs1, pending := rfl, env := hL3.env }⟩
           refine ⟨.bool rb, (Γ3.upd l b (.loop { r3 with st := st, pending := pend }) (.loop { lp3 with state := ls, pending := pend })).w, ?_, Γ3.upd l b (.loop { r3 with st := st, pending := pend }) (.loop { lp3 with state := ls, pending := pend }), rfl, ?_, hxAll.trans hx4 (Nat.le_refl _) (fun _ _ _ h => h.elim), hI4, ?_⟩
           ·unfold Instr.endRound
            simp only [Sem.run_bind, kZ hl3, Result.andThen_ok, pC hl3, Sem.run_pure];rw [hls, hrb]
            rfl
           ·show Γ3.H.set l _ = _
            rw [hh', R3.heap]
           ·rw [hr']; exact .bool _
          cases e with
          | normal =>
           injection h with h; injection h with q1 q2;exact fin 0 .ready none true (fun _ => rfl) (by simp) rfl rfl q1.symm q2.symm
          | ret =>
           injection h with h; injection h with q1 q2;exact fin 2 .done (some .ret) false (fun h => by cases h) (by simp) rfl rfl q1.symm q2.symm
          | exit i =>
           injection h with h; injection h with q1 q2;exact fin 2 .done (some (.exit i)) false (fun h => by cases h) (by simp) rfl rfl q1.symm q2.symm
         ·cases h
        ·cases h
      ·cases h
     ·cases h
    ·cases h
  ·cases h
 ·cases h
theorem qT (hO : gD P C.orc) (hT : ck P C.tab) (hE : ∀ t, t ∈ C.eqs -> uU P t) (hP : kX P = true) (hD : ∀ K, qb P C K -> kc P C K) : ∀ k, gD P (call P C k)
 | 0 => fun lo g vs h r h' hk => by cases hk
 | k + 1 => fun lo g vs h r h' hk base Γ I hb0 hH args hargs => by
  have ih := qT hO hT hE hP hD k;subst hH;cases g with
  | func fid => exact Bo hO hT hE hP ih (hD _ ⟨hT, hE, ih⟩) hk I hb0 hargs
  | yield l => exact yR hT hE ih (hD _ ⟨hT, hE, ih⟩) hk I hb0 hargs
  | _ => trivial
variable {P : Program} {C : dO} {Γ : aX} {base n0 f : Nat} {β : Nat -> Nat} {s s' : St} {a : Act} {o : Oper} {K : Callee}
structure pX (Γ Γ' : aX) : Prop where
 len : Γ.H.length <= Γ'.H.length
 obj : ∀ (id : Nat) (o : ap), id < Γ.H.length -> Γ'.H[id]? = some o -> Γ.H[id]? = some o
 rho : ∀ id, id < Γ.H.length -> Γ'.ρ id = Γ.ρ id \/ Γ.ρ id = none
 sizes : ∀ (b : Nat) (arr : Array Value) (T : TypeId) (fr : Nat × Nat), Γ.w.heap[b]? = some (.cells arr T fr) -> ∃ (arr' : Array Value) (fr' : Nat × Nat), Γ'.w.heap[b]? = some (.cells arr' T fr') /\ arr'.size = arr.size
 stab : ∀ b, Γ.S b -> Γ'.S b /\ Γ'.w.heap[b]? = Γ.w.heap[b]?
theorem aD.ext0 {Γ Γ' : aX} (h : pX Γ Γ') {a : AV} {v : Value} (hr : aD Γ a v) : aD Γ' a v := by
 induction hr with
 | int k n => exact .int k n
 | bool b => exact .bool b
 | str s => exact .str s
 | nils => exact .nils
 | nilp => exact .nilp
 | nilm => exact .nilm
 | nilf => exact .nilf
 | nili => exact .nili
 | @sl id sz off len v hin h1_ h0 =>
  refine .sl (Nat.lt_of_lt_of_le hin h.len) h1_ fun T xs hx => ?_
  obtain ⟨h2, h3⟩ := h0 T xs (h.obj id _ hin hx);refine ⟨h2, fun e => ?_⟩
  obtain ⟨b, c, arr, T', fr, hb, hv, hcl, hh, hsz⟩ := h3 e;obtain ⟨arr', fr', hh', hs'⟩ := h.sizes b arr T' fr hh;refine ⟨b, c, arr', T', fr', ?_, hv, hcl, hh', by omega⟩
  rcases h.rho id hin with e | e
  ·exact e.trans hb
  ·rw [e] at hb; cases hb
 | @hp id n off v hin h1_ h0 =>
  refine .hp (Nat.lt_of_lt_of_le hin h.len) h1_ fun T xs hx => ?_
  obtain ⟨h2, h3⟩ := h0 T xs (h.obj id _ hin hx);refine ⟨h2, fun e => ?_⟩
  obtain ⟨b, hb, hv⟩ := h3 e;refine ⟨b, ?_, hv⟩;rcases h.rho id hin with e | e
  ·exact e.trans hb
  ·rw [e] at hb; cases hb
 | @mp id v hin h1_ h0 =>
  refine .mp (Nat.lt_of_lt_of_le hin h.len) h1_ fun es hx => ?_
  obtain ⟨b, hb, hv⟩ := h0 es (h.obj id _ hin hx);refine ⟨b, ?_, hv⟩;rcases h.rho id hin with e | e
  ·exact e.trans hb
  ·rw [e] at hb; cases hb
 | vs hT => exact .vs (hT.mono h.stab)
 | rp g h1_ hmem hrel =>
  refine .rp g h1_ (fun j hj => ?_) (fun j x hx => (hrel j x hx).mono h.stab);obtain ⟨h1, h2⟩ := hmem j hj;obtain ⟨h3, h4⟩ := h.stab _ h2;refine ⟨?_, h3⟩;rw [<- h1];exact mY (by rw [hZ]; exact h4)
 | fn hn _ ih => exact .fn hn ih
 | @yield id v hin h1_ h0 =>
  refine .yield (Nat.lt_of_lt_of_le hin h.len) h1_ fun r hx => ?_
  obtain ⟨b, hb, hv⟩ := h0 r (h.obj id _ hin hx);refine ⟨b, ?_, hv⟩;rcases h.rho id hin with e | e
  ·exact e.trans hb
  ·rw [e] at hb; cases hb
 | agg hn h1_ _ ih => exact .agg hn h1_ ih
 | tup hn _ ih => exact .tup hn ih
 | iface _ ih => exact .iface ih
theorem jc.ext0 {Γ Γ' : aX} (h : pX Γ Γ') {x : co} {v : Value} (hr : jc Γ β x v) : jc Γ' β x v := by
 cases x with
 | v a => exact aD.ext0 h hr
 | p d off => exact hr
 | junk => trivial
theorem eT.ext0 {Γ Γ' : aX} (e : pX Γ Γ') {o : ap} {ob : Obj} (h : eT Γ o ob) : eT Γ' o ob := by
 cases o with
 | cells T xs => obtain ⟨arr, h1, h2, h3, h4⟩ := h; exact ⟨arr, h1, h2, h3, fun i x hi => (h4 i x hi).ext0 e⟩
 | map es => obtain ⟨ms, cl, h1, h2, h3, h4⟩ := h; exact ⟨ms, cl, h1, h2, fun i x hi => let ⟨m, a, b, c⟩ := h3 i x hi; ⟨m, a, b.ext0 e, c.ext0 e⟩, h4⟩
 | loop r => obtain ⟨l, h1, h2⟩ := h; exact ⟨l, h1, { h2 with env := fun t a ha => let ⟨x, y⟩ := h2.env t a ha; ⟨x, y.ext0 e⟩ }⟩
 | dead => trivial
def aX.cut (Γ : aX) (k : Nat) : aX := { Γ with H := Γ.H.take k, ρ := fun id => if id < k then Γ.ρ id else none }
theorem u9 {k id : Nat} {o : ap} : (Γ.cut k).H[id]? = some o ↔ id < k /\ Γ.H[id]? = some o := by
 simp only [aX.cut];rcases Nat.lt_or_ge id k with h | h
 ·rw [List.getElem?_take_of_lt h]; exact ⟨fun e => ⟨h, e⟩, fun e => e.2⟩
 ·rw [List.getElem?_take_eq_none h]
  exact ⟨fun e => (by cases e), fun e => absurd e.1 (by omega)⟩
theorem gi {k id b : Nat} : (Γ.cut k).ρ id = some b ↔ id < k /\ Γ.ρ id = some b := by
 simp only [aX.cut]
 split
 ·rename_i h; exact ⟨fun e => ⟨h, e⟩, fun e => e.2⟩
 ·rename_i h; exact ⟨fun e => (by cases e), fun e => absurd e.1 h⟩
theorem pX.cut {Γ Γ' : aX} {k k' : Nat} (hk : k <= k') (hlen : Γ.H.length <= Γ'.H.length) (hk' : k <= Γ.H.length) (hH : ∀ id, id < k -> Γ'.H[id]? = Γ.H[id]?) (hρ : ∀ id, id < k -> Γ'.ρ id = Γ.ρ id \/ Γ.ρ id = none)
  (sizes : ∀ (b : Nat) (arr : Array Value) (T : TypeId) (fr : Nat × Nat), Γ.w.heap[b]? = some (.cells arr T fr) -> ∃ (arr' : Array Value) (fr' : Nat × Nat), Γ'.w.heap[b]? = some (.cells arr' T fr') /\ arr'.size = arr.size)
  (stab : ∀ b, Γ.S b -> Γ'.S b /\ Γ'.w.heap[b]? = Γ.w.heap[b]?) : pX (Γ.cut k) (Γ'.cut k') where
 len := by simp [aX.cut]; omega
 obj id o hid h := by
  have hid' : id < k := by simp [aX.cut] at hid; omega
  rw [u9] at h ⊢;exact ⟨hid', by rw [<- hH id hid']; exact h.2⟩
 rho id hid := by
  have hid' : id < k := by simp [aX.cut] at hid; omega
  simp only [aX.cut, if_pos hid', if_pos (show id < k' by omega)];exact hρ id hid'
 sizes := sizes
 stab := stab
theorem Ap {k : Nat} (hk : Γ.H.length <= k) (hd : ∀ id b, Γ.ρ id = some b -> id < Γ.H.length) : Γ.cut k = Γ := by
 obtain ⟨H, ρ, S, w⟩ := Γ;simp only [aX.cut, aX.mk.injEq, and_true];refine ⟨List.take_of_length_le hk, ?_⟩;funext id
 split
 ·rfl
 ·rename_i h
  cases hh : ρ id with
  | none => rfl
  | some b => have := hd id b hh; simp at this hk; omega
theorem qU (acc : List Nat) (j : Nat) : ∀ (l : List Edge) (s : Nat), (l.foldl (fun s e => if Region.binds .any e then s ||| 2 ^ e.on ||| acc.getD e.on 0 else s) s).testBit j = true ->
  s.testBit j = true \/ ∃ e, e ∈ l /\ Region.binds .any e = true /\ (e.on = j \/ (acc.getD e.on 0).testBit j = true)
 | [], s, h => .inl h
 | e :: l, s, h => by
  rw [List.foldl_cons] at h;rcases qU acc j l _ h with h1 | ⟨e', h1, h2, h3⟩
  ·split at h1
   ·rename_i hb
    rw [Nat.testBit_or, Nat.testBit_or, Nat.testBit_two_pow] at h1;simp only [Bool.or_eq_true, decide_eq_true_eq] at h1;rcases h1 with (h1 | h1) | h1
    ·exact .inl h1
    ·exact .inr ⟨e, List.mem_cons_self .., hb, .inl h1⟩
    ·exact .inr ⟨e, List.mem_cons_self .., hb, .inr h1⟩
   ·exact .inl h1
  ·exact .inr ⟨e', List.mem_cons_of_mem _ h1, h2, h3⟩
theorem k6 : ∀ (l : List Oper) (acc : List Nat) (i : Nat), i < acc.length -> (gM l acc)[i]? = acc[i]?
 | [], acc, i, h => rfl
 | o :: l, acc, i, h => by
  rw [gM, k6 l _ i (by simp; omega), List.getElem?_append_left h]
theorem ng : ∀ (l : List Oper) (acc : List Nat) (i j : Nat) (o : Oper), l[i]? = some o -> ((gM l acc).getD (acc.length + i) 0).testBit j = true ->
  ∃ e, e ∈ o.after.toList /\ Region.binds .any e = true /\ (e.on = j \/ ((gM l acc).getD e.on 0).testBit j = true)
 | [], acc, i, j, o, h, _ => by simp at h
 | o' :: l, acc, 0, j, o, h, hb => by
  simp at h; subst h;rw [gM] at hb ⊢;have e1 : (gM l (acc ++ [jV acc o'])).getD (acc.length + 0) 0 = jV acc o' := by
   rw [List.getD_eq_getElem?_getD, k6 l _ _ (by simp)];simp
  rw [e1] at hb;rcases qU acc j _ _ hb with h1 | ⟨e, h1, h2, h3⟩
  ·simp at h1
  ·refine ⟨e, h1, h2, h3.imp id fun h3 => ?_⟩
   rcases Nat.lt_or_ge e.on acc.length with h4 | h4
   ·rw [List.getD_eq_getElem?_getD, k6 l _ _ (by simp; omega), List.getElem?_append_left h4, <- List.getD_eq_getElem?_getD]
    exact h3
   ·rw [List.getD_eq_getElem?_getD, List.getElem?_eq_none h4] at h3
    simp at h3
 | o' :: l, acc, i + 1, j, o, h, hb => by
  simp at h;rw [gM] at hb ⊢;have := ng l (acc ++ [jV acc o']) i j o h;rw [List.length_append, List.length_singleton, Nat.add_assoc, Nat.add_comm 1 i] at this;exact this hb
theorem Bp {ops : Array Oper} {i j : Nat} {o : Oper} (h : ops[i]? = some o) (hb : ((cR ops).getD i 0).testBit j = true) : ∃ e, e ∈ o.after.toList /\ Region.binds .any e = true /\ (e.on = j \/ ((cR ops).getD e.on 0).testBit j = true) := by
 have := ng ops.toList [] i j o (by rw [Array.getElem?_toList]; exact h);simp only [List.length_nil, Nat.zero_add] at this;exact this hb
def dW (ops : Array Oper) (L : Array Bool) : Prop := ∀ (i : Nat) (o : Oper), ops[i]? = some o -> L.getD i true = true -> ∀ e, e ∈ o.after.toList -> Region.binds .any e = true -> L.getD e.on false = true
theorem d7 {ops : Array Oper} (h : cI ops = true) {i : Nat} {o : Oper} (ho : ops[i]? = some o) {e : Edge} (he : e ∈ o.after.toList) (hb : Region.binds .any e = true) : e.on < i := by
 unfold cI at h;have hi : i < ops.size := by
  rcases Nat.lt_or_ge i ops.size with h' | h'
  ·exact h'
  ·rw [Array.getElem?_eq_none h'] at ho; cases ho
 have h1 := List.all_eq_true.1 h i (List.mem_range.2 hi);rw [ho] at h1;simp only [Bool.and_eq_true] at h1;have h2 := h1.1;rw [<- Array.all_toList, List.all_eq_true] at h2;have h3 := h2 e he;rw [hb] at h3;simpa using h3
theorem d8 {ops : Array Oper} (h : cI ops = true) {i j : Nat} {o o' : Oper} (ho : ops[i]? = some o) (ho' : ops[j]? = some o') (hne : j ≠ i) {d : Nat} (hd : o'.dst = some d) (hn : d ∈ cF ops o) :
  (j < i /\ ((cR ops).getD i 0).testBit j = true) \/ (i < j /\ ((cR ops).getD j 0).testBit i = true) := by
 unfold cI at h;have lt : ∀ {i : Nat} {o : Oper}, ops[i]? = some o -> i < ops.size := fun {i o} ho => by
  rcases Nat.lt_or_ge i ops.size with h' | h'
  ·exact h'
  ·rw [Array.getElem?_eq_none h'] at ho; cases ho
 have h1 := List.all_eq_true.1 h i (List.mem_range.2 (lt ho));rw [ho] at h1;simp only [Bool.and_eq_true] at h1;have h2 := List.all_eq_true.1 h1.2 j (List.mem_range.2 (lt ho'));rw [ho'] at h2;simp only [Option.bind_some, hd] at h2;have hne' : (j == i) = false := by simpa using hne
 have hc : (cF ops o).contains d = true := by simpa using hn
 rw [hne', hc] at h2;simp only [Bool.false_or, Bool.not_true] at h2
 split at h2
 ·rename_i hlt; exact .inl ⟨hlt, h2⟩
 ·exact .inr ⟨by omega, h2⟩
theorem b8 {ops : Array Oper} {L : Array Bool} (hok : cI ops = true) (hc : dW ops L) (hL : L.size = ops.size) : ∀ (i : Nat) (o : Oper), ops[i]? = some o -> (∀ e, e ∈ o.after.toList -> Region.binds .any e = true -> L.getD e.on false = true) ->
  ∀ j, ((cR ops).getD i 0).testBit j = true -> L.getD j false = true := by
 intro i
 induction i using Nat.strongRecOn with
 | _ i ih =>
  intro o ho hr j hj;obtain ⟨e, he, hb, h⟩ := Bp ho hj;have hin := hr e he hb;rcases h with rfl | h
  ·exact hin
  ·have hlt := d7 hok ho he hb
   have hsz : e.on < ops.size := by
    rcases Nat.lt_or_ge e.on L.size with h' | h'
    ·omega
    ·rw [Array.getD_eq_getD_getElem?, Array.getElem?_eq_none h'] at hin; cases hin
   obtain ⟨o', ho'⟩ : ∃ o', ops[e.on]? = some o' := ⟨_, Array.getElem?_eq_getElem hsz⟩;refine ih e.on hlt o' ho' (hc e.on o' ho' ?_) j h;rw [Array.getD_eq_getD_getElem?] at hin ⊢;cases hh : L[e.on]? with
   | none => rw [hh] at hin; cases hin
   | some v => rw [hh] at hin; simpa using hin
variable {P : Program} {C : dO} {Γ Γ0 : aX} {base n0 f : Nat} {β : Nat -> Nat} {s s' : St} {a : Act} {o : Oper} {K : Callee}
def qV (C : dO) (K : Callee) (f : Nat) (ops : Array Oper) (i : Nat) (o : Oper) (s s1 : St) : Prop :=
 (bG ops o s = some false /\ s1 = s.putv o.dst (.tup [])) \/ (bG ops o s = some true /\ dH (cR ops) ops.size i = true /\ aE C K f o s = some s1) \/
 (bG ops o s = some true /\ dH (cR ops) ops.size i = false /\ jo C K f ops o s = some s1) \/
 (bG ops o s = some true /\ io C ops (cR ops) o i s = true /\ aE C K f o s = some s1)
theorem wt {ops : Array Oper} : ∀ (l : List Oper) (i : Nat) (s s' : St), eu C K f ops (cR ops) l i s = some s' ->
  ∃ st : Nat -> St, st i = s /\ st (i + l.length) = s' /\ ∀ k o, l[k]? = some o -> qV C K f ops (i + k) o (st (i + k)) (st (i + k + 1))
 | [], i, s, s', h => by injection h with h; exact ⟨fun _ => s, rfl, h, fun k o hk => by simp at hk⟩
 | o :: l, i, s, s', h => by
  have go : ∀ s1, qV C K f ops i o s s1 -> eu C K f ops (cR ops) l (i + 1) s1 = some s' ->
    ∃ st : Nat -> St, st i = s /\ st (i + (o :: l).length) = s' /\ ∀ k o', (o :: l)[k]? = some o' -> qV C K f ops (i + k) o' (st (i + k)) (st (i + k + 1)) := by
   intro s1 h1 h2;obtain ⟨st, e1, e2, e3⟩ := wt l (i + 1) s1 s' h2;refine ⟨fun k => if k = i then s else st k, if_pos rfl, ?_, fun k o' hk => ?_⟩
   ·dsimp only
    rw [if_neg (by simp), List.length_cons, show i + (l.length + 1) = i + 1 + l.length by omega]; exact e2
   ·cases k with
    | zero =>
     simp at hk; subst hk;dsimp only;rw [if_pos (by simp), if_neg (by omega)];rw [show i + 0 + 1 = i + 1 by omega, e1]; exact h1
    | succ k =>
     simp at hk;dsimp only;rw [if_neg (by omega), if_neg (by omega)];have := e3 k o' hk;rw [show i + 1 + k = i + (k + 1) by omega] at this
     exact this
  simp only [eu] at h
  split at h
  ·rename_i hg
   split at h
   ·rename_i s1 h1
    split at h1
    ·rename_i ha
     exact go s1 (.inr (.inl ⟨hg, ha, h1⟩)) h
    ·rename_i ha
     unfold qw at h1
     split at h1
     ·rename_i s2 h2
      injection h1 with h1; subst h1;exact go _ (.inr (.inr (.inl ⟨hg, by simpa using ha, h2⟩))) h
     ·split at h1
      ·rename_i hn
       exact go s1 (.inr (.inr (.inr ⟨hg, hn, h1⟩))) h
      ·cases h1
   ·cases h
  ·rename_i hg
   exact go _ (.inl ⟨hg, rfl⟩) h
  ·cases h
def vb (s : St) (d : Option Tmp) (x : co) (new : aj) : St :=
 {s with env := (match d with | some d => (d, x) :: s.env | none => s.env), heap := s.heap ++ new }
abbrev gq (ops : Array Oper) (i : Nat) : Bool := dH (cR ops) ops.size i || (match ops[i]? with | some o => et o | none => false)
theorem k7 {ops : Array Oper} {i : Nat} (hl : gq ops i = false) : dH (cR ops) ops.size i = false := (Bool.or_eq_false_iff.1 hl).1
theorem l4 {ops : Array Oper} {i : Nat} (hn : io C ops (cR ops) o i s = true) : et o = true := by
 unfold io at hn;exact (Bool.and_eq_true_iff.1 hn).1
theorem kf {ops : Array Oper} {i : Nat} (ho : ops[i]? = some o) (hn : io C ops (cR ops) o i s = true) : gq ops i = true := by
 unfold gq;rw [ho];simp only [l4 hn, Bool.or_true]
theorem wu {ops : Array Oper} {i : Nat} (ho : ops[i]? = some o) (h : qV C K f ops i o s s') (hl : gq ops i = false) : ∃ x new, s' = vb s o.dst x new := by
 rcases h with ⟨_, rfl⟩ | ⟨_, ha, _⟩ | ⟨_, _, h⟩ | ⟨_, hn, _⟩
 ·refine ⟨.v (.tup []), [], ?_⟩
  unfold vb St.putv St.put;cases o.dst <;> simp
 ·rw [k7 hl] at ha; cases ha
 rotate_left
 ·rw [kf ho hn] at hl; cases hl
 ·unfold jo at h
  split at h
  ·cases h
  ·split at h
   ·split at h
    ·rename_i hd
     injection h with h;exact ⟨.junk, _, by rw [<- h, hd]; rfl⟩
    ·rename_i d hd
     split at h
     ·rename_i x hx
      injection h with h;exact ⟨x, _, by rw [<- h, hd]; rfl⟩
     ·cases h
   ·cases h
theorem yS {s : St} {d : Option Tmp} {x : co} {new : aj} (t : Nat) : look (vb s d x new).env t = if d = some t then some x else look s.env t := by
 unfold vb;cases d with
 | none => simp
 | some d =>
  simp only [bE]
  by_cases e : d = t
  ·simp [e]
  ·rw [if_neg e, if_neg (by simpa using e)]
structure Tr (C : dO) (K : Callee) (f : Nat) (ops : Array Oper) (st : Nat -> St) : Prop where
 step : ∀ i o, ops[i]? = some o -> qV C K f ops i o (st i) (st (i + 1))
section
variable {ops : Array Oper} {st : Nat -> St} (T : Tr C K f ops st)
def len (st : Nat -> St) (i : Nat) : Nat := (st i).heap.length
include T in
theorem pD {m : Nat} : ∀ (d : Nat), m + d <= ops.size -> (∀ i, m <= i -> i < m + d -> gq ops i = false) -> (st (m + d)).loc = (st m).loc /\ (st (m + d)).lo = (st m).lo /\ (st (m + d)).inRound = (st m).inRound /\ ∃ new, (st (m + d)).heap = (st m).heap ++ new
 | 0, _, _ => ⟨rfl, rfl, rfl, [], by simp⟩
 | d + 1, hle, hl => by
  obtain ⟨h1, h2, h3, new, h4⟩ := pD d (by omega) (fun i h1 h2 => hl i h1 (by omega));have hlt : m + d < ops.size := by omega
  obtain ⟨x, new', e⟩ := wu (Array.getElem?_eq_getElem hlt) (T.step (m + d) _ (Array.getElem?_eq_getElem hlt)) (hl (m + d) (by omega) (by omega));rw [show m + (d + 1) = m + d + 1 by omega, e]
  refine ⟨h1, h2, h3, new ++ new', ?_⟩;show (st (m + d)).heap ++ new' = _;rw [h4, List.append_assoc]
include T in
theorem iu {m k : Nat} (hmk : m <= k) (hk : k <= ops.size) (hl : ∀ i, m <= i -> i < k -> gq ops i = false) : (st k).loc = (st m).loc /\ (st k).lo = (st m).lo /\ (st k).inRound = (st m).inRound /\ (∃ new, (st k).heap = (st m).heap ++ new) /\ len st m <= len st k /\
  ∀ id, id < len st m -> (st k).heap[id]? = (st m).heap[id]? := by
 obtain ⟨d, rfl⟩ : ∃ d, k = m + d := ⟨k - m, by omega⟩
 obtain ⟨h1, h2, h3, new, h4⟩ := pD T d hk hl;refine ⟨h1, h2, h3, ⟨new, h4⟩, by unfold len; rw [h4]; simp, fun id hid => ?_⟩
 rw [h4, List.getElem?_append_left hid]
include T in
theorem k8 {m : Nat} {t : Nat} {x : co} : ∀ (d : Nat), m + d <= ops.size -> (∀ i, m <= i -> i < m + d -> gq ops i = false) -> look (st (m + d)).env t = some x ->
  ((∀ j o, m <= j -> j < m + d -> ops[j]? = some o -> o.dst ≠ some t) /\ look (st m).env t = some x) \/
  ∃ j o, m <= j /\ j < m + d /\ ops[j]? = some o /\ o.dst = some t /\ (∀ j' o', j < j' -> j' < m + d -> ops[j']? = some o' -> o'.dst ≠ some t) /\ look (st (j + 1)).env t = some x
 | 0, _, _, h => .inl ⟨fun j o h1 h2 => by omega, h⟩
 | d + 1, hle, hl, h => by
  have hlt : m + d < ops.size := by omega
  have hop := Array.getElem?_eq_getElem hlt;obtain ⟨y, new', e⟩ := wu hop (T.step (m + d) _ hop) (hl (m + d) (by omega) (by omega))
  by_cases hd : ops[m + d].dst = some t
  ·exact .inr ⟨m + d, _, by omega, by omega, hop, hd, fun j' o' h1 h2 => by omega, h⟩
  ·rw [show m + (d + 1) = m + d + 1 by omega, e, yS, if_neg hd] at h
   rcases k8 d (by omega) (fun i h1 h2 => hl i h1 (by omega)) h with ⟨h1, h2⟩ | ⟨j, o, h1, h2, h3, h4, h5, h6⟩
   ·refine .inl ⟨fun j o k1 k2 k3 => ?_, h2⟩
    rcases Nat.lt_or_ge j (m + d) with h' | h'
    ·exact h1 j o k1 h' k3
    ·have : j = m + d := by omega
     subst this;rw [hop] at k3; injection k3 with k3; subst k3; exact hd
   ·refine .inr ⟨j, o, h1, by omega, h3, h4, fun j' o' k1 k2 k3 => ?_, h6⟩
    rcases Nat.lt_or_ge j' (m + d) with h' | h'
    ·exact h5 j' o' k1 h' k3
    ·have : j' = m + d := by omega
     subst this;rw [hop] at k3; injection k3 with k3; subst k3; exact hd
end
def bN (L : Array Bool) (j : Nat) : Prop := L.getD j false = true
structure PR (ops : Array Oper) (st : Nat -> St) (base n0 lo : Nat) (Γ0 : aX) (n m M : Nat) (L : Array Bool) (Γ : aX) (β : Nat -> Nat) (a : Act) : Prop where
 mM : m <= M /\ M <= ops.size
 pre : ∀ j, j < m -> bN L j
 bound : ∀ j, bN L j -> j < M
 light : ∀ i, m <= i -> i < M -> gq ops i = false
 H : Γ.H = (st M).heap
 dom : ∀ id b, Γ.ρ id = some b -> id < Γ.H.length /\ b < Γ.w.heap.size /\ base <= b /\ ¬ Γ.S b
 inj : ∀ id id' b, Γ.ρ id = some b -> Γ.ρ id' = some b -> id = id'
 objs : ∀ k, m <= k -> k <= M -> ∀ id b o, id < len st k -> Γ.ρ id = some b -> Γ.H[id]? = some o -> ∃ ob, Γ.w.heap[b]? = some ob /\ eT (Γ.cut (len st k)) o ob
 stab : ∀ b, Γ.S b -> b < Γ.w.heap.size
 absent : ∀ j, m <= j -> j < M -> ¬ bN L j -> ∀ id, len st j <= id -> id < len st (j + 1) -> Γ.ρ id = none
 env0 : ∀ t x, look (st m).env t = some x -> (∀ j o, m <= j -> bN L j -> ops[j]? = some o -> o.dst ≠ some t) -> t < n /\ jc (Γ.cut (len st m)) β x (a.tmps.getD t undef)
 envL : ∀ j o t, m <= j -> bN L j -> ops[j]? = some o -> o.dst = some t -> (∀ j' o', j < j' -> bN L j' -> ops[j']? = some o' -> o'.dst ≠ some t) ->
  t < n /\ ∃ x, look (st (j + 1)).env t = some x /\ jc (Γ.cut (len st (j + 1))) β x (a.tmps.getD t undef)
 sz : base <= n0 /\ n0 <= Γ.w.heap.size
 loc : ∀ (d : Nat) (xs : List AV), look (st m).loc d = some xs -> ∃ (arr : Array Value) (T : TypeId), Γ.w.heap[β d]? = some (.cells arr T (0, 0)) /\ arr.size = xs.length /\ (∀ x, x ∈ xs -> oneCell x = true) /\ (∀ (i : Nat) (x : AV), xs[i]? = some x -> aD (Γ.cut (len st m)) x (arr.getD i undef)) /\
  (∀ id, Γ.ρ id ≠ some (β d)) /\ ¬ Γ.S (β d) /\ base <= β d /\ n0 <= β d
 linj : ∀ (d d' : Nat) (xs xs' : List AV), look (st m).loc d = some xs -> look (st m).loc d' = some xs' -> β d = β d' -> d = d'
 marks : ∃ rs : List Nat, a.defers = rs.map (fun r => { target := .collected r, args := #[] }) /\ rs.Nodup /\ ∀ r, r ∈ rs -> Γ.w.heap[r]? = some (.deferred (some [])) /\ (∀ id, Γ.ρ id ≠ some r) /\ ¬ Γ.S r /\ n0 <= r
 g0 : Γ0.H.length <= len st m
 went : dm lo n0 Γ0 Γ
 asz : a.tmps.size = n
 lo' : (st m).lo = lo /\ (st m).inRound = (st 0).inRound
section
variable {ops : Array Oper} {st : Nat -> St} {lo n m M : Nat} {L : Array Bool}
theorem PR.invCut (p : PR ops st base n0 lo Γ0 n m M L Γ β a) {k : Nat} (h1 : m <= k) (h2 : k <= M) : dM base (Γ.cut (len st k)) := by
 refine dM.of_objs (fun id b h => ?_) (fun id id' b h h' => ?_) p.stab (fun id b o h hx => ?_)
 ·rw [gi] at h
  obtain ⟨q1, q2, q3, q4⟩ := p.dom id b h.2;refine ⟨?_, q2, q3, q4⟩;simp only [aX.cut, List.length_take]; omega
 ·rw [gi] at h h'
  exact p.inj id id' b h.2 h'.2
 ·rw [gi] at h
  rw [u9] at hx;exact p.objs k h1 h2 id b o h.1 h.2 hx.2
theorem PR.mono (T : Tr C K f ops st) (p : PR ops st base n0 lo Γ0 n m M L Γ β a) {i k : Nat} (h1 : m <= i) (h2 : i <= k) (h3 : k <= M) : len st i <= len st k /\ ∀ id, id < len st i -> (st k).heap[id]? = (st i).heap[id]? := by
 have := iu T h2 (by have := p.mM; omega) (fun j q1 q2 => p.light j (by omega) (by omega));exact this.2.2.2.2
theorem PR.cutUp (T : Tr C K f ops st) (p : PR ops st base n0 lo Γ0 n m M L Γ β a) {i k : Nat} (h1 : m <= i) (h2 : i <= k) (h3 : k <= M) : pX (Γ.cut (len st i)) (Γ.cut (len st k)) :=
 pX.cut (p.mono T h1 h2 h3).1 (Nat.le_refl _) (by rw [p.H]; exact (p.mono T h1 (Nat.le_trans h2 h3) (Nat.le_refl _)).1) (fun _ _ => rfl) (fun _ _ => .inl rfl) (fun _ arr _ fr h => ⟨arr, fr, h, rfl⟩) (fun _ h => ⟨h, rfl⟩)
theorem PR.extend (T : Tr C K f ops st) (p : PR ops st base n0 lo Γ0 n m M L Γ β a) {M' : Nat} (h1 : M <= M') (h2 : M' <= ops.size) (hl : ∀ k, M <= k -> k < M' -> gq ops k = false) : PR ops st base n0 lo Γ0 n m M' L { Γ with H := (st M').heap } β a := by
 have hlight : ∀ i, m <= i -> i < M' -> gq ops i = false := fun i q1 q2 => by
  rcases Nat.lt_or_ge i M with h | h
  ·exact p.light i q1 h
  ·exact hl i h q2
 have hML := iu T h1 h2 hl;have hlenM : Γ.H.length = len st M := by rw [p.H]; rfl
 have hlen : Γ.H.length <= (st M').heap.length := by rw [hlenM]; exact hML.2.2.2.2.1
 have hget : ∀ id, id < Γ.H.length -> (st M').heap[id]? = Γ.H[id]? := fun id hid => by
  rw [hML.2.2.2.2.2 id (by rw [<- hlenM]; exact hid), p.H]
 have ex : ∀ k, k <= Γ.H.length -> ∀ k', k <= k' -> pX (Γ.cut k) (aX.cut { Γ with H := (st M').heap } k') := fun k hk k' hk' =>
  pX.cut hk' hlen hk (fun id hid => hget id (by omega)) (fun _ _ => .inl rfl) (fun _ arr _ fr h => ⟨arr, fr, h, rfl⟩) (fun _ h => ⟨h, rfl⟩)
 have hk0 : ∀ k, m <= k -> k <= M -> len st k <= Γ.H.length := fun k q1 q2 => by rw [hlenM]; exact (p.mono T q1 q2 (Nat.le_refl _)).1
 have hmM := p.mM.1;exact
  {mM := ⟨by omega, h2⟩, pre := p.pre, bound := fun j hj => by have := p.bound j hj; omega, light := hlight, H := rfl
   dom := fun id b h => by
    obtain ⟨q1, q2, q3, q4⟩ := p.dom id b h;exact ⟨Nat.lt_of_lt_of_le q1 hlen, q2, q3, q4⟩
   inj := p.inj
   objs := fun k q1 q2 id b o hid hr ho => by
    have hidH := (p.dom id b hr).1;have ho' : Γ.H[id]? = some o := by rw [<- hget id hidH]; exact ho
    rcases Nat.lt_or_ge M k with h | h
    ·obtain ⟨ob, r1, r2⟩ := p.objs M hmM (Nat.le_refl _) id b o (by rw [<- hlenM]; exact hidH) hr ho'
     refine ⟨ob, r1, r2.ext0 (ex _ (hk0 M hmM (Nat.le_refl _)) _ ?_)⟩;exact (iu T (Nat.le_of_lt h) (by omega) (fun i r1 r2 => hlight i (by omega) (by omega))).2.2.2.2.1
    ·obtain ⟨ob, r1, r2⟩ := p.objs k q1 h id b o hid hr ho'
     exact ⟨ob, r1, r2.ext0 (ex _ (hk0 k q1 h) _ (Nat.le_refl _))⟩
   stab := p.stab
   absent := fun j q1 q2 hnj id r1 r2 => by
    rcases Nat.lt_or_ge j M with h | h
    ·exact p.absent j q1 h hnj id r1 r2
    ·cases hr : Γ.ρ id with
     | none => rfl
     | some b =>
      have := (p.dom id b hr).1;have h3 := (iu T h (by omega) (fun i r1 r2 => hlight i (by omega) (by omega))).2.2.2.2.1;omega
   env0 := fun t x hx hn => by
    obtain ⟨q1, q2⟩ := p.env0 t x hx hn;exact ⟨q1, q2.ext0 (ex _ (hk0 m (Nat.le_refl _) hmM) _ (Nat.le_refl _))⟩
   envL := fun j o t q1 q2 q3 q4 q5 => by
    obtain ⟨r1, x, r2, r3⟩ := p.envL j o t q1 q2 q3 q4 q5;have := p.bound j q2;exact ⟨r1, x, r2, r3.ext0 (ex _ (hk0 (j + 1) (by omega) (by omega)) _ (Nat.le_refl _))⟩
   sz := p.sz
   loc := fun d xs hx => by
    obtain ⟨arr, T', r1, r2, r3, r4, r5⟩ := p.loc d xs hx;exact ⟨arr, T', r1, r2, r3, fun i x hi => (r4 i x hi).ext0 (ex _ (hk0 m (Nat.le_refl _) hmM) _ (Nat.le_refl _)), r5⟩
   linj := p.linj, marks := p.marks, g0 := p.g0
   went := { p.went with
    len := Nat.le_trans p.went.len hlen
    cells := fun id T2 xs' hid h => p.went.cells id T2 xs' hid (by rw [<- hget id (Nat.lt_of_lt_of_le hid p.went.len)]; exact h)
    map := fun id es' hid h => p.went.map id es' hid (by rw [<- hget id (Nat.lt_of_lt_of_le hid p.went.len)]; exact h)
    loop := fun id r' hid h => p.went.loop id r' hid (by rw [<- hget id (Nat.lt_of_lt_of_le hid p.went.len)]; exact h)
    barrier := fun id hl hid => by
     obtain ⟨r1, r2, r3⟩ := p.went.barrier id hl hid;exact ⟨(hget id (Nat.lt_of_lt_of_le hid p.went.len)).trans r1, r2, r3⟩ }
   asz := p.asz, lo' := p.lo' }
theorem PR.complete (T : Tr C K f ops st) (p : PR ops st base n0 lo Γ0 n m M L Γ β a) (hall : ∀ j, j < M -> bN L j) : aZ base n0 Γ β (st M) a /\ (st M).lo = lo /\ (st M).inRound = (st 0).inRound := by
 have hlenM : Γ.H.length = len st M := by rw [p.H]; rfl
 have hcut : Γ.cut (len st M) = Γ := Ap (by rw [hlenM]; exact Nat.le_refl _) (fun id b h => (p.dom id b h).1);have hto := iu T p.mM.1 p.mM.2 p.light;refine ⟨{
      inv := by have := p.invCut p.mM.1 (Nat.le_refl _); rwa [hcut] at this
      sz := p.sz, heap := p.H, env := fun t x hx => ?_, loc := fun d xs hx => ?_, linj := fun d d' xs xs' h h' => ?_, marks := p.marks }, hto.2.1.trans p.lo'.1, hto.2.2.1.trans p.lo'.2⟩
 ·rw [p.asz]
  obtain ⟨d, hd⟩ : ∃ d, M = m + d := ⟨M - m, by have := p.mM; omega⟩
  have hM := p.mM.2;have hl := p.light;rw [hd] at hx;rcases k8 T d (by omega) (fun i h1 h2 => hl i h1 (by omega)) hx with ⟨h1, h2⟩ | ⟨j, o, h1, h2, h3, h4, h5, h6⟩
  ·obtain ⟨q1, q2⟩ := p.env0 t x h2 (fun j o r1 r2 r3 => h1 j o r1 (by have := p.bound j r2; omega) r3)
   refine ⟨q1, ?_⟩;have := q2.ext0 (p.cutUp T (Nat.le_refl _) p.mM.1 (Nat.le_refl _));rwa [hcut] at this
  ·obtain ⟨q1, y, q2, q3⟩ := p.envL j o t h1 (hall j (by omega)) h3 h4 (fun j' o' r1 r2 r3 => h5 j' o' r1 (by have := p.bound j' r2; omega) r3)
   rw [h6] at q2; injection q2 with q2; subst q2;refine ⟨q1, ?_⟩;have := q3.ext0 (p.cutUp T (by omega) (show j + 1 <= M by omega) (Nat.le_refl _));rwa [hcut] at this
 ·rw [hto.1] at hx
  obtain ⟨arr, T', r1, r2, r3, r4, r5⟩ := p.loc d xs hx;refine ⟨arr, T', r1, r2, r3, fun i x hi => ?_, r5⟩
  have := (r4 i x hi).ext0 (p.cutUp T (Nat.le_refl _) p.mM.1 (Nat.le_refl _));rwa [hcut] at this
 ·rw [hto.1] at h h'
  exact p.linj d d' xs xs' h h'
end
variable {P : Program} {C : dO} {Γ Γ0 : aX} {base n0 f : Nat} {β : Nat -> Nat} {s s' : St} {a : Act} {o : Oper} {K : Callee}
variable {ops : Array Oper} {st : Nat -> St} {lo n m M : Nat} {L : Array Bool}
theorem aw {L : Array Bool} {i j : Nat} (hi : i < L.size) : bN (L.setIfInBounds i true) j ↔ j = i \/ bN L j := by
 unfold bN
 by_cases e : i = j
 ·subst e
  simp [Array.getD_eq_getD_getElem?, hi]
 ·have : ¬ j = i := fun h => e h.symm
  simp [Array.getD_eq_getD_getElem?, Array.getElem?_setIfInBounds_ne e, this]
theorem tI {a : Act} {d : Option Tmp} {v : Value} {t : Nat} (h : d ≠ some t) : (a.put d v).tmps.getD t undef = a.tmps.getD t undef := by
 cases d with
 | none => rfl
 | some d =>
  have : ¬ d = t := fun e => h (by rw [e])
  simp [Act.put, Array.getD_eq_getD_getElem?, this]
theorem CP {a : Act} {v : Value} {t : Nat} (h : t < a.tmps.size) : (a.put (some t) v).tmps.getD t undef = v := by
 simp [Act.put, Array.getD_eq_getD_getElem?, h]
theorem PR.merge (T : Tr C K f ops st) (p : PR ops st base n0 lo Γ0 n m M L Γ β a) (hok : cI ops = true) (hL : L.size = ops.size) (hcl : dW ops L) {i : Nat} (hi : ops[i]? = some o) (h1 : m <= i) (h2 : i < M) (hni : ¬ bN L i)
  (hdst : ∀ t, o.dst = some t -> t < n) {Γ' : aX} (hx : cA (len st i) (fun _ => False) (Γ.cut (len st i)) Γ') (hI : dM base Γ') (hH : Γ'.H = (st (i + 1)).heap) {x : co} {v : Value} (hv : jc Γ' β x v) (hlook : ∀ t, o.dst = some t -> look (st (i + 1)).env t = some x) :
  ∃ Γ'', Γ''.w = Γ'.w /\ PR ops st base n0 lo Γ0 n m M (L.setIfInBounds i true) Γ'' β (a.put o.dst v) := by
 have hlenM : Γ.H.length = len st M := by rw [p.H]; rfl
 have hM := p.mM;have hiN : i < ops.size := by omega
 have mono1 := p.mono T h1 (Nat.le_succ i) h2;have monoM := p.mono T (show m <= i + 1 by omega) h2 (Nat.le_refl _);have mono0 := p.mono T (Nat.le_refl m) h1 (Nat.le_of_lt h2);have hiL : len st i <= Γ.H.length := by rw [hlenM]; exact Nat.le_trans mono1.1 monoM.1
 have hcutlen : (Γ.cut (len st i)).H.length = len st i := by simp [aX.cut]; omega
 have hlen' : Γ'.H.length = len st (i + 1) := by rw [hH]; rfl
 have hHM : ∀ id, id < len st (i + 1) -> Γ.H[id]? = Γ'.H[id]? := fun id hid => by
  rw [p.H, monoM.2 id hid, hH]
 have F1 : ∀ id, id < len st i -> Γ'.ρ id = Γ.ρ id := fun id hid => by
  have := (hx.barrier id hid (by rw [hcutlen]; exact hid)).2.1;rw [this];simp only [aX.cut, if_pos hid]
 have F1' : ∀ id b, id < len st i -> Γ.ρ id = some b -> Γ'.w.heap[b]? = Γ.w.heap[b]? := fun id b hid hr =>
  (hx.barrier id hid (by rw [hcutlen]; exact hid)).2.2 b (gi.2 ⟨hid, hr⟩) (p.dom id b hr).2.1
 have Fkeep : ∀ b, b < Γ.w.heap.size -> (∀ id, id < len st i -> Γ.ρ id ≠ some b) -> Γ'.w.heap[b]? = Γ.w.heap[b]? := fun b hb hn =>
  hx.keep b hb (fun id e => hn id (gi.1 e).1 (gi.1 e).2) (fun e => e)
 have F3 : ∀ id, len st i <= id -> id < len st (i + 1) -> Γ.ρ id = none := p.absent i h1 h2 hni;have F4 : ∀ id b, len st i <= id -> Γ'.ρ id = some b -> Γ.w.heap.size <= b := fun id b hid hr => by
  rcases hx.fresh id b hr with ⟨id0, e⟩ | e
  ·rw [gi] at e
   have := hI.inj id id0 b hr (by rw [F1 id0 e.1]; exact e.2);omega
  ·exact e
 have F5 : ∀ id b, Γ.ρ id = some b -> Γ'.w.heap[b]? = Γ.w.heap[b]? := fun id b hr => by
  rcases Nat.lt_or_ge id (len st i) with h | h
  ·exact F1' id b h hr
  ·exact Fkeep b (p.dom id b hr).2.1 fun id' hid' e => by
    have := p.inj id id' b hr e; omega
 have FS : ∀ b, Γ'.S b -> Γ.S b \/ Γ.w.heap.size <= b := fun b hb => by
  rcases hx.stabN b hb with e | ⟨id, e⟩ | e
  ·exact .inl e
  ·rw [gi] at e
   exact absurd hb (hI.dom id b (by rw [F1 id e.1]; exact e.2)).2.2.2
  ·exact .inr e
 have FSt : ∀ b, Γ.S b -> Γ'.S b /\ Γ'.w.heap[b]? = Γ.w.heap[b]? := fun b hb =>
  ⟨hx.stab b hb, Fkeep b (p.stab b hb) fun id _ e => (p.dom id b e).2.2.2 hb⟩
 let Γ2 : aX := { H := Γ.H, ρ := fun id => if len st i <= id /\ id < len st (i + 1) then Γ'.ρ id else Γ.ρ id, S := Γ'.S, w := Γ'.w }
 have R1 : ∀ id, len st i <= id -> id < len st (i + 1) -> Γ2.ρ id = Γ'.ρ id := fun id q1 q2 => if_pos ⟨q1, q2⟩
 have R2 : ∀ id, ¬ (len st i <= id /\ id < len st (i + 1)) -> Γ2.ρ id = Γ.ρ id := fun id q => if_neg q
 have ex : ∀ k, k <= Γ.H.length -> pX (Γ.cut k) (Γ2.cut k) := fun k hk =>
  pX.cut (Nat.le_refl _) (Nat.le_refl _) hk (fun _ _ => rfl) (fun id _ => by
   by_cases q : len st i <= id /\ id < len st (i + 1)
   ·exact .inr (F3 id q.1 q.2)
   ·exact .inl (R2 id q)) hx.sizes FSt
 have ex' : ∀ k, i + 1 <= k -> k <= M -> pX Γ' (Γ2.cut (len st k)) := fun k q1 q2 => by
  have hk := p.mono T (show m <= i + 1 by omega) q1 q2;have hkM := p.mono T (show m <= k by omega) q2 (Nat.le_refl _);refine ⟨?_, fun id o hid h => ?_, fun id hid => .inl ?_, fun _ arr _ fr h => ⟨arr, fr, h, rfl⟩, fun _ h => ⟨h, rfl⟩⟩
  ·simp only [aX.cut, List.length_take]; rw [hlen']; show _ <= min _ Γ.H.length; omega
  ·rw [u9] at h
   rw [<- hHM id (by omega)]; exact h.2
  ·rw [hlen'] at hid
   show (if id < len st k then Γ2.ρ id else none) = _;rw [if_pos (by omega)];rcases Nat.lt_or_ge id (len st i) with q | q
   ·rw [R2 id (by omega), F1 id q]
   ·exact R1 id q hid
 have hk0 : ∀ k, m <= k -> k <= M -> len st k <= Γ.H.length := fun k q1 q2 => by rw [hlenM]; exact (p.mono T q1 q2 (Nat.le_refl _)).1
 have hsz : Γ.w.heap.size <= Γ'.w.heap.size := hx.size;have hord : ∀ j o' t, bN L j -> i < j -> ops[j]? = some o' -> o'.dst = some t -> o.dst ≠ some t := fun j o' t hj hij ho' hd hd' => by
  rcases d8 hok ho' hi (by omega) hd' (List.mem_append_left _ (List.mem_append_left _ (by rw [hd]; exact Option.mem_toList.2 rfl))) with ⟨_, hb⟩ | ⟨q, _⟩
  ·refine hni (b8 hok hcl hL j o' ho' (hcl j o' ho' ?_) i hb)
   have hj' := hj;unfold bN at hj';rw [Array.getD_eq_getD_getElem?] at hj' ⊢;cases hh : L[j]? with
   | none => rw [hh] at hj'; cases hj'
   | some w => rw [hh] at hj'; simpa using hj'
  ·omega
 refine ⟨Γ2, rfl,
  {mM := p.mM, pre := fun j hj => (aw (by omega)).2 (.inr (p.pre j hj)), bound := fun j hj => by
    rcases (aw (by omega)).1 hj with e | e
    ·omega
    ·exact p.bound j e
   light := p.light, H := p.H
   dom := fun id b hr => ?_
   inj := fun id id' b hr hr' => ?_
   objs := fun k q1 q2 id b o2 hid hr ho2 => ?_
   stab := hI.stab
   absent := fun j q1 q2 hnj id r1 r2 => ?_
   env0 := fun t y hy hn => ?_
   envL := fun j o' t q1 q2 q3 q4 q5 => ?_
   sz := ⟨p.sz.1, Nat.le_trans p.sz.2 hsz⟩
   loc := fun d xs hxs => ?_
   linj := p.linj
   marks := ?_
   g0 := p.g0
   went := ?_
   asz := (bO _ _ _).trans p.asz
   lo' := p.lo' }⟩
 ·by_cases q : len st i <= id /\ id < len st (i + 1)
  ·rw [R1 id q.1 q.2] at hr
   obtain ⟨r1, r2, r3, r4⟩ := hI.dom id b hr;exact ⟨by show id < Γ.H.length; rw [hlenM]; have := monoM.1; omega, r2, r3, r4⟩
  ·rw [R2 id q] at hr
   obtain ⟨r1, r2, r3, r4⟩ := p.dom id b hr;refine ⟨r1, by show b < Γ'.w.heap.size; omega, r3, fun hs => ?_⟩
   rcases FS b hs with e | e
   ·exact r4 e
   ·omega
 ·by_cases q : len st i <= id /\ id < len st (i + 1) <;> by_cases q' : len st i <= id' /\ id' < len st (i + 1)
  ·rw [R1 id q.1 q.2] at hr
   rw [R1 id' q'.1 q'.2] at hr';exact hI.inj id id' b hr hr'
  ·rw [R1 id q.1 q.2] at hr
   rw [R2 id' q'] at hr';have := F4 id b q.1 hr;have := (p.dom id' b hr').2.1;omega
  ·rw [R2 id q] at hr
   rw [R1 id' q'.1 q'.2] at hr';have := F4 id' b q'.1 hr';have := (p.dom id b hr).2.1;omega
  ·rw [R2 id q] at hr
   rw [R2 id' q'] at hr';exact p.inj id id' b hr hr'
 ·by_cases q : len st i <= id /\ id < len st (i + 1)
  ·rw [R1 id q.1 q.2] at hr
   have hki : i + 1 <= k := by
    rcases Nat.lt_or_ge i k with h | h
    ·exact h
    ·have := (p.mono T q1 h (by omega)).1; omega
   have ho3 : Γ'.H[id]? = some o2 := by rw [<- hHM id q.2]; exact ho2
   obtain ⟨ob, r1, r2⟩ := eT.of hI hr ho3;exact ⟨ob, r1, r2.ext0 (ex' k hki q2)⟩
  ·rw [R2 id q] at hr
   obtain ⟨ob, r1, r2⟩ := p.objs k q1 q2 id b o2 hid hr ho2;exact ⟨ob, (F5 id b hr).trans r1, r2.ext0 (ex _ (hk0 k q1 q2))⟩
 ·have hji : j ≠ i := fun e => hnj ((aw (by omega)).2 (.inl e))
  have hnj' : ¬ bN L j := fun e => hnj ((aw (by omega)).2 (.inr e))
  have hout : ¬ (len st i <= id /\ id < len st (i + 1)) := by
   rcases Nat.lt_or_ge j i with h | h
   ·have := (p.mono T (show m <= j + 1 by omega) h (by omega)).1; omega
   ·have := (p.mono T (show m <= i + 1 by omega) (show i + 1 <= j by omega) (by omega)).1; omega
  rw [R2 id hout];exact p.absent j q1 q2 hnj' id r1 r2
 ·have hd : o.dst ≠ some t := hn i o h1 ((aw (by omega)).2 (.inl rfl)) hi
  obtain ⟨r1, r2⟩ := p.env0 t y hy (fun j o' q1 q2 q3 => hn j o' q1 ((aw (by omega)).2 (.inr q2)) q3);rw [tI hd];exact ⟨r1, r2.ext0 (ex _ (hk0 m (Nat.le_refl _) hM.1))⟩
 ·rcases (aw (by omega)).1 q2 with e | e
  ·subst e
   rw [hi] at q3; injection q3 with q3; subst q3;have ht := hdst t q4;refine ⟨ht, x, hlook t q4, ?_⟩;rw [q4, CP (by rw [p.asz]; exact ht)];exact hv.ext0 (ex' (j + 1) (Nat.le_refl _) h2)
  ·have hd : o.dst ≠ some t := by
    rcases Nat.lt_trichotomy i j with h | h | h
    ·exact hord j o' t e h q3 q4
    ·exact absurd (h ▸ e) hni
    ·exact q5 i o h ((aw (by omega)).2 (.inl rfl)) hi
   obtain ⟨r1, y, r2, r3⟩ := p.envL j o' t q1 e q3 q4 (fun j' o2 k1 k2 k3 => q5 j' o2 k1 ((aw (by omega)).2 (.inr k2)) k3);have := p.bound j e;refine ⟨r1, y, r2, ?_⟩;rw [tI hd];exact r3.ext0 (ex _ (hk0 (j + 1) (by omega) (by omega)))
 ·obtain ⟨arr, T', r1, r2, r3, r4, r5, r6, r7⟩ := p.loc d xs hxs
  have hlt := dq r1;refine ⟨arr, T', (Fkeep _ hlt (fun id _ => r5 id)).trans r1, r2, r3, fun i x hi => (r4 i x hi).ext0 (ex _ (hk0 m (Nat.le_refl _) hM.1)), fun id e => ?_, fun e => ?_, r7⟩
  ·by_cases q : len st i <= id /\ id < len st (i + 1)
   ·rw [R1 id q.1 q.2] at e
    have := F4 id _ q.1 e; omega
   ·rw [R2 id q] at e; exact r5 id e
  ·rcases FS _ e with e | e
   ·exact r6 e
   ·omega
 ·obtain ⟨rs, k1, k2, k3⟩ := p.marks
  refine ⟨rs, ?_, k2, fun r hr => ?_⟩
  ·rw [<- k1]; cases o.dst <;> rfl
  ·obtain ⟨r1, r5, r6, r7⟩ := k3 r hr
   have hlt := dq r1;refine ⟨(Fkeep _ hlt (fun id _ => r5 id)).trans r1, fun id e => ?_, fun e => ?_, r7⟩
   ·by_cases q : len st i <= id /\ id < len st (i + 1)
    ·rw [R1 id q.1 q.2] at e
     have := F4 id _ q.1 e; omega
    ·rw [R2 id q] at e; exact r5 id e
   ·rcases FS _ e with e | e
    ·exact r6 e
    ·omega
 ·have hout : ∀ id, id < Γ0.H.length -> Γ2.ρ id = Γ.ρ id := fun id hid => R2 id (by have := p.g0; have := mono0.1; omega)
  have hw := p.went;have hfr : ∀ b, (∃ id, Γ.ρ id = some b) -> (∃ id0, Γ0.ρ id0 = some b) \/ Γ0.w.heap.size <= b := fun b ⟨id, e⟩ => hw.fresh id b e
  exact
   {len := hw.len
    cells := fun id T2 xs' hid h => by
     obtain ⟨xs, r1, r2⟩ := hw.cells id T2 xs' hid h;refine ⟨xs, r1, r2.imp (fun h => h) fun r2 => ⟨r2.1, ?_⟩⟩
     rw [hout id hid]; exact r2.2
    map := fun id es' hid h => by
     obtain ⟨es, r1, r2⟩ := hw.map id es' hid h;exact ⟨es, r1, by rw [hout id hid]; exact r2⟩
    loop := fun id r' hid h => by
     obtain ⟨es, r1, r2⟩ := hw.loop id r' hid h;exact ⟨es, r1, by rw [hout id hid]; exact r2⟩
    absent := fun id hid h => by rw [hout id hid]; exact hw.absent id hid h
    barrier := fun id hl hid => by
     obtain ⟨r1, r2, r3⟩ := hw.barrier id hl hid;refine ⟨r1, by rw [hout id hid]; exact r2, fun b hb hlt => ?_⟩
     rw [<- r3 b hb hlt];exact F5 id b (by rw [r2]; exact hb)
    sizes := fun b arr T2 fr h => by
     obtain ⟨a1, f1, r1, r2⟩ := hw.sizes b arr T2 fr h;obtain ⟨a2, f2, r3, r4⟩ := hx.sizes b a1 T2 f1 r1;exact ⟨a2, f2, r3, r4.trans r2⟩
    keep := fun b hb hr hn => by
     rw [<- hw.keep b hb hr hn];refine Fkeep b (Nat.lt_of_lt_of_le hb hw.size) fun id _ e => ?_
     rcases hw.fresh id b e with ⟨id0, e0⟩ | e0
     ·exact hr id0 e0
     ·omega
    fresh := fun id b e => by
     by_cases q : len st i <= id /\ id < len st (i + 1)
     ·rw [R1 id q.1 q.2] at e
      have := F4 id b q.1 e; have := hw.size; right; omega
     ·rw [R2 id q] at e; exact hw.fresh id b e
    stab := fun b hb => (FSt b (hw.stab b hb)).1
    stabN := fun b hb => by
     rcases FS b hb with e | e
     ·exact hw.stabN b e
     ·have := hw.size; right; right; omega
    size := Nat.le_trans hw.size hsz
    os := hx.os.trans hw.os
    tape := hx.tape.trans hw.tape
    output := hx.output.trans hw.output }
variable {P : Program} {C : dO} {Γ Γ0 : aX} {base n0 f : Nat} {β : Nat -> Nat} {s s' : St} {a : Act} {o : Oper} {K : Callee}
variable {ops : Array Oper}
theorem Bq {w w' : World} {b j : Nat} (h : w'.heap[b]? = w.heap[b]?) : w'.cell? ((⟨b, 0, none⟩ : Addr).add j) = w.cell? ((⟨b, 0, none⟩ : Addr).add j) := by
 rw [lx, Nat.zero_add];unfold World.cell?;dsimp only;rw [h]
theorem CQ {t : Nat} {ti : TI} {w w' : World} (h : dS P t ti) (ad : Addr) (g : Nat -> Value) {xs : List AV} (hc : ∀ (j : Nat) (x : AV), xs[j]? = some x -> w.cell? (ad.add j) = some (g j) /\ w'.cell? (ad.add j) = some (g j))
  (off : Nat) {r : AV} (hp : part ti xs off = some r) : ∃ v, (loadVar t (ad.add off)).run P w = .ok v w /\ (loadVar t (ad.add off)).run P w' = .ok v w' := by
 unfold part at hp
 split at hp
 ·rename_i hk
  split at hp
  ·rename_i hle
   have hget : ∀ j, j < ti.sz -> ∃ x, xs[off + j]? = some x := fun j hj => ⟨_, List.getElem?_eq_getElem (by omega)⟩
   refine ⟨.agg ((List.range ti.sz).map fun j => g (off + j)).toArray, ?_, ?_⟩
   ·unfold loadVar
    simp only [Sem.run_bind, h.run_agg, Result.andThen_ok, hk, if_true, h.run_size];rw [run_loadCells w (ad.add off) ti.sz (fun j => g (off + j)) (fun j hj => by
     obtain ⟨x, hx⟩ := hget j hj;rw [jY]; exact (hc _ x hx).1)]
    rfl
   ·unfold loadVar
    simp only [Sem.run_bind, h.run_agg, Result.andThen_ok, hk, if_true, h.run_size];rw [run_loadCells w' (ad.add off) ti.sz (fun j => g (off + j)) (fun j hj => by
     obtain ⟨x, hx⟩ := hget j hj;rw [jY]; exact (hc _ x hx).2)]
    rfl
  ·cases hp
 ·rename_i hk
  have hx := hc off r hp;refine ⟨g off, ?_, ?_⟩
  ·unfold loadVar
   simp only [Sem.run_bind, h.run_agg, Result.andThen_ok, hk, Bool.false_eq_true, if_false, run_load, hx.1]
  ·unfold loadVar
   simp only [Sem.run_bind, h.run_agg, Result.andThen_ok, hk, Bool.false_eq_true, if_false, run_load, hx.2]
theorem tJ {w w' : World} {v : Value} {ok : Oper} (hk : (∃ x, ok.op = .move x) \/ ∃ x i, ok.op = .extract x i) (h : (execOp a.eval ok).run P w = .ok (.value v) w) : (execOp a.eval ok).run P w' = .ok (.value v) w' := by
 rcases hk with ⟨x, ho⟩ | ⟨x, i, ho⟩
 ·have e : execOp a.eval ok = pure (.value (a.eval x)) := by unfold execOp; rw [ho]
  rw [e, Sem.run_pure] at h ⊢;injection h with h1 h2;rw [h1]
 ·unfold execOp at h ⊢
  rw [ho] at h ⊢;dsimp only at h ⊢;unfold Instr.extract at h ⊢;cases hx : a.eval x <;> rw [hx] at h <;> first | (cases h; done) | skip
  rename_i vs;dsimp only at h ⊢;cases hi : vs[i]? with
  | none => rw [hi] at h; cases h
  | some u =>
   rw [hi] at h;simp only [Sem.run_bind, Sem.run_pure, Result.andThen_ok] at h ⊢;injection h with h1 h2;rw [h1]
theorem tK (hT : ck P C.tab) (R : aZ base n0 Γ β s a) {ok : Oper} {t : TypeId} {x : Operand} {d off : Nat} {ti : TI} {xs : List AV} {r : AV} {w' : World} (ho : ok.op = .load t x) (hx : s.slot x = some (.p d off)) (ht : look C.tab t = some ti)
  (hl : look s.loc d = some xs) (hp : part ti xs off = some r) (hw : w'.heap[β d]? = Γ.w.heap[β d]?) : ∃ v, (execOp a.eval ok).run P Γ.w = .ok (.value v) Γ.w /\ (execOp a.eval ok).run P w' = .ok (.value v) w' := by
 obtain ⟨g, h1, h2⟩ := R.locCells hl;obtain ⟨v, q1, q2⟩ := CQ (w := Γ.w) (w' := w') (hT t ti ht) _ g (fun j x hj => ⟨(h2 j x hj).1, by rw [Bq hw]; exact (h2 j x hj).1⟩) off hp;rw [eV] at q1 q2;have hv : a.eval x = .pointer (some ⟨β d, off, none⟩) := R.slot hx;refine ⟨v, ?_, ?_⟩
 ·unfold execOp
  rw [ho];simp [hv, Instr.loadAt, Instr.sureAddr, q1]
 ·unfold execOp
  rw [ho];simp [hv, Instr.loadAt, Instr.sureAddr, q2]
theorem yV (hT : ck P C.tab) (R : aZ base n0 Γ β s a) {t : TypeId} {x y : Operand} (ho : o.op = .store t x y) (h : aE C K f o s = some s') :
  ∃ b w', (execOp a.eval o).run P Γ.w = .ok .skip w' /\ (∀ b', b' ≠ b -> w'.heap[b']? = Γ.w.heap[b']?) /\
   ((∃ d off xs, s.slot x = some (.p d off) /\ b = β d /\ look s.loc d = some xs) \/ ((∀ d off, s.slot x ≠ some (.p d off)) /\ ∃ id, Γ.ρ id = some b)) := by
 unfold aE at h;rw [ho] at h;dsimp only at h;have key : ∀ (b off : Nat) (arr : Array Value) (T : TypeId) (ti : TI) (yv : AV) (ys : List AV), look C.tab t = some ti -> a.eval x = .pointer (some ⟨b, off, none⟩) -> Γ.w.heap[b]? = some (.cells arr T (0, 0)) -> s.val y = some yv -> cellsOf yv = some ys -> ys.length = ti.sz -> off + ti.sz <= arr.size ->
   ∃ w', (execOp a.eval o).run P Γ.w = .ok .skip w' /\ (∀ b', b' ≠ b -> w'.heap[b']? = Γ.w.heap[b']?) := fun b off arr T ti yv ys ht hv hb hy hc c1 c2 => by
  have hst := kR (w := Γ.w) (off := off) (hT _ _ ht) hb (R.val hy) hc c1 c2;refine ⟨{ Γ.w with heap := Γ.w.heap.setIfInBounds b (.cells (arr.toList.take off ++ (a.eval y).cells.toList ++ arr.toList.drop (off + ys.length)).toArray T (0, 0)) }, ?_, ?_⟩
  ·unfold execOp
   rw [ho];dsimp only;have : (Instr.storeAt t (a.eval x) (a.eval y)) = storeVar t ⟨b, off, none⟩ (a.eval y) := by
    rw [hv];unfold Instr.storeAt Instr.sureAddr;rw [pure_bind]
   rw [this, Sem.run_bind, hst]
   rfl
  ·exact fun b' hne => aG (Ne.symm hne)
 split at h
 ·rename_i ti d off ys ht hx hy
  split at h
  ·rename_i xs hloc
   split at h
   ·rename_i hc
    obtain ⟨c1, c2⟩ := hc;obtain ⟨arr, T, g1, g2, g3, g4, g5⟩ := R.loc d xs hloc;obtain ⟨yv, hyv, hyc⟩ := Option.bind_eq_some_iff.1 hy;obtain ⟨w', q1, q2⟩ := key _ _ _ _ _ _ _ ht (R.slot hx) g1 hyv hyc c1 (by omega);exact ⟨_, w', q1, q2, .inl ⟨d, off, xs, hx, rfl, hloc⟩⟩
   ·cases h
  ·cases h
 ·rename_i ti id n off ys ht hx hy
  split at h
  ·rename_i e xs hH
   split at h
   ·rename_i hc
    obtain ⟨c1, c2, c3, c4⟩ := hc;rw [<- R.heap] at hH;obtain ⟨b, hb, hv⟩ := uX (R.slot hx) hH c2;obtain ⟨arr, h1, h2, h3, h4⟩ := R.inv.cells id b e xs hb hH;obtain ⟨yv, hyv, hyc⟩ := Option.bind_eq_some_iff.1 hy;obtain ⟨w', q1, q2⟩ := key _ _ _ _ _ _ _ ht hv h1 hyv hyc c3 (by omega);exact ⟨b, w', q1, q2, .inr ⟨fun d off e => (by rw [hx] at e; cases e), id, hb⟩⟩
   ·cases h
  ·cases h
 ·cases h
def gr {α : Type} (P : Program) (m : Sem α) : Prop := (∃ v, ∀ w, m.run P w = .ok v w) \/ ∃ x, (∀ v, x ≠ Halt.panic v) /\ ∀ w, m.run P w = .halt x w
theorem gr.pure {α : Type} (v : α) : gr P (Pure.pure v : Sem α) := .inl ⟨v, fun _ => rfl⟩
theorem gr.bind {α γ : Type} {m : Sem α} {k : α -> Sem γ} (h : gr P m) (hk : ∀ v, gr P (k v)) : gr P (m >>= k) := by
 rcases h with ⟨v, h⟩ | ⟨x, hx, h⟩
 ·rcases hk v with ⟨u, g⟩ | ⟨x, hx, g⟩
  ·exact .inl ⟨u, fun w => by simp only [Sem.run_bind, h, Result.andThen_ok, g]⟩
  ·exact .inr ⟨x, hx, fun w => by simp only [Sem.run_bind, h, Result.andThen_ok, g]⟩
 ·exact .inr ⟨x, hx, fun w => by simp only [Sem.run_bind, h]; rfl⟩
theorem gr.stuck {α : Type} (s : String) : gr P (Go.stuck s : Sem α) := .inr ⟨.stuck s, fun _ => nofun, fun _ => rfl⟩
theorem oD (t : TypeId) : gr P (typeInfo t) := by
 cases h : P.info? t with
 | some i => exact .inl ⟨i, fun w => by simp [typeInfo, h]⟩
 | none => exact .inr ⟨.stuck "no such type", fun _ => nofun, fun w => by simp [typeInfo, h]⟩
theorem yW (t : TypeId) : gr P (underlying t) := by
 cases h : P.underlying t with
 | some i => exact .inl ⟨i, fun w => by simp [underlying, h]⟩
 | none => exact .inr ⟨.stuck "no such type", fun _ => nofun, fun w => by simp [underlying, h]⟩
theorem tL {α γ : Type} {F : α -> Sem γ} (h : ∀ x, gr P (F x)) : ∀ l : List α, gr P (l.mapM F)
 | [] => by rw [List.mapM_nil]; exact gr.pure _
 | x :: l => by
  rw [List.mapM_cons];exact (h x).bind fun v => (tL h l).bind fun _ => gr.pure _
theorem yX (t : TypeId) (ps : Array (Nat × Value)) : gr P (Instr.build t ps) := by
 unfold Instr.build zeroValue;refine ((oD t).bind fun i => ?_).bind fun z => (yW t).bind fun d => ?_
 ·split
  ·exact gr.pure _
  ·refine .inr ⟨_, ?_, fun _ => rfl⟩
   intro v h; cases h
 ·split
  ·refine gr.bind ?_ fun places => ?_
   ·rw [Array.mapM_eq_mapM_toList]
    rcases tL (P := P) (F := fun f : Field => do pure (f.offset, <- sizeOf f.type)) (fun f => ((oD _).bind fun i => gr.pure _).bind fun _ => gr.pure _) _ with ⟨v, h⟩ | ⟨x, hx, h⟩
    ·exact .inl ⟨_, fun w => by rw [Sem.run_map, h]; rfl⟩
    ·exact .inr ⟨x, hx, fun w => by rw [Sem.run_map, h]; rfl⟩
   ·split
    ·exact gr.pure _
    ·exact gr.stuck _
  ·refine gr.bind ((oD _).bind fun i => gr.pure _) fun s => ?_
   split
   ·exact gr.pure _
   ·exact gr.stuck _
  ·exact gr.stuck _
theorem vc {ρ : Operand -> Value} (h : iI o = true) : (∃ v, ∀ w, (execOp ρ o).run P w = .ok (.value v) w) \/ ∃ x, (∀ v, x ≠ Halt.panic v) /\ ∀ w, (execOp ρ o).run P w = .halt x w := by
 unfold iI at h;rw [Bool.and_eq_true] at h;have h := h.2;unfold execOp;cases ho : o.op <;> rw [ho] at h <;> first | (simp at h; done) | skip
 case move x => exact .inl ⟨_, fun _ => rfl⟩
 case build t ps =>
  rcases yX (P := P) t (ps.map fun x => (x.1, ρ x.2)) with ⟨v, h⟩ | ⟨x, hx, h⟩
  ·exact .inl ⟨v, fun w => by
    have := h w;simp only [Sem.run_bind]
    erw [this]; rfl⟩
  ·exact .inr ⟨x, hx, fun w => by
    have := h w;simp only [Sem.run_bind]
    erw [this]; rfl⟩
theorem wv (hT : ck P C.tab) (R : aZ base n0 Γ β s a) {ok : Oper} (hk : im ok = true) (hs : et o = true) (hot : qv C ok o s = true) (h : aE C K f o s = some s') {v : Value}
  (hv : (execOp a.eval ok).run P Γ.w = .ok (.value v) Γ.w) : ∃ u w', je P o a Γ.w w' u /\ (execOp a.eval ok).run P w' = .ok (.value v) w' := by
 unfold et at hs;rw [Bool.and_eq_true] at hs;have hs := hs.2;unfold im at hk;simp only [Bool.and_eq_true] at hk;have fin : ∀ u w', je P o a Γ.w w' u -> (∀ (t2 : TypeId) (x2 : Operand), ok.op = .load t2 x2 -> (execOp a.eval ok).run P w' = .ok (.value v) w') -> ∃ u w', je P o a Γ.w w' u /\ (execOp a.eval ok).run P w' = .ok (.value v) w' := fun u w' q1 q2 => by
  refine ⟨u, w', q1, ?_⟩;cases hko : ok.op <;> rw [hko] at hk <;> first | (simp at hk; done) | skip
  case move => exact tJ (.inl ⟨_, hko⟩) hv
  case extract => exact tJ (.inr ⟨_, _, hko⟩) hv
  case load t2 x2 => exact q2 _ _ hko
 cases ho : o.op <;> rw [ho] at hs <;> first | (simp at hs; done) | skip
 case store t x y =>
  obtain ⟨b, w', q1, q2, q3⟩ := yV hT R ho h;refine fin undef w' (.inr ⟨q1, rfl⟩) fun t2 x2 hko => ?_
  unfold qv at hot;rw [hko, ho] at hot;dsimp only at hot
  split at hot
  ·rename_i d off sl ti e1 e2 e3
   simp only [Bool.and_eq_true] at hot;obtain ⟨r1, r2⟩ := hot
   split at r1
   ·rename_i xs hl
    obtain ⟨r, hr⟩ := Option.isSome_iff_exists.1 r1;have hb : β d ≠ b := by
     rcases q3 with ⟨d', off', xs', k1, k2, k3⟩ | ⟨k1, id, k2⟩
     ·rw [k1] at e2; injection e2 with e2; subst e2
      dsimp only at r2;intro e;have := R.linj d d' xs xs' hl k3 (e.trans k2);rw [this] at r2; simp at r2
     ·intro e
      obtain ⟨arr, T, g1, g2, g3, g4, g5, g6⟩ := R.loc d xs hl;exact g5 id (e ▸ k2)
    obtain ⟨v2, u1, u2⟩ := tK hT R hko e1 e3 hl hr (q2 _ hb);rw [hv] at u1;injection u1 with u1; injection u1 with u1;rw [u1]; exact u2
   ·cases r1
  ·cases hot
 case call c =>
  have hc : c.callee = .builtin .append := by
   have := (Bool.and_eq_true_iff.1 hs).2;unfold Gi at this
   split at this
   ·assumption
   ·cases this
  obtain ⟨u, w', q1, Γ', x, e1, hext, _, _, _⟩ := nc hT R ho hc h;subst e1;refine fin u _ q1 fun t2 x2 hko => ?_
  unfold qv at hot;rw [hko, ho] at hot;dsimp only at hot
  split at hot
  ·rename_i d off ti e1 e3
   split at hot
   ·rename_i xs hl
    obtain ⟨r, hr⟩ := Option.isSome_iff_exists.1 hot;obtain ⟨arr, T, g1, g2, g3, g4, g5, g6⟩ := R.loc d xs hl;obtain ⟨v2, u1, u2⟩ := tK hT R hko e1 e3 hl hr (hext.keep _ (dq g1) g5 (fun e => e));rw [hv] at u1;injection u1 with u1; injection u1 with u1;rw [u1]; exact u2
   ·cases hot
  ·cases hot
def eO (ops : Array Oper) (j i : Nat) : Bool := if j < i then ((cR ops).getD i 0).testBit j else ((cR ops).getD j 0).testBit i
theorem qW {i : Nat} (hn : io C ops (cR ops) o i s = true) : ∃ k ok, ops[k]? = some ok /\ k < i /\ im ok = true /\ qv C ok o s = true /\ et o = true /\
  (∀ j, j < ops.size -> j ≠ i -> j ≠ k -> eO ops j i = true) /\ eO ops k i = false /\ ∀ j, i < j -> j < ops.size -> ((cR ops).getD j 0).testBit k = true \/ ∃ oj, ops[j]? = some oj /\ iI oj = true /\ ok.apart ops oj = true := by
 unfold io at hn;rw [Bool.and_eq_true] at hn;obtain ⟨h1, h3⟩ := hn
 split at h3
 ·rename_i k hk
  simp only [Bool.and_eq_true, decide_eq_true_eq] at h3;obtain ⟨h4, h6⟩ := h3
  split at h6
  ·rename_i ok hok
   simp only [Bool.and_eq_true] at h6;obtain ⟨h6, h5⟩ := h6;have mem : ∀ j, j ∈ ES (cR ops) ops.size i ↔ j = k := fun j => by rw [hk]; simp
   refine ⟨k, ok, hok, h4, h6.1, h6.2, h1, fun j q1 q2 q3 => ?_, ?_, fun j q1 q2 => ?_⟩
   ·cases hh : eO ops j i with
    | true => rfl
    | false =>
     refine absurd ((mem j).1 ?_) q3;unfold ES;rw [List.mem_filter];refine ⟨List.mem_range.2 q1, ?_⟩;unfold eO at hh;have e2 : (j == i) = false := by simpa using q2
     rw [e2, Bool.false_or, hh]
     rfl
   ·have := (mem k).2 rfl
    unfold ES at this;rw [List.mem_filter] at this;have h7 := this.2;unfold eO;simp only [Bool.not_eq_true', Bool.or_eq_false_iff] at h7;exact h7.2
   ·have := List.all_eq_true.1 h5 j (List.mem_range.2 q2)
    simp only [Bool.or_eq_true, decide_eq_true_eq] at this;rcases this with (h | h) | h
    ·omega
    ·exact .inl h
    ·split at h
     ·rename_i oj hoj
      rw [Bool.and_eq_true] at h;exact .inr ⟨oj, hoj, h⟩
     ·cases h
  ·cases h6
 ·cases h3
variable {P : Program} {C : dO} {Γ Γ0 : aX} {base n0 f : Nat} {β : Nat -> Nat} {s s' : St} {a : Act} {o : Oper} {K : Callee}
variable {ops : Array Oper} {st : Nat -> St} {lo n m M : Nat} {L : Array Bool}
theorem kg {α : Type} (env : List (Nat × α)) : ∀ (l : List Nat) (t : Nat), look (gI l env) t = if t ∈ l then look env t else none
 | [], t => by simp [gI, look]
 | k :: l, t => by
  have ih := kg env l t;unfold gI at ih ⊢;cases hk : look env k with
  | none =>
   simp only [List.filterMap_cons, hk, Option.map_none];rw [ih]
   by_cases e : t = k
   ·subst e; simp [hk]
   ·simp [e]
  | some y =>
   simp only [List.filterMap_cons, hk, Option.map_some, bE]
   by_cases e : k = t
   ·subst e; simp [hk]
   ·rw [if_neg e, ih]
    have e' : ¬ t = k := fun h => e h.symm
    simp [e']
theorem pE {s : St} {lo' : Nat} : bG ops o { s with env := gI (cF ops o) s.env, lo := lo' } = bG ops o s := by
 unfold bG
 split
 ·rfl
 ·rename_i j want hg
  split
  ·rename_i d hd
   have : d ∈ cF ops o := by
    unfold cF;rw [hg];refine List.mem_append_right _ ?_;simp [hd]
   dsimp only;rw [kg, if_pos this]
  ·rfl
theorem Aq {j : Nat} (hL : L.size = ops.size) (h : bN L j) : j < ops.size := by
 unfold bN at h;rcases Nat.lt_or_ge j L.size with h' | h'
 ·omega
 ·rw [Array.getD_eq_getD_getElem?, Array.getElem?_eq_none h'] at h; cases h
theorem eW {j : Nat} (h : bN L j) : L.getD j true = true := by
 unfold bN at h;rw [Array.getD_eq_getD_getElem?] at h ⊢;cases hh : L[j]? with
 | none => rw [hh] at h; cases h
 | some w => rw [hh] at h; simpa using h
theorem jr {j : Nat} (h : L.getD j true = false) : ¬ bN L j := fun e => by
 rw [eW e] at h; cases h
theorem PR.relAt (T : Tr C K f ops st) (hok : cI ops = true) (hcl : dW ops L) (hL : L.size = ops.size)
  (p : PR ops st base n0 lo Γ0 n m M L Γ β a) {i : Nat} (hi : ops[i]? = some o) (h1 : m <= i) (h2 : i < M) (hni : ¬ bN L i) (hrdy : ∀ e, e ∈ o.after.toList -> Region.binds .any e = true -> L.getD e.on false = true) :
  (Γ.cut (len st i)).H = (st i).heap /\ aZ base n0 (Γ.cut (len st i)) β { st i with env := gI (cF ops o) (st i).env, lo := (st i).heap.length } a := by
 have hM := p.mM;have hlt := p.light i h1 h2;have hto := iu T h1 (by omega) (fun k q1 q2 => p.light k q1 (by omega));have htoM := iu T (Nat.le_of_lt h2) hM.2 (fun k q1 q2 => p.light k (by omega) q2);have hcutH : (Γ.cut (len st i)).H = (st i).heap := by
  obtain ⟨new, e⟩ := htoM.2.2.2.1;show Γ.H.take _ = _;rw [p.H, e];exact List.take_left' rfl
 refine ⟨hcutH, ?_⟩;refine { inv := p.invCut h1 (Nat.le_of_lt h2), sz := p.sz, heap := hcutH, env := fun t x hx => ?_, loc := fun d xs hx => ?_, linj := fun d d' xs xs' h h' => ?_, marks := ?_ }
 ·rw [p.asz]
  simp only [kg] at hx
  split at hx
  ·rename_i hmem
   obtain ⟨d, hd⟩ : ∃ d, i = m + d := ⟨i - m, by omega⟩
   have hne : ∀ j o', bN L j -> i < j -> ops[j]? = some o' -> o'.dst ≠ some t := fun j o' hj hij ho' hd' => by
    rcases d8 hok hi ho' (by omega) hd' hmem with ⟨q, _⟩ | ⟨_, hb⟩
    ·omega
    ·exact hni (b8 hok hcl hL j o' ho' (hcl j o' ho' (eW hj)) i hb)
   rw [hd] at hx;rcases k8 T d (by omega) (fun k q1 q2 => p.light k q1 (by omega)) hx with ⟨q1, q2⟩ | ⟨j, o', q1, q2, q3, q4, q5, q6⟩
   ·obtain ⟨r1, r2⟩ := p.env0 t x q2 (fun j o' k1 k2 k3 => by
     rcases Nat.lt_trichotomy j i with h | h | h
     ·exact q1 j o' k1 (by omega) k3
     ·exact absurd (h ▸ k2) hni
     ·exact hne j o' k2 h k3)
    exact ⟨r1, r2.ext0 (p.cutUp T (Nat.le_refl _) h1 (Nat.le_of_lt h2))⟩
   ·have hjL : bN L j := by
     rcases d8 hok hi q3 (by omega) q4 hmem with ⟨_, hb⟩ | ⟨q, _⟩
     ·exact b8 hok hcl hL i o hi hrdy j hb
     ·omega
    obtain ⟨r1, y, r2, r3⟩ := p.envL j o' t q1 hjL q3 q4 (fun j' o2 k1 k2 k3 => by
     rcases Nat.lt_trichotomy j' i with h | h | h
     ·exact q5 j' o2 k1 (by omega) k3
     ·exact absurd (h ▸ k2) hni
     ·exact hne j' o2 k2 h k3)
    rw [q6] at r2; injection r2 with r2; subst r2;exact ⟨r1, r3.ext0 (p.cutUp T (by omega) (show j + 1 <= i by omega) (Nat.le_of_lt h2))⟩
  ·cases hx
 ·rw [show ({ st i with env := gI (cF ops o) (st i).env, lo := (st i).heap.length } : St).loc = (st m).loc from hto.1] at hx
  obtain ⟨arr, T', r1, r2, r3, r4, r5, r6⟩ := p.loc d xs hx;exact ⟨arr, T', r1, r2, r3, fun k x hk => (r4 k x hk).ext0 (p.cutUp T (Nat.le_refl _) h1 (Nat.le_of_lt h2)), fun id e => r5 id (gi.1 e).2, r6⟩
 ·rw [show ({ st i with env := gI (cF ops o) (st i).env, lo := (st i).heap.length } : St).loc = (st m).loc from hto.1] at h h'
  exact p.linj d d' xs xs' h h'
 ·obtain ⟨rs, k1, k2, k3⟩ := p.marks
  exact ⟨rs, k1, k2, fun r hr => let ⟨r1, r2, r3⟩ := k3 r hr; ⟨r1, fun id e => r2 id (gi.1 e).2, r3⟩⟩
theorem qX (H : qb P C K) (T : Tr C K f ops st) (hok : cI ops = true) (hdst : dU n ops = true) (hL : L.size = ops.size) (hcl : dW ops L) {ro : Option Nat} {Q : Exit -> Act -> World -> Prop}
  (p : PR ops st base n0 lo Γ0 n m M L Γ β a) {i : Nat} (hi : ops[i]? = some o) (h1 : m <= i) (h2 : i < M) (hni : ¬ bN L i) (hrdy : ∀ e, e ∈ o.after.toList -> Region.binds .any e = true -> L.getD e.on false = true) :
  wpOpIn (Fw ro) 0 P ops Q i (fun a' w' => ∃ Γ'', Γ''.w = w' /\ PR ops st base n0 lo Γ0 n m M (L.setIfInBounds i true) Γ'' β a') a Γ.w := by
 have hM := p.mM;have hlt := p.light i h1 h2;have hdo := dh hdst hi;obtain ⟨hcutH, hR⟩ := p.relAt T hok hcl hL hi h1 h2 hni hrdy;unfold wpOpIn;simp only [hi];rcases T.step i o hi with ⟨hg, hs⟩ | ⟨_, ha, _⟩ | ⟨hg, _, hs⟩ | ⟨_, hnn, _⟩
 ·rw [<- pE (lo' := (st i).heap.length)] at hg
  rw [dx hR hg];simp only [Bool.false_eq_true, if_false];refine ⟨fun _ _ => trivial, ?_⟩
  refine p.merge T hok hL hcl hi h1 h2 hni hdo (cA.refl _ _ _) (p.invCut h1 (Nat.le_of_lt h2)) ?_ (x := .v (.tup [])) (v := undef) (aD.tup rfl (by simp)) (fun t ht => ?_)
  ·rw [hcutH, hs]; exact (gF _ _ _).2.2.1.symm
  ·rw [hs]; unfold St.putv St.put; rw [ht]; simp [bE]
 ·rw [k7 hlt] at ha; cases ha
 rotate_left
 ·rw [kf hi hnn] at hlt; cases hlt
 ·rw [<- pE (lo' := (st i).heap.length)] at hg
  rw [dx hR hg];simp only [if_true];unfold jo at hs
  split at hs
  ·cases hs
  ·rename_i hnl
   split at hs
   ·rename_i s1 hop
    refine tG H hR (f := f) (fun hl => hnl ?_) hop fun v w' hp => ?_
    ·unfold kb at hl
     unfold gO;cases ho : o.op <;> rw [ho] at hl <;> first | exact hl.elim | skip
     ·obtain ⟨d, q1, q2⟩ := hl; simp [q1, q2]
     ·obtain ⟨d, q1, q2⟩ := hl; simp [q1, q2]
    ·obtain ⟨Γ', x, e1, hext, hI, hx, e2⟩ := hp
     subst e1;have hH1 : s1.heap = Γ'.H := by rw [e2]; exact (gF _ _ _).2.2.1
     have htake : Γ'.H.take (len st i) = (st i).heap := by
      apply List.ext_getElem?;intro id;rcases Nat.lt_or_ge id (len st i) with h | h
      ·rw [List.getElem?_take_of_lt h, (hext.barrier id h (by rw [hcutH]; exact h)).1, hcutH]
      ·rw [List.getElem?_take_eq_none h, List.getElem?_eq_none h]
     have hHs : Γ'.H = (st i).heap ++ s1.heap.drop (st i).heap.length := by
      rw [hH1, <- htake];have : (Γ'.H.take (len st i)).length = len st i := by rw [htake]; rfl
      rw [this, List.take_append_drop]
     split at hs
     ·rename_i hd
      injection hs with hs;exact p.merge T hok hL hcl hi h1 h2 hni hdo hext hI (by rw [hHs, <- hs]) hx (fun t ht => by rw [hd] at ht; cases ht)
     ·rename_i d hd
      split at hs
      ·rename_i y hy
       injection hs with hs;refine p.merge T hok hL hcl hi h1 h2 hni hdo hext hI (by rw [hHs, <- hs]) hx (fun t ht => ?_);rw [hd] at ht; injection ht with ht; subst ht;rw [e2, hd] at hy;simp only [St.put, bE, if_true] at hy;rw [<- hs];simp only [bE, if_true];exact hy.symm
      ·cases hs
   ·cases hs
theorem PR.ofRelS (R : aZ base n0 Γ β (st M) a) (hM : M <= ops.size) (hpre : ∀ j, j < M -> bN L j) (hb : ∀ j, bN L j -> j < M) (hw : dm lo n0 Γ0 Γ) (hn : a.tmps.size = n) (hlo : (st M).lo = lo /\ (st M).inRound = (st 0).inRound) :
  PR ops st base n0 lo Γ0 n M M L Γ β a := by
 have hlenM : Γ.H.length = len st M := by rw [R.heap]; rfl
 have hcut : Γ.cut (len st M) = Γ := Ap (by rw [hlenM]; exact Nat.le_refl _) (fun id b h => (R.inv.dom id b h).1);exact
  {mM := ⟨Nat.le_refl _, hM⟩, pre := hpre, bound := hb, light := fun i q1 q2 => by omega, H := R.heap, dom := R.inv.dom, inj := R.inv.inj
   objs := fun k q1 q2 id b o _ hr ho => by
    have : k = M := by omega
    subst this;rw [hcut];exact eT.of R.inv hr ho
   stab := R.inv.stab
   absent := fun j q1 q2 => by omega
   env0 := fun t x hx _ => by rw [hcut, <- hn]; exact R.env t x hx
   envL := fun j o t q1 q2 => by have := hb j q2; omega
   sz := R.sz
   loc := fun d xs hx => by rw [hcut]; exact R.loc d xs hx
   linj := R.linj, marks := R.marks
   g0 := by rw [<- hlenM]; exact hw.len
   went := hw, asz := hn, lo' := hlo }
theorem tN {α : Type} {p q : α -> Bool} : ∀ {l : List α}, (∀ x, x ∈ l -> q x = true -> p x = true) -> (∃ x, x ∈ l /\ p x = true /\ q x = false) -> l.countP q < l.countP p
 | [], _, h => by obtain ⟨x, hx, _⟩ := h; cases hx
 | y :: l, h, hex => by
  have hle : ∀ {l : List α}, (∀ x, x ∈ l -> q x = true -> p x = true) -> l.countP q <= l.countP p := fun {l} h => List.countP_mono_left h
  rw [List.countP_cons, List.countP_cons];have ht : ∀ x, x ∈ l -> q x = true -> p x = true := fun x hx => h x (List.mem_cons_of_mem _ hx)
  obtain ⟨x, hx, h1, h2⟩ := hex;rcases List.mem_cons.1 hx with rfl | hx
  ·have := hle ht
   rw [h1, h2]; simp; omega
  ·have := tN ht ⟨x, hx, h1, h2⟩
   have hy := h y (List.mem_cons_self ..);cases hq : q y with
   | false => cases p y <;> simp <;> omega
   | true => rw [hy hq]; simp; omega
def vd (ops : Array Oper) (L : Array Bool) : Nat := (List.range ops.size).countP fun i => !L.getD i true
theorem kh (h : et o = true) : o.guard = none := by
 unfold et at h;simp only [Bool.and_eq_true] at h;exact Option.isNone_iff_eq_none.1 h.1
theorem gT (h : im o = true) : o.guard = none := by
 unfold im at h;simp only [Bool.and_eq_true] at h;exact Option.isNone_iff_eq_none.1 h.1.1
theorem nh (h : o.guard = none) : bG ops o s = some true := by unfold bG; rw [h]
theorem bZ {ys : Nat -> Option Bool} (h : o.guard = none) : Region.wanted o ys = true := by unfold Region.wanted; rw [h]
theorem tO (h : et o = true) : (∃ t x y, o.op = .store t x y) \/ ∃ c, o.op = .call c := by
 unfold et at h;cases ho : o.op <;> rw [ho] at h <;> first | exact .inl ⟨_, _, _, rfl⟩ | exact .inr ⟨_, rfl⟩ | (simp at h; done)
theorem ly (h : im o = true) : (∃ x, o.op = .move x) \/ (∃ x i, o.op = .extract x i) \/ ∃ t x, o.op = .load t x := by
 unfold im at h;cases ho : o.op <;> rw [ho] at h <;> first | exact .inl ⟨_, rfl⟩ | exact .inr (.inl ⟨_, _, rfl⟩) | exact .inr (.inr ⟨_, _, rfl⟩) | (simp at h; done)
theorem yY (h : im o = true) {d : Nat} (hd : o.dst = some d) : d ∉ o.looksAt ops := by
 have hg := gT h;unfold im at h;simp only [Bool.and_eq_true] at h;have h2 := h.2;rw [hd] at h2;dsimp only at h2;unfold Oper.looksAt;rw [hg];dsimp only;rw [List.append_nil, List.mem_filterMap];rintro ⟨x, hx, e⟩;have := List.all_eq_true.1 h2 x hx;cases x <;> first | (cases e; done) | skip
 dsimp only at e this;injection e with e;subst e;simp at this
theorem pF {d : Nat} (h : d ∈ o.looksAt ops) : d ∈ cF ops o := by
 unfold Oper.looksAt at h;unfold cF;rcases List.mem_append.1 h with h | h
 ·exact List.mem_append_left _ (List.mem_append_right _ h)
 ·refine List.mem_append_right _ ?_
  cases hg : o.guard with
  | none => rw [hg] at h; cases h
  | some g => rw [hg] at h; exact h
theorem yZ (H : qb P C K) (R : aZ base n0 Γ β s a) (hk : im o = true) (h : aE C K f o s = some s') : ∃ v, (execOp a.eval o).run P Γ.w = .ok (.value v) Γ.w := by
 have : cJ P Γ β s a o s' := by
  rcases ly hk with ⟨x, ho⟩ | ⟨x, i, ho⟩ | ⟨t, x, ho⟩
  ·exact ow R (.inl ho) h
  ·exact m7 R ho h
  ·exact ox H.tab R ho h
 obtain ⟨x, v, h1, _⟩ := this;exact ⟨v, h1⟩
theorem Ar (T : Tr C K f ops st) {i : Nat} (ho : ops[i]? = some o) (hA : dH (cR ops) ops.size i = false) (hS : et o = true) : io C ops (cR ops) o i (st i) = true /\ aE C K f o (st i) = some (st (i + 1)) := by
 rcases T.step i o ho with ⟨hg, _⟩ | ⟨_, ha, _⟩ | ⟨_, _, hs⟩ | ⟨_, h1, h2⟩
 ·rw [nh (kh hS)] at hg; cases hg
 ·rw [hA] at ha; cases ha
 ·rw [pp hS] at hs; cases hs
 ·exact ⟨h1, h2⟩
theorem cd {L : Array Bool} {i : Nat} (hL : L.size = ops.size) (hcl : dW ops L) (ho : ops[i]? = some o) (h1 : L.getD i true = false) (hrdy' : ∀ e, e ∈ o.after.toList -> Region.binds .any e = true -> L.getD e.on false = true) :
  (L.setIfInBounds i true).size = ops.size /\ dW ops (L.setIfInBounds i true) /\ vd ops (L.setIfInBounds i true) < vd ops L := by
 have hlt : i < ops.size := by
  rcases Nat.lt_or_ge i ops.size with h' | h'
  ·exact h'
  ·rw [Array.getElem?_eq_none h'] at ho; cases ho
 refine ⟨by simpa using hL, fun j o' ho' hj e he hb => ?_, ?_⟩
 ·have hjlt : j < L.size := by
   have : j < ops.size := by
    rcases Nat.lt_or_ge j ops.size with h' | h'
    ·exact h'
    ·rw [Array.getElem?_eq_none h'] at ho'; cases ho'
   omega
  have hin : bN (L.setIfInBounds i true) j := by
   unfold bN;have hs : j < (L.setIfInBounds i true).size := by simpa using hjlt
   rw [Array.getD_eq_getD_getElem?] at hj ⊢;rw [Array.getElem?_eq_getElem hs] at hj ⊢;exact hj
  refine (aw (L := L) (by omega)).2 (.inr ?_);rcases (aw (by omega)).1 hin with e' | e'
  ·subst e'
   rw [ho] at ho'; injection ho' with ho'; subst ho';exact hrdy' e he hb
  ·exact hcl j o' ho' (eW e') e he hb
 ·unfold vd
  refine tN (fun x hx h => ?_) ⟨i, List.mem_range.2 hlt, by simp [h1], ?_⟩
  ·by_cases e : i = x
   ·subst e; simp [h1]
   ·have hx' : x < L.size := by rw [hL]; exact List.mem_range.1 hx
    simp only [Array.getD_eq_getD_getElem?, Array.getElem?_setIfInBounds_ne e] at h;simpa [Array.getD_eq_getD_getElem?] using h
  ·have : i < L.size := by omega
   simp [Array.getD_eq_getD_getElem?, this]
theorem Br {ro : Option Nat} {next : Act -> World -> Prop} {Q : Exit -> Act -> World -> Prop} {x : Halt} {w : World} (hx : ∀ v, x ≠ .panic v) (h : o.uponIn (Fw ro) 0 P a next Q (.halt x w)) : False := by
 cases x <;> first | exact hx _ rfl | exact h
theorem CR {ro : Option Nat} {Q : Exit -> Act -> World -> Prop} (hok : cI ops = true) {k : Nat} {ok : Oper} {v : Value} {w : World} (hk : ops[k]? = some ok) (hg : ok.guard = none) (hnd : ∀ c, ok.op ≠ .defer c) (hsel : ∀ cs b, ok.op ≠ .select cs b) :
  ∀ (fuel : Nat) (L : Array Bool) (a : Act), L.size = ops.size -> dW ops L -> L.getD k true = false -> (∀ e, e ∈ ok.after.toList -> Region.binds .any e = true -> L.getD e.on false = true) -> (execOp a.eval ok).run P w = .ok (.value v) w ->
  (∀ j, j < ops.size -> ¬ bN L j -> j ≠ k -> ((cR ops).getD j 0).testBit k = true \/ ∃ oj, ops[j]? = some oj /\ iI oj = true /\ ok.apart ops oj = true) ->
  wpAnyIn (Fw ro) 0 P .any ops Q fuel (L.setIfInBounds k true) (a.put ok.dst v) w -> wpAnyIn (Fw ro) 0 P .any ops Q (fuel + 1) L a w := by
 intro fuel
 induction fuel with
 | zero =>
  intro L a hL hcl hkf hrdy hv hfree H;have hkr : k ∈ Region.ready .any ops L := mem_ready.2 ⟨hkf, ok, hk, fun e he hb => hrdy e (by simpa using he) hb⟩
  refine ⟨fun hr => (by rw [hr] at hkr; cases hkr), fun j hj => ?_⟩
  by_cases hjk : j = k
  ·subst hjk
   unfold wpOpIn;simp only [hk];rw [bZ hg];simp only [if_true];exact gP hnd (.inl hv) H
  ·have := ready_mono hj hjk
   rw [H.1] at this;cases this
 | succ fuel ih =>
  intro L a hL hcl hkf hrdy hv hfree H;have hkr : k ∈ Region.ready .any ops L := mem_ready.2 ⟨hkf, ok, hk, fun e he hb => hrdy e (by simpa using he) hb⟩
  refine ⟨fun hr => (by rw [hr] at hkr; cases hkr), fun j hj => ?_⟩
  by_cases hjk : j = k
  ·subst hjk
   unfold wpOpIn;simp only [hk];rw [bZ hg];simp only [if_true];exact gP hnd (.inl hv) H
  ·obtain ⟨u1, oj, u2, u3⟩ := mem_ready.1 hj
   have hjlt : j < ops.size := by
    rcases Nat.lt_or_ge j ops.size with h' | h'
    ·exact h'
    ·rw [Array.getElem?_eq_none h'] at u2; cases u2
   have hdeps : ∀ e, e ∈ oj.after.toList -> Region.binds .any e = true -> L.getD e.on false = true := fun e he hb => u3 e (by simpa using he) hb
   obtain ⟨oj', q1, q2, q3⟩ := (hfree j hjlt (jr u1) hjk).resolve_left fun hb => jr hkf (b8 hok hcl hL j oj u2 hdeps k hb)
   rw [u2] at q1; injection q1 with q1; subst q1;obtain ⟨z1, z2, z3⟩ := Oper.apart_spec q3;have hjg : oj.guard = none := by
    unfold iI at q2;exact Option.isNone_iff_eq_none.1 (Bool.and_eq_true_iff.1 q2).1
   have hjd : ∀ c, oj.op ≠ .defer c := fun c e => by
    unfold iI at q2;rw [e] at q2; simp at q2
   have hjs : ∀ cs b, oj.op ≠ .select cs b := fun c b e => by
    unfold iI at q2;rw [e] at q2; simp at q2
   have h1 := H.2 j (ready_mono hj hjk);unfold wpOpIn at h1 ⊢;simp only [u2] at h1 ⊢;rw [bZ hjg] at h1 ⊢;simp only [if_true] at h1 ⊢;have h1 := h1.2;rw [Oper.semAt_eq _ _ _ hjd, execOp_put oj hjs a ok.dst v z1] at h1;rcases vc (P := P) (ρ := a.eval) q2 with ⟨v2, hr⟩ | ⟨x, hx, hr⟩
   ·rw [hr] at h1
    have h1 : wpAnyIn (Fw ro) 0 P .any ops Q fuel ((L.setIfInBounds k true).setIfInBounds j true) ((a.put ok.dst v).put oj.dst v2) w := h1;rw [Act.put_comm a v v2 z2, Array.setIfInBounds_comm _ _ (Ne.symm hjk)] at h1;obtain ⟨g1, g2, g3⟩ := cd hL hcl u2 u1 hdeps;refine gP hjd (.inl (hr w)) (ih _ _ g1 g2 ?_ (fun e he hb => ?_) ?_ (fun i hi hni hik => hfree i hi (fun hin => hni ((aw (by omega)).2 (.inr hin))) hik) h1)
    ·rw [getD_set_ne true hjk]; exact hkf
    ·have := hrdy e he hb
     by_cases e' : j = e.on
     ·have hlt : e.on < L.size := by omega
      subst e';simp [Array.getD_eq_getD_getElem?, hlt]
     ·rw [getD_set_ne false e']; exact this
    ·rw [execOp_put ok hsel a oj.dst v2 z3]; exact hv
   ·rw [hr] at h1
    exact (Br hx h1).elim
theorem Bs (H : qb P C K) (T : Tr C K f ops st) (hok : cI ops = true) (hdst : dU n ops = true) {ro : Option Nat} {Q : Exit -> Act -> World -> Prop}
  (hq : ∀ a' w', bI base n0 Γ0 (st 0) (st ops.size) n a' w' -> Q .normal a' w') : ∀ (fuel : Nat) (L : Array Bool) (a : Act) (w : World), L.size = ops.size -> dW ops L -> vd ops L <= fuel ->
  (∃ m M Γ β, Γ.w = w /\ PR ops st base n0 (st 0).lo Γ0 n m M L Γ β a) -> wpAnyIn (Fw ro) 0 P .any ops Q fuel L a w := by
 have fin : ∀ (L : Array Bool) (a : Act) (w : World), (∀ j, j < ops.size -> bN L j) -> (∃ m M Γ β, Γ.w = w /\ PR ops st base n0 (st 0).lo Γ0 n m M L Γ β a) -> Q .normal a w := by
  intro L a w hall ⟨m, M, Γ, β, e, p⟩;subst e;have hM : M = ops.size := by
   have h1 := p.mM.2;rcases Nat.lt_or_ge M ops.size with h | h
   ·have := p.bound M (hall M h); omega
   ·omega
  obtain ⟨R, h1, h2⟩ := p.complete T (fun j hj => hall j (by omega));rw [hM] at R h1 h2;exact hq _ _ ⟨Γ, β, rfl, R, p.went, p.asz, h1, h2⟩
 have all_of : ∀ (L : Array Bool), L.size = ops.size -> Region.ready .any ops L = [] -> ∀ j, j < ops.size -> bN L j := by
  intro L hL hr j
  induction j using Nat.strongRecOn with
  | _ j ih =>
   intro hj;cases hh : L.getD j true with
   | true =>
    unfold bN;rw [Array.getD_eq_getD_getElem?] at hh ⊢;have : j < L.size := by omega
    simpa [this] using hh
   | false =>
    have : j ∈ Region.ready .any ops L := mem_ready.2 ⟨hh, _, Array.getElem?_eq_getElem hj, fun e he hb => by
     have hlt := d7 hok (Array.getElem?_eq_getElem hj) (by simpa using he) hb;exact ih e.on hlt (by omega)⟩
    rw [hr] at this;cases this
 intro fuel
 induction fuel using Nat.strongRecOn with
 | _ fuel IH =>
 cases fuel with
 | zero =>
  intro L a w hL hcl hc hJ;have hall : ∀ j, j < ops.size -> bN L j := fun j hj => by
   have h0 : vd ops L = 0 := by omega
   unfold vd at h0;rw [List.countP_eq_zero] at h0;have := h0 j (List.mem_range.2 hj);unfold bN;rw [Array.getD_eq_getD_getElem?] at this ⊢;have hj' : j < L.size := by omega
   simpa [hj'] using this
  refine ⟨?_, fin L a w hall hJ⟩;cases hr : Region.ready .any ops L with
  | nil => rfl
  | cons i l =>
   have hi : i ∈ Region.ready .any ops L := by rw [hr]; exact List.mem_cons_self ..
   obtain ⟨h1, o, h2, _⟩ := mem_ready.1 hi;have hlt : i < ops.size := by
    rcases Nat.lt_or_ge i ops.size with h' | h'
    ·exact h'
    ·rw [Array.getElem?_eq_none h'] at h2; cases h2
   rw [eW (hall i hlt)] at h1; cases h1
 | succ fuel =>
  have ih := IH fuel (Nat.lt_succ_self _);intro L a w hL hcl hc hJ;refine ⟨fun hr => fin L a w (all_of L hL hr) hJ, fun i hi => ?_⟩
  obtain ⟨h1, o, ho, hrdy⟩ := mem_ready.1 hi;have hlt : i < ops.size := by
   rcases Nat.lt_or_ge i ops.size with h' | h'
   ·exact h'
   ·rw [Array.getElem?_eq_none h'] at ho; cases ho
  have hni := jr h1;have hrdy' : ∀ e, e ∈ o.after.toList -> Region.binds .any e = true -> L.getD e.on false = true := fun e he hb => hrdy e (by simpa using he) hb
  have hbef := b8 hok hcl hL i o ho hrdy';obtain ⟨hL', hcl', hcc⟩ := cd hL hcl ho h1 hrdy';have hc' : vd ops (L.setIfInBounds i true) <= fuel := by omega
  obtain ⟨m, M, Γ, β, e, p⟩ := hJ;subst e;cases hA : dH (cR ops) ops.size i with
  | true =>
   have hal : ∀ j, j < ops.size -> j ≠ i -> (if j < i then ((cR ops).getD i 0).testBit j else ((cR ops).getD j 0).testBit i) = true := fun j hj hne => by
    have := List.all_eq_true.1 (show (List.range ops.size).all _ = true from hA) j (List.mem_range.2 hj);have hne' : (j == i) = false := by simpa using hne
    rw [hne'] at this;simpa using this
   have hbelow : ∀ j, j < i -> bN L j := fun j hj => by
    have := hal j (by omega) (by omega);rw [if_pos hj] at this;exact hbef j this
   have habove : ∀ j, bN L j -> j < i := fun j hj => by
    rcases Nat.lt_trichotomy j i with h | h | h
    ·exact h
    ·exact absurd (h ▸ hj) hni
    ·have hjn := Aq hL hj
     have := hal j hjn (by omega);rw [if_neg (by omega)] at this;exact absurd (b8 hok hcl hL j _ (Array.getElem?_eq_getElem hjn) (hcl j _ (Array.getElem?_eq_getElem hjn) (eW hj)) i this) hni
   have hMi : M = i := by
    rcases Nat.lt_trichotomy M i with h | h | h
    ·have := p.bound M (hbelow M h); omega
    ·exact h
    ·rcases Nat.lt_or_ge i m with h' | h'
     ·exact absurd (p.pre i h') hni
     ·have := k7 (p.light i h' h)
      rw [hA] at this; cases this
   subst hMi;obtain ⟨R, hlo, hir⟩ := p.complete T hbelow;have next : ∀ a' w', bI base n0 Γ (st M) (st (M + 1)) n a' w' -> wpAnyIn (Fw ro) 0 P .any ops Q fuel (L.setIfInBounds M true) a' w' := fun a' w' ⟨Γ1, β1, e1, R1, g, e2, e3, e4⟩ => by
    subst e1;refine ih _ a' _ hL' hcl' hc' ⟨M + 1, M + 1, Γ1, β1, rfl, PR.ofRelS R1 hlt (fun j hj => ?_) (fun j hj => ?_) (p.went.trans (hlo ▸ g) (Nat.le_refl _)) e2 ⟨e3.trans hlo, e4.trans hir⟩⟩
    ·rcases Nat.lt_or_ge j M with h | h
     ·exact (aw (by omega)).2 (.inr (hbelow j h))
     ·exact (aw (by omega)).2 (.inl (by omega))
    ·rcases (aw (by omega)).1 hj with e | e
     ·omega
     ·have := habove j e; omega
   unfold wpOpIn;simp only [ho];have two : (bG ops o (st M) = some false /\ st (M + 1) = (st M).putv o.dst (.tup [])) \/ (bG ops o (st M) = some true /\ aE C K f o (st M) = some (st (M + 1))) := by
    rcases T.step M o ho with h | ⟨hg, _, hs⟩ | ⟨_, ha, _⟩ | ⟨hg, _, hs⟩
    ·exact .inl h
    ·exact .inr ⟨hg, hs⟩
    ·rw [hA] at ha; cases ha
    ·exact .inr ⟨hg, hs⟩
   rcases two with ⟨hg, hs⟩ | ⟨hg, hs⟩
   ·rw [dx R hg]
    simp only [Bool.false_eq_true, if_false];refine ⟨fun _ _ => trivial, next _ _ ⟨Γ, β, rfl, ?_, dm.refl, (bO _ _ _).trans p.asz, ?_, ?_⟩⟩
    ·rw [hs]
     exact R.put o.dst (fun t ht => by rw [p.asz]; exact dh hdst ho t ht) (x := .v (.tup [])) (v := undef) (aD.tup rfl (by simp))
    ·rw [hs]; exact (gF _ _ _).1
    ·rw [hs]; exact (gF _ _ _).2.1
   ·rw [dx R hg]
    simp only [if_true];exact fW H R (fun t ht => by rw [p.asz]; exact dh hdst ho t ht) hs fun a' w' hp => next a' w' (by rw [<- p.asz]; exact hp)
  | false =>
   cases hS : et o with
   | true =>
    obtain ⟨hnn, hop⟩ := Ar T ho hA hS;obtain ⟨k, ok, hok', hki, hlk, hoth, _, hord, hnk, hbeh⟩ := qW hnn;have hop' := tO hS;have hne : i ≠ k := by omega
    have hbelow : ∀ j, j < i -> j ≠ k -> bN L j := fun j hj hjk => by
     have := hord j (by omega) (by omega) hjk;unfold eO at this;rw [if_pos hj] at this;exact hbef j this
    have habove : ∀ j, bN L j -> j < i := fun j hj => by
     rcases Nat.lt_trichotomy j i with h | h | h
     ·exact h
     ·exact absurd (h ▸ hj) hni
     ·have hjn := Aq hL hj
      have := hord j hjn (by omega) (by omega);unfold eO at this;rw [if_neg (by omega)] at this;exact absurd (b8 hok hcl hL j _ (Array.getElem?_eq_getElem hjn) (hcl j _ (Array.getElem?_eq_getElem hjn) (eW hj)) i this) hni
    have hih : gq ops i = true := kf ho hnn;have hMi : M <= i := by
     rcases Nat.lt_or_ge i M with h | h
     ·exfalso
      rcases Nat.lt_or_ge i m with h' | h'
      ·exact hni (p.pre i h')
      ·have := p.light i h' h
       rw [hih] at this; cases this
     ·exact h
    have after : ∀ (fl : Nat), fl < fuel + 1 -> ∀ (L2 : Array Bool) (Γ1 : aX) (a' : Act) (w' : World), L2.size = ops.size -> dW ops L2 -> vd ops L2 <= fl -> (∀ j, j < i + 1 -> bN L2 j) -> (∀ j, bN L2 j -> j < i + 1) -> dm (st 0).lo n0 Γ0 Γ1 -> (st i).lo = (st 0).lo -> (st i).inRound = (st 0).inRound ->
      bI base n0 Γ1 (st i) (st (i + 1)) n a' w' -> wpAnyIn (Fw ro) 0 P .any ops Q fl L2 a' w' := fun fl hfl L2 Γ1 a' w' q1 q2 q3 q4 q5 q6 q7 q8 ⟨Γ2, β2, e1, R2, g, e2, e3, e4⟩ => by
     subst e1;exact IH fl hfl L2 a' _ q1 q2 q3 ⟨i + 1, i + 1, Γ2, β2, rfl, PR.ofRelS R2 hlt q4 q5 (q6.trans (q7 ▸ g) (Nat.le_refl _)) e2 ⟨e3.trans q7, e4.trans q8⟩⟩
    by_cases hkin : bN L k
    ·have hall : ∀ j, j < i -> bN L j := fun j hj => by
      by_cases e : j = k
      ·exact e ▸ hkin
      ·exact hbelow j hj e
     have hM : M = i := by
      rcases Nat.lt_or_ge M i with h | h
      ·have := p.bound M (hall M h); omega
      ·omega
     subst hM;obtain ⟨R, hlo, hir⟩ := p.complete T hall;unfold wpOpIn;simp only [ho];rw [bZ (kh hS)];simp only [if_true];refine fW H R (fun t ht => by rw [p.asz]; exact dh hdst ho t ht) hop fun a' w' hp => after fuel (Nat.lt_succ_self _) _ Γ a' w' hL' hcl' hc' (fun j hj => ?_) (fun j hj => ?_) p.went hlo hir (by rw [<- p.asz]; exact hp)
     ·rcases Nat.lt_or_ge j M with h | h
      ·exact (aw (by omega)).2 (.inr (hall j h))
      ·exact (aw (by omega)).2 (.inl (by omega))
     ·rcases (aw (by omega)).1 hj with e | e
      ·omega
      ·have := habove j e; omega
    ·have hkA : dH (cR ops) ops.size k = false := by
      cases hh : dH (cR ops) ops.size k with
      | false => rfl
      | true =>
       have := List.all_eq_true.1 (show (List.range ops.size).all _ = true from hh) i (List.mem_range.2 hlt);have hne' : (i == k) = false := by simpa using hne
       rw [hne', if_neg (show ¬ i < k by omega), Bool.false_or] at this;unfold eO at hnk;rw [if_pos hki, this] at hnk;cases hnk
     have hkS : et ok = false := by
      cases hh : et ok with
      | false => rfl
      | true =>
       rcases tO hh with ⟨_, _, _, e⟩ | ⟨_, e⟩ <;> rcases ly hlk with ⟨_, e2⟩ | ⟨_, _, e2⟩ | ⟨_, _, e2⟩ <;> rw [e] at e2 <;> cases e2
     have hkh : gq ops k = false := by unfold gq; rw [hkA, hok']; simpa using hkS
     obtain ⟨Γ1, hw1, p1⟩ : ∃ Γ1 : aX, Γ1.w = Γ.w /\ PR ops st base n0 (st 0).lo Γ0 n m i L Γ1 β a := ⟨{ Γ with H := (st i).heap }, rfl, p.extend T hMi (Nat.le_of_lt hlt) fun j q1 q2 => by
      by_cases e : j = k
      ·exact e ▸ hkh
      ·have := p.bound j (hbelow j q2 e); omega⟩
     have hmk : m <= k := by
      rcases Nat.lt_or_ge k m with h | h
      ·exact absurd (p.pre k h) hkin
      ·exact h
     have hrdyk : ∀ e, e ∈ ok.after.toList -> Region.binds .any e = true -> L.getD e.on false = true := fun e he hb => by
      have := d7 hok hok' he hb;exact hbelow e.on (by omega) (by omega)
     have hLk := cd hL hcl hok' (by
      cases hh : L.getD k true with
      | false => rfl
      | true =>
       exfalso;apply hkin;unfold bN;have : k < L.size := by omega
       rw [Array.getD_eq_getD_getElem?] at hh ⊢;simpa [this] using hh) hrdyk
     obtain ⟨_, Rk⟩ := p1.relAt T hok hcl hL hok' hmk hki hkin hrdyk;obtain ⟨s1, hs1⟩ : ∃ s1, aE C K f ok { st k with env := gI (cF ops ok) (st k).env, lo := (st k).heap.length } = some s1 := by
      rcases T.step k ok hok' with ⟨hg, _⟩ | ⟨_, ha, _⟩ | ⟨_, _, hs⟩ | ⟨_, h1, _⟩
      ·rw [nh (gT hlk)] at hg; cases hg
      ·rw [hkA] at ha; cases ha
      ·unfold jo at hs
       split at hs
       ·cases hs
       ·split at hs
        ·exact ⟨_, by assumption⟩
        ·cases hs
      ·rw [l4 h1] at hkS; cases hkS
     obtain ⟨v, hv⟩ := yZ H Rk hlk hs1;have hv : (execOp a.eval ok).run P Γ1.w = .ok (.value v) Γ1.w := hv;have hndk : ∀ c, ok.op ≠ .defer c := fun c e => by
      rcases ly hlk with ⟨_, e2⟩ | ⟨_, _, e2⟩ | ⟨_, _, e2⟩ <;> rw [e] at e2 <;> cases e2
     have hselk : ∀ cs b, ok.op ≠ .select cs b := fun c b e => by
      rcases ly hlk with ⟨_, e2⟩ | ⟨_, _, e2⟩ | ⟨_, _, e2⟩ <;> rw [e] at e2 <;> cases e2
     have hndi : ∀ c, o.op ≠ .defer c := fun c e => by rcases hop' with ⟨_, _, _, e'⟩ | ⟨_, e'⟩ <;> rw [e'] at e <;> cases e
     have hseli : ∀ cs b, o.op ≠ .select cs b := fun c b e => by rcases hop' with ⟨_, _, _, e'⟩ | ⟨_, e'⟩ <;> rw [e'] at e <;> cases e
     have hstep := qX (ro := ro) (Q := fun _ _ _ => False) H T hok hdst hL hcl p1 hok' hmk hki hkin hrdyk;unfold wpOpIn at hstep;simp only [hok'] at hstep;rw [bZ (gT hlk)] at hstep;simp only [if_true] at hstep;have hstep := hstep.2;rw [Oper.semAt_eq _ _ _ hndk, hv] at hstep;obtain ⟨Γ2, e2, p2⟩ := hstep;have hall2 : ∀ j, j < i -> bN (L.setIfInBounds k true) j := fun j hj => by
      by_cases e : j = k
      ·exact (aw (by omega)).2 (.inl e)
      ·exact (aw (by omega)).2 (.inr (hbelow j hj e))
     obtain ⟨R2, hlo, hir⟩ := p2.complete T hall2;have hek : execOp (a.put ok.dst v).eval ok = execOp a.eval ok := execOp_put (ops := ops) ok hselk a ok.dst v fun d hd => yY hlk hd
     have hei : execOp (a.put ok.dst v).eval o = execOp a.eval o := execOp_put (ops := ops) o hseli a ok.dst v fun d hd hmem => by
      rcases d8 hok ho hok' (by omega) hd (pF hmem) with ⟨_, hb⟩ | ⟨q, _⟩
      ·unfold eO at hnk
       rw [if_pos hki, hb] at hnk; cases hnk
      ·omega
     have hnames : ∀ d, ok.dst = some d -> d ∉ cF ops o := fun d hd hmem => by
      rcases d8 hok ho hok' (by omega) hd hmem with ⟨_, hb⟩ | ⟨q, _⟩
      ·unfold eO at hnk
       rw [if_pos hki, hb] at hnk; cases hnk
      ·omega
     have hnamesk : ∀ d, o.dst = some d -> d ∉ ok.looksAt ops := fun d hd hmem => by
      rcases d8 hok hok' ho (by omega) hd (pF hmem) with ⟨q, _⟩ | ⟨_, hb⟩
      ·omega
      ·unfold eO at hnk
       rw [if_pos hki, hb] at hnk; cases hnk
     have hpc : ∀ u, (a.put ok.dst v).put o.dst u = (a.put o.dst u).put ok.dst v := fun u => Act.put_comm a v u fun d hd hd' =>
      hnames d hd (List.mem_append_left _ (List.mem_append_left _ (by rw [hd']; exact Option.mem_toList.2 rfl)))
     obtain ⟨u, w', r1, r2⟩ := wv H.tab R2 hlk hS hoth hop (v := v) (by rw [hek, e2]; exact hv);unfold je at r1;rw [hei, e2] at r1;rw [hek] at r2;have hpost : bI base n0 Γ2 (st i) (st (i + 1)) n ((a.put ok.dst v).put o.dst u) w' := by
      have hs := fW (ro := ro) (Q := fun _ _ _ => False) (next := fun a' w' => bI base n0 Γ2 (st i) (st (i + 1)) n a' w') H R2 (fun t ht => by rw [p2.asz]; exact dh hdst ho t ht) hop (fun a' w' hp => by rw [<- p2.asz]; exact hp);have hs := hs.2;rw [Oper.semAt_eq _ _ _ hndi, hei, e2] at hs;rcases r1 with r1 | ⟨r1, r3⟩
      ·rw [r1, Oper.uponIn_value] at hs
       exact hs
      ·rw [r1, Oper.uponIn_skip] at hs
       rw [r3]; exact hs
     rw [hpc] at hpost;have hkn2 : ¬ bN (L.setIfInBounds i true) k := fun h => by
      rcases (aw (by omega)).1 h with e | e
      ·omega
      ·exact hkin e
     have hkf : (L.setIfInBounds i true).getD k true = false := by
      cases hh : (L.setIfInBounds i true).getD k true with
      | false => rfl
      | true =>
       exfalso;apply hkn2;unfold bN;have : k < (L.setIfInBounds i true).size := by omega
       rw [Array.getD_eq_getD_getElem?] at hh ⊢;rw [Array.getElem?_eq_getElem this] at hh ⊢;exact hh
     have hrdyk2 : ∀ e, e ∈ ok.after.toList -> Region.binds .any e = true -> (L.setIfInBounds i true).getD e.on false = true := fun e he hb => (aw (by omega)).2 (.inr (hrdyk e he hb))
     obtain ⟨g1, g2, g3⟩ := cd hL' hcl' hok' hkf hrdyk2;have hfin : ∀ (fl : Nat), fl < fuel + 1 -> vd ops ((L.setIfInBounds i true).setIfInBounds k true) <= fl -> wpAnyIn (Fw ro) 0 P .any ops Q fl ((L.setIfInBounds i true).setIfInBounds k true) ((a.put o.dst u).put ok.dst v) w' := fun fl hfl hcf => by
      refine after fl hfl _ Γ2 _ w' g1 g2 hcf (fun j hj => ?_) (fun j hj => ?_) p2.went hlo hir hpost
      ·by_cases e : j = k
       ·exact (aw (by omega)).2 (.inl e)
       ·refine (aw (by omega)).2 (.inr ?_)
        by_cases e' : j = i
        ·exact (aw (by omega)).2 (.inl e')
        ·exact (aw (by omega)).2 (.inr (hbelow j (by omega) e))
      ·rcases (aw (by omega)).1 hj with e | e
       ·omega
       ·rcases (aw (by omega)).1 e with e | e
        ·omega
        ·have := habove j e; omega
     have hrun : wpAnyIn (Fw ro) 0 P .any ops Q fuel (L.setIfInBounds i true) (a.put o.dst u) w' := by
      cases fuel with
      | zero => omega
      | succ fl =>
       refine CR hok hok' (gT hlk) hndk hselk fl _ _ hL' hcl' hkf hrdyk2 (by rw [execOp_put ok hselk a o.dst u hnamesk]; exact r2) (fun j hj hjn hjk => ?_) (hfin fl (by omega) (by omega));have hji : j ≠ i := fun e => hjn ((aw (by omega)).2 (.inl e))
       rcases Nat.lt_or_ge j i with h | h
       ·exact absurd ((aw (by omega)).2 (.inr (hbelow j h hjk))) hjn
       ·exact hbeh j (by omega) hj
     unfold wpOpIn;simp only [ho];rw [bZ (kh hS)];simp only [if_true];refine gP hndi (v := u) ?_ (w' := w') hrun;rw [<- hw1];exact r1
   | false =>
   have hh : gq ops i = false := by unfold gq; rw [hA, ho]; simpa using hS
   have him : m <= i := by
    rcases Nat.lt_or_ge i m with h | h
    ·exact absurd (p.pre i h) hni
    ·exact h
   have key : ∀ (M' : Nat) (Γ' : aX), Γ'.w = Γ.w -> i < M' -> PR ops st base n0 (st 0).lo Γ0 n m M' L Γ' β a -> wpOpIn (Fw ro) 0 P ops Q i (wpAnyIn (Fw ro) 0 P .any ops Q fuel (L.setIfInBounds i true)) a Γ.w := fun M' Γ' e hiM p' => by
    have := qX (ro := ro) (Q := Q) H T hok hdst hL hcl p' ho him hiM hni hrdy';rw [<- e];exact wpOpIn_mono (fun a' w' ⟨Γ'', e1, p2⟩ => ih _ a' w' hL' hcl' hc' ⟨m, M', Γ'', β, e1, p2⟩) this
   rcases Nat.lt_or_ge i M with h | h
   ·exact key M Γ rfl h p
   ·refine key (i + 1) { Γ with H := (st (i + 1)).heap } rfl (Nat.lt_succ_self _) (p.extend T (by omega) hlt fun k q1 q2 => ?_)
    rcases Nat.lt_or_ge k i with hk | hk
    ·cases hkk : gq ops k with
     | false => rfl
     | true =>
      exfalso;have hkd : ((cR ops).getD i 0).testBit k = true := by
       cases hak : dH (cR ops) ops.size k with
       | true =>
        have := List.all_eq_true.1 (show (List.range ops.size).all _ = true from hak) i (List.mem_range.2 hlt);have hne' : (i == k) = false := by simp; omega
        rw [hne', if_neg (show ¬ i < k by omega)] at this;simpa using this
       | false =>
        obtain ⟨ok, hok'⟩ : ∃ ok, ops[k]? = some ok := ⟨_, Array.getElem?_eq_getElem (by omega)⟩;unfold gq at hkk;rw [hak, hok', Bool.false_or] at hkk;obtain ⟨hnn, _⟩ := Ar T hok' hak hkk;obtain ⟨q, _, _, hq1, _, _, _, hq2, _, _⟩ := qW hnn;have := hq2 i hlt (by omega) (by omega);unfold eO at this;rwa [if_neg (by omega)] at this
      have hin := hbef k hkd;have := p.bound k hin;omega
    ·have : k = i := by omega
     rw [this]; exact hh
theorem oE (H : qb P C K) {ro : Option Nat} {ops : Array Oper} (hdst : dU n ops = true) (hok : cI ops = true) {Γ : aX} {β : Nat -> Nat} {s s' : St} {a : Act} {Q : Exit -> Act -> World -> Prop} (R : aZ base n0 Γ β s a) (hn : a.tmps.size = n)
  (h : eu C K f ops (cR ops) ops.toList 0 s = some s') (hq : ∀ a' w', bI base n0 Γ s s' n a' w' -> Q .normal a' w') : wpAnyIn (Fw ro) 0 P .any ops Q ops.size (Array.replicate ops.size false) a { Γ.w with drawn := Γ.w.drawn + 1 } := by
 obtain ⟨st, e1, e2, e3⟩ := wt ops.toList 0 s s' h;simp only [Nat.zero_add, Array.length_toList] at e2 e3;have T : Tr C K f ops st := ⟨fun i o ho => e3 i o (by rw [Array.getElem?_toList]; exact ho)⟩
 have R' : aZ base n0 { Γ with w := { Γ.w with drawn := Γ.w.drawn + 1 } } β s a := by
  have := R.ext (cA.drawn s.lo Γ _) (R.inv.drawn (Γ.w.drawn + 1));rw [show ({ s with heap := ({ Γ with w := { Γ.w with drawn := Γ.w.drawn + 1 } } : aX).H } : St) = s by
   show ({ s with heap := Γ.H } : St) = s;rw [R.heap]] at this
  exact this
 have hnone : ∀ j, ¬ bN (Array.replicate ops.size false) j := fun j h => by
  unfold bN at h;rw [Array.getD_eq_getD_getElem?] at h;rcases Nat.lt_or_ge j ops.size with h' | h'
  ·simp [h'] at h
  ·simp [h'] at h
 refine Bs (Γ0 := Γ) (base := base) (n0 := n0) (n := n) H T hok hdst (fun a' w' hp => hq a' w' (by rw [e1, e2] at hp; exact hp)) ops.size _ a _ (by simp) (fun i o ho hi => ?_) ?_ ⟨0, 0, _, β, rfl, PR.ofRelS (by rw [e1]; exact R') (Nat.zero_le _) (fun j hj => by omega) (fun j hj => absurd hj (hnone j)) (dm.of (cA.drawn _ Γ _)) hn ⟨rfl, rfl⟩⟩
 ·exfalso
  have hlt : i < ops.size := by
   rcases Nat.lt_or_ge i ops.size with h' | h'
   ·exact h'
   ·rw [Array.getElem?_eq_none h'] at ho; cases ho
  simp [Array.getD_eq_getD_getElem?, hlt] at hi
 ·unfold vd
  exact Nat.le_trans List.countP_le_length (by simp)
variable {P : Program} {C : dO} {Γ : aX} {base n0 n f : Nat} {β : Nat -> Nat} {s s' : St} {a : Act} {K : Callee}
variable {ops ops' : Array Oper} {Q Q2 : Exit -> Act -> World -> Prop} {ro : Option Nat}
theorem GC {o : Oper} {a : Act} {w : World} {K : Act -> World -> Prop} (h : ∀ e a w, Q e a w -> Q2 e a w) (hh : o.wpIn (Fw ro) 0 P a w K Q) : o.wpIn (Fw ro) 0 P a w K Q2 := by
 unfold Oper.wpIn at *;refine ⟨hh.1, ?_⟩;have hh := hh.2;have hl : LetsOut Q -> LetsOut Q2 := fun ⟨a, w, q⟩ => ⟨a, w, h _ _ _ q⟩
 generalize (o.semAt (Fw ro).round a.eval).run P w = r at *;cases r with
 | ok x w' =>
  cases x <;> simp only [Oper.uponIn] at hh ⊢ <;>
   first
    | exact hh
    | exact ⟨hh.1, CallsIn.mono hh.2 (fun e w'' he => by cases e <;> first | exact he | exact h _ _ _ he | exact hl he)⟩
    | exact ⟨hh.1, RowsIn.mono hh.2 (fun _ _ he => he)⟩
    | exact ⟨hh.1, RoundIn.mono hh.2 (fun e w'' he => by cases e <;> first | exact he | exact h _ _ _ he | exact hl he)⟩
 | halt x w' => cases x <;> simp only [Oper.uponIn] at hh ⊢ <;> first | exact hh | exact h _ _ _ hh
theorem tP (h : ∀ e a w, Q e a w -> Q2 e a w) : ∀ (fuel : Nat) (L : Array Bool) (a : Act) (w : World), wpAnyIn (Fw ro) 0 P .any ops Q fuel L a w -> wpAnyIn (Fw ro) 0 P .any ops Q2 fuel L a w
 | 0, L, a, w, H => ⟨H.1, h _ _ _ H.2⟩
 | fuel + 1, L, a, w, H => ⟨fun e => h _ _ _ (H.1 e), fun i hi => by
  have h1 := wpOpIn_mono (fun a w => tP h fuel _ a w) (H.2 i hi);unfold wpOpIn at h1 ⊢
  split
  ·rename_i e; rw [e] at h1; exact h1
  ·rename_i o e
   rw [e] at h1;dsimp only at h1
   split
   ·rename_i hw; rw [if_pos hw] at h1; exact GC h h1
   ·rename_i hw; rw [if_neg hw] at h1; exact h1⟩
structure ve (ops ops' : Array Oper) : Prop where
 size : ops'.size = ops.size
 op : ∀ (j : Nat) (o : Oper), ops[j]? = some o -> ∃ A, ops'[j]? = some { o with after := A }
 guard : ∀ (j : Nat) (o : Oper), ops[j]? = some o -> o.guard = none
theorem lz {j : Nat} {o : Oper} (h : ops[j]? = some o) : j < ops.size := by
 rcases Nat.lt_or_ge j ops.size with h' | h'
 ·exact h'
 ·rw [Array.getElem?_eq_none h'] at h; cases h
theorem y5 (o : Oper) (A : Array Edge) (a : Act) (w : World) (K : Act -> World -> Prop) : Oper.wpIn (Fw ro) 0 P { o with after := A } a w K Q = Oper.wpIn (Fw ro) 0 P o a w K Q := rfl
theorem iJ (S : ve ops ops') (j : Nat) (K : Act -> World -> Prop) (a : Act) (w : World) : wpOpIn (Fw ro) 0 P ops' Q j K a w = wpOpIn (Fw ro) 0 P ops Q j K a w := by
 unfold wpOpIn;cases h : ops[j]? with
 | none =>
  have : ops'[j]? = none := Array.getElem?_eq_none (by rw [S.size]; exact Array.getElem?_eq_none_iff.1 h);rw [this]
 | some o =>
  obtain ⟨A, h'⟩ := S.op j o h;rw [h'];dsimp only;rw [bZ (o := { o with after := A }) (S.guard j o h), bZ (S.guard j o h)];simp only [if_true];exact y5 o A a w K
theorem ki (S : ve ops ops') {J : Array Bool -> Prop} (hJ : ∀ L i, J L -> J (L.setIfInBounds i true)) (hr : ∀ L, J L -> ∀ j, j ∈ Region.ready .any ops' L ↔ j ∈ Region.ready .any ops L) : ∀ (fuel : Nat) (L : Array Bool) (a : Act) (w : World), J L ->
  wpAnyIn (Fw ro) 0 P .any ops' Q fuel L a w -> wpAnyIn (Fw ro) 0 P .any ops Q fuel L a w
 | 0, L, a, w, hL, H => by
  refine ⟨List.eq_nil_iff_forall_not_mem.2 fun j hj => ?_, H.2⟩
  have := (hr L hL j).2 hj;rw [H.1] at this; cases this
 | fuel + 1, L, a, w, hL, H => by
  refine ⟨fun e => H.1 (List.eq_nil_iff_forall_not_mem.2 fun j hj => ?_), fun j hj => ?_⟩
  ·have := (hr L hL j).1 hj
   rw [e] at this; cases this
  ·have h1 := H.2 j ((hr L hL j).2 hj)
   rw [iJ S] at h1;exact wpOpIn_mono (fun a w h => ki S hJ hr fuel _ a w (hJ _ _ hL) h) h1
theorem tQ (e : Edge) : ∀ (y : Nat) (l : List Oper) (j : Nat), (dl y e l)[j]? = if j = y then (l[j]?).map (fun o => { o with after := o.after.push e }) else l[j]?
 | y, [], j => by cases y <;> simp [dl]
 | 0, o :: l, 0 => by simp [dl]
 | 0, o :: l, j + 1 => by simp [dl]
 | y + 1, o :: l, 0 => by simp [dl]
 | y + 1, o :: l, j + 1 => by simp [dl, tQ e y l j]
theorem lA (e : Edge) : ∀ (y : Nat) (l : List Oper), (dl y e l).length = l.length
 | y, [] => by cases y <;> rfl
 | 0, o :: l => rfl
 | y + 1, o :: l => by simp [dl, lA e y l]
theorem qc (y : Nat) (e : Edge) (j : Nat) : (⟨dl y e ops.toList⟩ : Array Oper)[j]? = if j = y then (ops[j]?).map (fun o => { o with after := o.after.push e }) else ops[j]? := by
 have := tQ e y ops.toList j;simpa using this
theorem kj (y : Nat) (e : Edge) (hg : ∀ (j : Nat) (o : Oper), ops[j]? = some o -> o.guard = none) : ve ops ⟨dl y e ops.toList⟩ where
 size := by simp [lA]
 op j o h := by
  rw [qc, h]
  split
  ·exact ⟨_, rfl⟩
  ·exact ⟨o.after, rfl⟩
 guard := hg
theorem gt {y : Nat} {e : Edge} (L : Array Bool) (j : Nat) : j ∈ Region.ready .any (⟨dl y e ops.toList⟩ : Array Oper) L ↔ j ∈ Region.ready .any ops L /\ (j = y -> Region.binds .any e = true -> L.getD e.on false = true) := by
 rw [mem_ready, mem_ready, qc]
 by_cases hj : j = y
 ·subst hj
  rw [if_pos rfl];constructor
  ·rintro ⟨h1, o, h2, h3⟩
   obtain ⟨o0, h4, rfl⟩ := Option.map_eq_some_iff.1 h2;exact ⟨⟨h1, o0, h4, fun e' he' => h3 e' (Array.mem_push.2 (.inl he'))⟩, fun _ => h3 e (Array.mem_push.2 (.inr rfl))⟩
  ·rintro ⟨⟨h1, o, h2, h3⟩, h4⟩
   refine ⟨h1, _, by rw [h2]; rfl, fun e' he' => ?_⟩
   rcases Array.mem_push.1 he' with h | rfl
   ·exact h3 e' h
   ·exact h4 rfl
 ·rw [if_neg hj]
  exact ⟨fun h => ⟨h, fun e => absurd e hj⟩, fun h => h.1⟩
theorem iK {k : Nat} (h : oq ops k = true) : ∃ ok x, ops[k]? = some ok /\ ok.op = .move x /\ ok.guard = none /\ (∀ e, e ∈ ok.after -> Region.binds .any e = false) /\ Region.noSelect ops = true /\
  ∀ (j : Nat) (oj : Oper), ops[j]? = some oj -> j ≠ k -> oj.guard = none /\ ((∃ e, e ∈ oj.after /\ Region.binds .any e = true /\ e.on = k) \/ ok.apart ops oj = true) := by
 unfold oq at h
 split at h
 ·rename_i ok hk
  simp only [Bool.and_eq_true] at h;obtain ⟨⟨⟨⟨h1, h2⟩, h3⟩, h4⟩, h5⟩ := h
  split at h2
  ·rename_i x hx
   refine ⟨ok, x, hk, hx, Option.isNone_iff_eq_none.1 h1, fun e he => ?_, by unfold Region.noSelect; rw [<- Array.all_toList]; exact h4, fun j oj hj hne => ?_⟩
   ·have := List.all_eq_true.1 h3 e (by simpa using he)
    simpa using this
   ·have := List.all_eq_true.1 h5 j (List.mem_range.2 (lz hj))
    have hne' : (j == k) = false := by simpa using hne
    rw [hne', Bool.false_or, hj] at this;simp only [Bool.and_eq_true, Bool.or_eq_true] at this;refine ⟨Option.isNone_iff_eq_none.1 this.1, this.2.imp (fun h => ?_) id⟩;obtain ⟨e, he, hb⟩ := List.any_eq_true.1 h;rw [Bool.and_eq_true] at hb;exact ⟨e, by simpa using he, hb.1, by simpa using hb.2⟩
  ·cases h2
 ·cases h
theorem k9 {k : Nat} {ok : Oper} {x : Operand} (hx : ok.op = .move x) (hg : ok.guard = none) (a : Act) : YieldsFenced P ops ok (a.eval x) a := by
 refine ⟨.inl ⟨bZ hg, fun w => ?_⟩, fun w => ?_⟩
 ·unfold execOp; rw [hx]; rfl
 ·unfold Oper.about; rw [hx]
theorem pG {k : Nat} {ok : Oper} {v : Value} {a : Act} {w : World} {K : Act -> World -> Prop} (hk : ops[k]? = some ok) (hg : ok.guard = none) (hd : ∀ c, ok.op ≠ .defer c) (hy : YieldsFenced P ops ok v a) (h : wpOpIn (Fw ro) 0 P ops Q k K a w) : K (a.put ok.dst v) w := by
 unfold wpOpIn at h;simp only [hk] at h;rw [bZ hg] at h;simp only [if_true] at h;have h := h.2;rw [Oper.semAt_eq _ _ _ hd] at h;rcases hy.1 with ⟨_, hv⟩ | ⟨hw, _⟩
 ·rw [hv w] at h; exact h
 ·rw [bZ hg] at hw; cases hw
theorem vg {j : Nat} {oi oj : Oper} {v : Value} (hj : ops[j]? = some oj) (hap : oi.apart ops oj = true) (hsi : ∀ cs b, oi.op ≠ .select cs b) (hsj : ∀ cs b, oj.op ≠ .select cs b) (hjg : oj.guard = none)
  (hQ : ∀ c a w, ¬ Q (.panic c) a w) {K : Act -> World -> Prop} {a : Act} {w : World} (hy : YieldsFenced P ops oi v a) (h : wpOpIn (Fw none) 0 P ops Q j K a w) :
  wpOpIn (Fw none) 0 P ops Q j (fun a' w' => ∃ a0, a' = a0.put oi.dst v /\ YieldsFenced P ops oi v a0 /\ K a0 w') (a.put oi.dst v) w := by
 obtain ⟨h1, h2, h3⟩ := Oper.apart_spec hap;have keep : ∀ (a : Act), YieldsFenced P ops oi v a -> ∀ u, YieldsFenced P ops oi v (a.put oj.dst u) := fun a hy u =>
  hy.of_same (execOp_put oi hsi a oj.dst u h3) (wanted_put oi a oj.dst u h3) (fun w => about_put oi w a oj.dst u h3)
 have keepD : ∀ d, YieldsFenced P ops oi v { a with defers := d :: a.defers } := fun d => hy.of_same rfl rfl (fun _ => rfl)
 unfold wpOpIn at *;simp only [hj] at *;rw [bZ hjg] at *;simp only [if_true] at *;refine ⟨fun _ _ => trivial, ?_⟩
 have h := h.2;rw [show (Fw none).round = none from rfl, Oper.semAt_none] at h ⊢
 rw [execOp_put oj hsj a oi.dst v h1];generalize (execOp a.eval oj).run P w = r at *;cases r with
 | ok x w' =>
  cases x <;> simp only [Oper.uponIn] at h ⊢
  case value u => exact ⟨a.put oj.dst u, Act.put_comm a v u h2, keep a hy u, h⟩
  case skip => exact ⟨a.put oj.dst undef, Act.put_comm a v undef h2, keep a hy _, h⟩
  case defer d =>
   refine ⟨({ a with defers := d :: a.defers } : Act).put oj.dst undef, ?_, keep _ (keepD d) _, h⟩;rw [Act.put_defers, Act.put_comm _ v undef h2]
  case enter f args =>
   refine ⟨h.1, CallsIn.mono h.2 fun e w'' he => ?_⟩
   cases e with
   | returned u => exact ⟨a.put oj.dst u, Act.put_comm a v u h2, keep a hy u, he⟩
   | panicked c => exact absurd he (hQ _ _ _)
   | outgrown => exact he
  case row row args => exact ⟨h.1, RowsIn.mono h.2 fun u w'' he => ⟨a.put oj.dst u, Act.put_comm a v u h2, keep a hy u, he⟩⟩
  case round l f tmps assign body =>
   refine ⟨h.1, RoundIn.mono h.2 fun e w'' he => ?_⟩
   cases e with
   | returned u => exact ⟨a.put oj.dst u, Act.put_comm a v u h2, keep a hy u, he⟩
   | panicked c => exact absurd he (hQ _ _ _)
   | outgrown => exact he
 | halt x w' =>
  cases x <;> simp only [Oper.uponIn] at h ⊢
  case panic u => exact absurd h (hQ _ _ _)
theorem Bt (hok : cI ops = true) {L : Array Bool} (hL : L.size = ops.size) (hr : Region.ready .any ops L = []) : ∀ j, j < ops.size -> bN L j := by
 intro j
 induction j using Nat.strongRecOn with
 | _ j ih =>
  intro hj;cases hh : L.getD j true with
  | true =>
   unfold bN;rw [Array.getD_eq_getD_getElem?] at hh ⊢;have : j < L.size := by omega
   simpa [this] using hh
  | false =>
   have : j ∈ Region.ready .any ops L := mem_ready.2 ⟨hh, _, Array.getElem?_eq_getElem hj, fun e he hb => by
    have hlt := d7 hok (Array.getElem?_eq_getElem hj) (by simpa using he) hb;exact ih e.on hlt (by omega)⟩
   rw [hr] at this;cases this
theorem As {k : Nat} {ok : Oper} (hk : ops[k]? = some ok) (hg : ok.guard = none) (hfl : ∀ (j : Nat) (oj : Oper), ops[j]? = some oj -> j ≠ k -> oj.guard = none /\ ((∃ e, e ∈ oj.after /\ Region.binds .any e = true /\ e.on = k) \/ ok.apart ops oj = true)) :
  ∀ (j : Nat) (o : Oper), ops[j]? = some o -> o.guard = none := fun j o hj => by
 by_cases e : j = k
 ·rw [e, hk] at hj; injection hj with hj; rw [<- hj]; exact hg
 ·exact (hfl j o hj e).1
theorem lb {m j : Nat} (h : j < m) : (Array.replicate m false).getD j true = false := by simp [Array.getD_eq_getD_getElem?, h]
theorem ww : dW ops (Array.replicate ops.size false) := fun i o ho hi => by
 rw [lb (lz ho)] at hi; cases hi
theorem tR {x y : Nat} (hg : ∀ (j : Nat) (o : Oper), ops[j]? = some o -> o.guard = none) (fuel : Nat) (L : Array Bool) (a : Act) (w : World) (hx : bN L x) (H : wpAnyIn (Fw ro) 0 P .any (⟨dl y ⟨x, .data⟩ ops.toList⟩ : Array Oper) Q fuel L a w) :
  wpAnyIn (Fw ro) 0 P .any ops Q fuel L a w :=
 ki (kj y _ hg) (J := fun L => bN L x) (fun L i h => by
  by_cases e : i < L.size
  ·exact (aw e).2 (.inr h)
  ·rw [Array.setIfInBounds_eq_of_size_le (Nat.le_of_not_lt e)]; exact h) (fun L h j => by
  rw [gt];exact ⟨fun h => h.1, fun h' => ⟨h', fun _ _ => h⟩⟩) fuel L a w hx H
theorem Bu (hQ : ∀ c a w, ¬ Q (.panic c) a w) (hok : cI ops = true) {x y : Nat} (hxy : x < y) (hy : oq ops y = true) (hf : follows ops y x = true) {oy : Oper} {sy : Operand} (hoy : ops[y]? = some oy) (hmv : oy.op = .move sy) {v : Value} :
  ∀ (fuel : Nat) (L : Array Bool) (a : Act) (w : World), L.size = ops.size -> dW ops L -> L.getD y true = false -> L.getD x true = false -> vd ops L <= fuel + 1 -> YieldsFenced P ops oy v a ->
  wpAnyIn (Fw none) 0 P .any (⟨dl y ⟨x, .data⟩ ops.toList⟩ : Array Oper) Q (fuel + 1) L a w -> wpAnyIn (Fw none) 0 P .any ops Q fuel (L.setIfInBounds y true) (a.put oy.dst v) w := by
 obtain ⟨ok, sy', q1, q2, q3, q4, q5, q6⟩ := iK hy;rw [hoy] at q1; injection q1 with q1; subst q1;have hng := As hoy q3 q6;have hS := kj (ops := ops) y ⟨x, .data⟩ hng;have hylt := lz hoy;have hnd : ∀ c, oy.op ≠ .defer c := fun c e => by rw [hmv] at e; cases e
 have hns := Region.noSelect_spec q5;intro fuel
 induction fuel with
 | zero =>
  intro L a w hL hcl hyf hxf hc hv H;exfalso;obtain ⟨_, _, g3⟩ := cd hL hcl hoy hyf (fun e he hb => by rw [q4 e (by simpa using he)] at hb; cases hb);have hx2 : (L.setIfInBounds y true).getD x true = false := by rw [getD_set_ne true (by omega)]; exact hxf
  have : 0 < vd ops (L.setIfInBounds y true) := by
   unfold vd;rw [List.countP_pos_iff];exact ⟨x, List.mem_range.2 (by omega), by simpa using hx2⟩
  omega
 | succ fuel ih =>
  intro L a w hL hcl hyf hxf hc hv H;have hL2 : (L.setIfInBounds y true).size = ops.size := by simpa using hL
  obtain ⟨_, hcl2, _⟩ := cd hL hcl hoy hyf (fun e he hb => by rw [q4 e (by simpa using he)] at hb; cases hb);have hxn : ¬ bN (L.setIfInBounds y true) x := fun h => by
   rcases (aw (by omega)).1 h with e | e
   ·omega
   ·exact jr hxf e
  refine ⟨fun hr => absurd (Bt hok hL2 hr x (by omega)) hxn, fun j hj => ?_⟩
  obtain ⟨u1, oj, u2, u3⟩ := mem_ready.1 hj;have hjy : j ≠ y := fun e => by
   subst e;have : bN (L.setIfInBounds j true) j := (aw (by omega)).2 (.inl rfl);exact jr u1 this
  have u1' : L.getD j true = false := by rw [getD_set_ne true (Ne.symm hjy)] at u1; exact u1
  have hdeps2 : ∀ e, e ∈ oj.after.toList -> Region.binds .any e = true -> (L.setIfInBounds y true).getD e.on false = true := fun e he hb => u3 e (by simpa using he) hb
  have hno : ∀ e, e ∈ oj.after -> Region.binds .any e = true -> e.on ≠ y := fun e he hb he' => by
   have := List.all_eq_true.1 hf j (List.mem_range.2 (lz u2));rw [u2] at this;have hany : oj.after.toList.any (fun e => Region.binds .any e && e.on == y) = true := List.any_eq_true.2 ⟨e, by simpa using he, by rw [hb, he']; simp⟩
   dsimp only at this;rw [hany] at this;exact hxn (b8 hok hcl2 hL2 j oj u2 hdeps2 x (by simpa using this))
  have hdeps : ∀ e, e ∈ oj.after.toList -> Region.binds .any e = true -> L.getD e.on false = true := fun e he hb => by
   have := hdeps2 e he hb;rw [getD_set_ne false (Ne.symm (hno e (by simpa using he) hb))] at this;exact this
  have hjr : j ∈ Region.ready .any ops L := mem_ready.2 ⟨u1', oj, u2, fun e he hb => hdeps e (by simpa using he) hb⟩
  have h1 := H.2 j (gt (ops := ops) L j |>.2 ⟨hjr, fun e => absurd e hjy⟩);rw [iJ hS] at h1;have hap : oy.apart ops oj = true := (q6 j oj u2 hjy).2.resolve_left fun ⟨e, he, hb, he'⟩ => hno e he hb he'
  have h2 := vg u2 hap (fun cs b => hns y oy cs b hoy) (fun cs b => hns j oj cs b u2) (hng j oj u2) hQ hv h1;refine wpOpIn_mono (fun a' w' ⟨a0, e0, hv0, h3⟩ => ?_) h2;subst e0;obtain ⟨g1, g2, g3⟩ := cd hL hcl u2 u1' hdeps;rw [Array.setIfInBounds_comm _ _ (Ne.symm hjy)];have hyf2 : (L.setIfInBounds j true).getD y true = false := by rw [getD_set_ne true hjy]; exact hyf
  by_cases hjx : j = x
  ·subst hjx
   have hyr : y ∈ Region.ready .any (⟨dl y ⟨j, .data⟩ ops.toList⟩ : Array Oper) (L.setIfInBounds j true) := gt (ops := ops) _ _ |>.2 ⟨mem_ready.2 ⟨hyf2, oy, hoy, fun e he hb => by rw [q4 e he] at hb; cases hb⟩, fun _ _ => (aw (by omega)).2 (.inl rfl)⟩
   have h4 := h3.2 y hyr;rw [iJ hS] at h4;have h5 := pG hoy q3 hnd hv0 h4;exact tR hng _ _ _ _ ((aw (by omega)).2 (.inr ((aw (by omega)).2 (.inl rfl)))) h5
  ·exact ih _ a0 w' g1 g2 hyf2 (by rw [getD_set_ne true hjx]; exact hxf) (by omega) hv0 h3
theorem CT (hQ : ∀ c a w, ¬ Q (.panic c) a w) {x y : Nat} (h : uS ops x y = true) (a : Act) (w : World) (H : wpAnyIn (Fw none) 0 P .any (⟨dl y ⟨x, .data⟩ ops.toList⟩ : Array Oper) Q ops.size (Array.replicate ops.size false) a w) :
  wpAnyIn (Fw none) 0 P .any ops Q ops.size (Array.replicate ops.size false) a w := by
 unfold uS at h;simp only [Bool.and_eq_true, Bool.or_eq_true, decide_eq_true_eq] at h;obtain ⟨⟨⟨hok, hxy⟩, hylt⟩, h⟩ := h;obtain ⟨m, hm⟩ : ∃ m, ops.size = m + 1 := ⟨ops.size - 1, by omega⟩
 have hcnt : vd ops (Array.replicate ops.size false) <= ops.size := by
  unfold vd;exact Nat.le_trans List.countP_le_length (by simp)
 have first : ∀ k, k < ops.size -> oq ops k = true -> (∀ ok sk, ops[k]? = some ok -> ok.op = .move sk -> wpAnyIn (Fw none) 0 P .any ops Q m ((Array.replicate ops.size false).setIfInBounds k true) (a.put ok.dst (a.eval sk)) w) ->
   wpAnyIn (Fw none) 0 P .any ops Q ops.size (Array.replicate ops.size false) a w := fun k hk hfl hn => by
  obtain ⟨ok, sk, q1, q2, q3, q4, q5, q6⟩ := iK hfl;have hr : k ∈ Region.ready .any ops (Array.replicate ops.size false) := mem_ready.2 ⟨lb hk, ok, q1, fun e he hb => by rw [q4 e he] at hb; cases hb⟩
  have := wpAnyIn_first (F := Fw none) (n := 0) (P := P) (Q := Q) (md := .any) (v := a.eval sk) rfl q1 (fun j o cs b hj => Region.noSelect_spec q5 j o cs b hj) (fun c a w h => absurd h (hQ _ _ _)) m (Array.replicate ops.size false) a w
   (fun j oj hj hne _ hno => (q6 j oj hj hne).2.resolve_left fun ⟨e, he, hb, he'⟩ => hno e he hb he') hr (k9 (k := k) q2 q3 a) (hn ok sk q1 q2)
  rw [<- hm] at this;exact this
 rcases h with h | ⟨h, hf⟩
 ·refine first x (by omega) h fun ok sk q1 q2 => ?_
  obtain ⟨ok', sk', p1, p2, p3, p4, p5, p6⟩ := iK h;rw [q1] at p1; injection p1 with p1; subst p1;have hng := As q1 p3 p6;have hS := kj (ops := ops) y ⟨x, .data⟩ hng;rw [hm] at H;have h1 := H.2 x (gt (ops := ops) _ _ |>.2 ⟨by rw [<- hm]; exact mem_ready.2 ⟨lb (by omega), ok, q1, fun e he hb => by rw [p4 e he] at hb; cases hb⟩, fun e => by omega⟩);rw [iJ hS] at h1;have h2 := pG q1 p3 (fun c e => by rw [q2] at e; cases e) (k9 (k := x) q2 p3 a) h1;rw [<- hm] at h2;exact tR hng _ _ _ _ ((aw (by simp; omega)).2 (.inl rfl)) h2
 ·refine first y hylt h fun ok sk q1 q2 => ?_
  obtain ⟨ok', sk', p1, p2, p3, p4, p5, p6⟩ := iK h;rw [q1] at p1; injection p1 with p1; subst p1;refine Bu hQ hok hxy h hf q1 q2 m _ a w (by simp) ww (lb hylt) (lb (by omega)) (by omega) (k9 (k := y) q2 p3 a) ?_;rw [<- hm]; exact H
theorem tS {y : Nat} {e : Edge} (h : dU n ops = true) : dU n (⟨dl y e ops.toList⟩ : Array Oper) = true := by
 unfold dU at *;rw [List.all_eq_true] at *;intro o ho;obtain ⟨i, hi⟩ := List.getElem?_of_mem ho;have hi' : (⟨dl y e ops.toList⟩ : Array Oper)[i]? = some o := by rw [<- Array.getElem?_toList]; exact hi
 rw [qc] at hi'
 split at hi'
 ·obtain ⟨o0, h0, rfl⟩ := Option.map_eq_some_iff.1 hi'
  exact h o0 (List.mem_of_getElem? (by rw [Array.getElem?_toList]; exact h0))
 ·exact h o (List.mem_of_getElem? (by rw [Array.getElem?_toList]; exact hi'))
theorem CU {y : Nat} (hg : ∀ (j : Nat) (o : Oper), ops[j]? = some o -> o.guard = none) (fuel : Nat) (L : Array Bool) (a : Act) (w : World) (H : wpAnyIn (Fw ro) 0 P .any (⟨dl y Ai ops.toList⟩ : Array Oper) Q fuel L a w) : wpAnyIn (Fw ro) 0 P .any ops Q fuel L a w :=
 ki (kj y _ hg) (J := fun _ => True) (fun _ _ _ => trivial) (fun L _ j => by
  rw [gt];exact ⟨fun h => h.1, fun h' => ⟨h', fun _ hb => by cases hb⟩⟩) fuel L a w trivial H
theorem pH {y : Nat} {e : Edge} (hg : ∀ (j : Nat) (o : Oper), ops[j]? = some o -> o.guard = none) : ∀ (j : Nat) (o : Oper), (⟨dl y e ops.toList⟩ : Array Oper)[j]? = some o -> o.guard = none := fun j o hj => by
 rw [qc] at hj
 split at hj
 ·obtain ⟨o0, h0, rfl⟩ := Option.map_eq_some_iff.1 hj
  exact hg j o0 h0
 ·exact hg j o hj
theorem tT : ∀ (hs : List Nat) (ops : Array Oper), (∀ (j : Nat) (o : Oper), ops[j]? = some o -> o.guard = none) -> dU n ops = true -> dU n (Bf hs ops) = true /\ (Bf hs ops).size = ops.size /\
  ∀ fuel L a w, wpAnyIn (Fw ro) 0 P .any (Bf hs ops) Q fuel L a w -> wpAnyIn (Fw ro) 0 P .any ops Q fuel L a w
 | [], ops, _, hd => ⟨hd, rfl, fun _ _ _ _ H => H⟩
 | i :: l, ops, hg, hd => by
  obtain ⟨h2, h3, h4⟩ := tT l ⟨dl i Ai ops.toList⟩ (pH hg) (tS hd);have hsz : (⟨dl i Ai ops.toList⟩ : Array Oper).size = ops.size := by simp [lA]
  exact ⟨h2, h3.trans hsz, fun fuel L a w H => CU hg _ _ _ _ (h4 fuel L a w H)⟩
theorem tU (hQ : ∀ c a w, ¬ Q (.panic c) a w) : ∀ (es : List (Nat × Nat)) (hs : List Nat) (ops : Array Oper), (∀ (j : Nat) (o : Oper), ops[j]? = some o -> o.guard = none) -> qa es hs ops = true -> dU n ops = true -> cI (pU es hs ops) = true /\ dU n (pU es hs ops) = true /\ (pU es hs ops).size = ops.size /\
  ∀ a w, wpAnyIn (Fw none) 0 P .any (pU es hs ops) Q ops.size (Array.replicate ops.size false) a w -> wpAnyIn (Fw none) 0 P .any ops Q ops.size (Array.replicate ops.size false) a w
 | [], hs, ops, hg, h, hd => by
  obtain ⟨h2, h3, h4⟩ := tT (ro := none) (P := P) (Q := Q) hs ops hg hd;exact ⟨h, h2, h3, fun a w H => h4 _ _ a w H⟩
 | (x, y) :: l, hs, ops, hg, h, hd => by
  have h : (uS ops x y && qa l hs ⟨dl y ⟨x, .data⟩ ops.toList⟩) = true := h;rw [Bool.and_eq_true] at h;obtain ⟨h1, h2, h3, h4⟩ := tU hQ l hs ⟨dl y ⟨x, .data⟩ ops.toList⟩ (pH hg) h.2 (tS hd);have hsz : (⟨dl y ⟨x, .data⟩ ops.toList⟩ : Array Oper).size = ops.size := by simp [lA]
  rw [hsz] at h3 h4;exact ⟨h1, h2, h3, fun a w H => CT hQ h.1 a w (h4 a w H)⟩
theorem EW (H : qb P C K) (hdst : dU n ops = true) (hok : cI ops = true) {es : List (Nat × Nat)} {hs : List Nat} (he : Aj es hs ops = true) {Γ : aX} {β : Nat -> Nat} {s s' : St} {a : Act} (R : aZ base n0 Γ β s a) (hn : a.tmps.size = n) (hro : ro = none)
  (h : eu C K f (pU es hs ops) (cR (pU es hs ops)) (pU es hs ops).toList 0 s = some s') (hq : ∀ a' w', bI base n0 Γ s s' n a' w' -> Q .normal a' w') : wpAnyIn (Fw ro) 0 P .any ops Q ops.size (Array.replicate ops.size false) a { Γ.w with drawn := Γ.w.drawn + 1 } := by
 subst hro;have hQ : ∀ c a w, ¬ (fun e a w => e = Exit.normal /\ Q .normal a w) (.panic c) a w := fun c a w h => by cases h.1
 unfold Aj at he;rw [Bool.and_eq_true] at he;have hg : ∀ (j : Nat) (o : Oper), ops[j]? = some o -> o.guard = none := fun j o hj => Option.isNone_iff_eq_none.1 (List.all_eq_true.1 he.1 o (List.mem_of_getElem? (by rw [Array.getElem?_toList]; exact hj)))
 obtain ⟨h1, h2, h3, h4⟩ := tU (n := n) (P := P) (Q := fun e a w => e = Exit.normal /\ Q .normal a w) hQ es hs ops hg he.2 hdst;refine tP (fun e a w h => by obtain ⟨rfl, h⟩ := h; exact h) _ _ _ _ (h4 a _ ?_);rw [<- h3];exact oE H h2 h1 R hn h fun a' w' hp => ⟨rfl, hq a' w' hp⟩
variable {P : Program} {C : dO} {Γ Γ0 : aX} {base n0 n f : Nat} {β : Nat -> Nat} {s s' : St} {a : Act} {o : Oper} {K : Callee}
variable {ops : Array Oper}
theorem qY {t : Nat} {x y : Operand} (ho : o.op = .store t x y) (hd : o.dst = none) {id n' off : Nat} (hx : s.slot x = some (.v (.hp id n' off))) (h : aE C K f o s = some s') :
  ∃ ti e xs ys, look C.tab t = some ti /\ (s.val y).bind cellsOf = some ys /\ s.heap[id]? = some (.cells e xs) /\ (s.lo <= id /\ n' = xs.length /\ ys.length = ti.sz /\ off + ti.sz <= xs.length) /\ s' = { s with heap := s.heap.set id (.cells e (bb xs off ys)) } := by
 unfold aE at h;rw [ho] at h;dsimp only at h;rw [hx] at h
 split at h
 ·rename_i e _; cases e
 ·rename_i ti id1 n1 off1 ys e1 e2 e3
  injection e2 with e2;injection e2 with e2;injection e2 with q1 q2 q3;subst q1 q2 q3
  split at h
  ·rename_i e xs hH
   split at h
   ·rename_i hc
    injection h with h;refine ⟨ti, e, xs, ys, e1, e3, hH, hc, ?_⟩;rw [<- h, hd]; rfl
   ·cases h
  ·cases h
 ·cases h
theorem qZ {t : Nat} {x y : Operand} (ho : o.op = .store t x y) (hd : o.dst = none) {id n' off : Nat} (hx : s.slot x = some (.v (.hp id n' off))) {ti : TI} {e : Nat} {xs ys : List AV} (h1 : look C.tab t = some ti) (h2 : (s.val y).bind cellsOf = some ys)
  (h3 : s.heap[id]? = some (.cells e xs)) (h4 : s.lo <= id /\ n' = xs.length /\ ys.length = ti.sz /\ off + ti.sz <= xs.length) : aE C K f o s = some { s with heap := s.heap.set id (.cells e (bb xs off ys)) } := by
 unfold aE;rw [ho];dsimp only;rw [hx, h1, h2];dsimp only;rw [h3];dsimp only;rw [if_pos h4, hd]
 rfl
theorem oF {h : aj} (x : Operand) : ({ s with heap := h } : St).slot x = s.slot x := by cases x <;> rfl
theorem ni {h : aj} (x : Operand) : ({ s with heap := h } : St).val x = s.val x := by unfold St.val; rw [oF]
theorem At {d : Nat} {y : co} {x : Operand} (h : uR d x = true) : ({ s with env := (d, y) :: s.env } : St).slot x = s.slot x := by
 cases x with
 | tmp t =>
  unfold uR at h;have h : d ≠ t := fun e => by simp [e] at h
  show look ((d, y) :: s.env) t = look s.env t;rw [bE, if_neg h]
 | _ => rfl
theorem GD {d : Nat} {y : co} {x : Operand} (h : uR d x = true) : ({ s with env := (d, y) :: s.env } : St).val x = s.val x := by unfold St.val; rw [At h]
theorem y6 {o1 o2 : Oper} {s2 s3 s4 : St} {t1 t2 : Nat} {x1 y1 x2 y2 : Operand} (ho1 : o1.op = .store t1 x1 y1) (ho2 : o2.op = .store t2 x2 y2) (hd1 : o1.dst = none) (hd2 : o2.dst = none) {b n1 f1 c n2 f2 : Nat}
  (hx1 : s2.slot x1 = some (.v (.hp b n1 f1))) (hx2 : s2.slot x2 = some (.v (.hp c n2 f2))) (hbc : b ≠ c) (h1 : aE C K f o1 s2 = some s3) (h2 : aE C K f o2 s3 = some s4) :
  ∃ u, aE C K f o2 s2 = some u /\ aE C K f o1 u = some s4 := by
 obtain ⟨ti, e, xs, ys, a1, a2, a3, a4, rfl⟩ := qY ho1 hd1 hx1 h1;obtain ⟨ti', e', xs', ys', b1, b2, b3, b4, rfl⟩ := qY ho2 hd2 (by rw [oF]; exact hx2) h2;rw [ni] at b2;dsimp only at b3 b4;rw [List.getElem?_set_ne hbc] at b3;refine ⟨_, qZ ho2 hd2 hx2 b1 b2 b3 b4, ?_⟩;rw [qZ (s := { s2 with heap := s2.heap.set c (.cells e' (bb xs' f2 ys')) }) ho1 hd1 (by rw [oF]; exact hx1) a1 (by rw [ni]; exact a2) (by dsimp only; rw [List.getElem?_set_ne hbc.symm]; exact a3) a4];dsimp only;rw [List.set_comm _ _ hbc]
theorem Bv {o0 o2 : Oper} {s1 s2 u : St} {t0 t2 d : Nat} {x i x2 y2 : Operand} (ho0 : o0.op = .indexAddr t0 x i) (hd0 : o0.dst = some d) (ho2 : o2.op = .store t2 x2 y2) (hd2 : o2.dst = none) {j z g l c n2 f2 : Nat}
  (hx : s1.val x = some (.sl j z g l)) (hn1 : uR d x2 = true) (hn2 : uR d y2 = true) (hx2 : s2.slot x2 = some (.v (.hp c n2 f2))) (hjc : j ≠ c) (h0 : aE C K f o0 s1 = some s2) (h2 : aE C K f o2 s2 = some u) :
  ∃ t, aE C K f o2 s1 = some t /\ aE C K f o0 t = some u := by
 have key : ∃ y, s2 = { s1 with env := (d, y) :: s1.env } /\ ∀ h : aj, h[j]? = s1.heap[j]? -> aE C K f o0 { s1 with heap := h } = some { s1 with env := (d, y) :: s1.env, heap := h } := by
  have two : ∀ h : aj, h[j]? = s1.heap[j]? -> ∀ r, aE C K f o0 s1 = some r -> ∃ y, r = { s1 with env := (d, y) :: s1.env } /\ aE C K f o0 { s1 with heap := h } = some { s1 with env := (d, y) :: s1.env, heap := h } := by
   intro h hh r hr;unfold aE at hr;rw [ho0] at hr;dsimp only at hr;rw [hx] at hr
   split at hr
   ·rename_i e sz by_ zr a0 k iv q1 q2 q3
    injection q2 with q2;subst q2
    split at hr
    ·rename_i ti q4
     split at hr
     ·rename_i q5
      dsimp only at hr
      split at hr
      ·rename_i T xs q6
       split at hr
       ·rename_i q7
        injection hr with hr;subst hr;rw [hd0];refine ⟨_, rfl, ?_⟩;unfold aE;rw [ho0];dsimp only;rw [ni (s := s1) (h := h) x, ni (s := s1) (h := h) i, hx, q1, q3];dsimp only;rw [q4];dsimp only;rw [if_pos q5, hh, q6];dsimp only;rw [if_pos q7, hd0]
        rfl
       ·cases hr
      ·cases hr
     ·cases hr
    ·cases hr
   ·cases hr
  obtain ⟨y, e1, _⟩ := two s1.heap rfl s2 h0;refine ⟨y, e1, fun h hh => ?_⟩
  obtain ⟨y', e2, e3⟩ := two h hh s2 h0;rw [e1] at e2;have : y = y' := by
   have := congrArg St.env e2;simp at this;exact this
  rw [this]; exact e3
 obtain ⟨y, rfl, hk⟩ := key;obtain ⟨ti, e, xs, ys, a1, a2, a3, a4, rfl⟩ := qY ho2 hd2 hx2 h2;rw [At hn1] at hx2;rw [GD hn2] at a2;exact ⟨_, qZ ho2 hd2 hx2 a1 a2 a3 a4, hk _ (List.getElem?_set_ne hjc.symm)⟩
def wx (R : Act -> World -> Prop) (Q : Exit -> Act -> World -> Prop) : Exit -> Act -> World -> Prop
 | .normal, a, w => R a w
 | e, a, w => Q e a w
theorem Bw {F : Fence} {m : Nat} {w : World} {X R : Act -> World -> Prop} {Q : Exit -> Act -> World -> Prop} (h : o.wpIn F m P a w X (wx R Q)) : o.wpIn F m P a w X Q := by
 unfold Oper.wpIn at *;refine ⟨h.1, ?_⟩;have h := h.2;generalize (o.semAt F.round a.eval).run P w = r at *;cases r with
 | ok x w' =>
  cases x <;> simp only [Oper.uponIn] at h ⊢ <;>
   first
    | exact h
    | exact ⟨h.1, CallsIn.mono h.2 (fun e w'' he => by cases e <;> exact he)⟩
    | exact ⟨h.1, RoundIn.mono h.2 (fun e w'' he => by cases e <;> exact he)⟩
 | halt x w' => cases x <;> simp only [Oper.uponIn] at h ⊢ <;> exact h
theorem wy {L : Array Bool} {j : Nat} (hj : j < L.size) : bN L j ↔ L.getD j true = true := by
 unfold bN;rw [Array.getD_eq_getD_getElem?, Array.getD_eq_getD_getElem?];simp [hj]
theorem Bx {L : Array Bool} (hok : cI ops = true) (hL : L.size = ops.size) (hr : Region.ready .any ops L = []) : ∀ j, j < ops.size -> bN L j := by
 intro j
 induction j using Nat.strongRecOn with
 | _ j ih =>
  intro hj;cases hh : L.getD j true with
  | true => exact (wy (by omega)).2 hh
  | false =>
   have : j ∈ Region.ready .any ops L := mem_ready.2 ⟨hh, _, Array.getElem?_eq_getElem hj, fun e he hb => by
    have hlt := d7 hok (Array.getElem?_eq_getElem hj) (by simpa using he) hb;exact ih e.on hlt (by omega)⟩
   rw [hr] at this;cases this
variable {ro : Option Nat} {Q : Exit -> Act -> World -> Prop}
theorem mv (hok : cI ops = true) {fuel : Nat} {L : Array Bool} {w : World} (hL : L.size = ops.size) (hne : ∃ j, j < ops.size /\ ¬ bN L j)
  (h : ∀ i o, i < ops.size -> ops[i]? = some o -> L.getD i true = false -> ¬ bN L i -> (∀ e, e ∈ o.after.toList -> Region.binds .any e = true -> L.getD e.on false = true) -> wpOpIn (Fw ro) 0 P ops Q i (wpAnyIn (Fw ro) 0 P .any ops Q fuel (L.setIfInBounds i true)) a w) :
  wpAnyIn (Fw ro) 0 P .any ops Q (fuel + 1) L a w := by
 refine ⟨fun hr => ?_, fun i hi => ?_⟩
 ·obtain ⟨j, hj, hn⟩ := hne
  exact absurd (Bx hok hL hr j hj) hn
 ·obtain ⟨h1, o, ho, hrdy⟩ := mem_ready.1 hi
  have hlt : i < ops.size := by
   rcases Nat.lt_or_ge i ops.size with h' | h'
   ·exact h'
   ·rw [Array.getElem?_eq_none h'] at ho; cases ho
  exact h i o hlt ho h1 (jr h1) fun e he hb => hrdy e (by simpa using he) hb
theorem vh {L : Array Bool} {w : World} (hL : L.size = ops.size) (hall : ∀ j, j < ops.size -> bN L j) (h : Q .normal a w) (fuel : Nat) : wpAnyIn (Fw ro) 0 P .any ops Q fuel L a w := by
 have hr : Region.ready .any ops L = [] := by
  cases hr : Region.ready .any ops L with
  | nil => rfl
  | cons i l =>
   have hi : i ∈ Region.ready .any ops L := by rw [hr]; exact List.mem_cons_self ..
   obtain ⟨h1, o, h2, _⟩ := mem_ready.1 hi;have hlt : i < ops.size := by
    rcases Nat.lt_or_ge i ops.size with h' | h'
    ·exact h'
    ·rw [Array.getElem?_eq_none h'] at h2; cases h2
   rw [eW (hall i hlt)] at h1; cases h1
 cases fuel with
 | zero => exact ⟨hr, h⟩
 | succ fuel => exact ⟨fun _ => h, fun i hi => by rw [hr] at hi; cases hi⟩
theorem fw : (dw ops).size = ops.size - 3 := by unfold dw; simp
theorem vi {j : Nat} (hj : j < ops.size - 3) : (dw ops)[j]? = ops[j]? := by
 unfold dw;rw [<- Array.getElem?_toList, <- Array.getElem?_toList];exact List.getElem?_take_of_lt hj
theorem EX (hok : cI ops = true) (hok' : cI (dw ops) = true) (hbar : ∀ i, ops.size - 3 <= i -> i < ops.size -> ∀ j, j < ops.size - 3 -> ((cR ops).getD i 0).testBit j = true)
  (hgd : ∀ j o i b, j < ops.size - 3 -> ops[j]? = some o -> o.guard = some (i, b) -> i < ops.size - 3) {R : Act -> World -> Prop}
  (hend : ∀ (fuel : Nat) (L : Array Bool) (a : Act) (w : World), 3 <= fuel -> L.size = ops.size -> dW ops L -> (∀ j, j < ops.size - 3 -> bN L j) -> (∀ j, bN L j -> j < ops.size - 3) -> R a w -> wpAnyIn (Fw ro) 0 P .any ops Q fuel L a w) :
  ∀ (fuel : Nat) (L L' : Array Bool) (a : Act) (w : World), L.size = ops.size -> L'.size = ops.size - 3 -> (∀ j, j < ops.size - 3 -> L'[j]? = L[j]?) -> dW ops L -> dW (dw ops) L' -> (∀ j, bN L j -> j < ops.size - 3) -> vd (dw ops) L' <= fuel ->
   wpAnyIn (Fw ro) 0 P .any (dw ops) (wx R Q) fuel L' a w -> wpAnyIn (Fw ro) 0 P .any ops Q (fuel + 3) L a w := by
 have fin : ∀ (fuel : Nat) (L L' : Array Bool) (a : Act) (w : World), L.size = ops.size -> L'.size = ops.size - 3 -> (∀ j, j < ops.size - 3 -> L'[j]? = L[j]?) -> dW ops L -> (∀ j, bN L j -> j < ops.size - 3) -> (∀ j, j < ops.size - 3 -> bN L j) ->
   wpAnyIn (Fw ro) 0 P .any (dw ops) (wx R Q) fuel L' a w -> wpAnyIn (Fw ro) 0 P .any ops Q (fuel + 3) L a w := by
  intro fuel L L' a w hL hL' he hcl hb hall h;have hr : Region.ready .any (dw ops) L' = [] := by
   cases hr : Region.ready .any (dw ops) L' with
   | nil => rfl
   | cons i l =>
    have hi : i ∈ Region.ready .any (dw ops) L' := by rw [hr]; exact List.mem_cons_self ..
    obtain ⟨h1, o, h2, _⟩ := mem_ready.1 hi;have hlt : i < ops.size - 3 := by
     rcases Nat.lt_or_ge i (ops.size - 3) with h' | h'
     ·exact h'
     ·rw [Array.getElem?_eq_none (by rw [fw]; exact h')] at h2; cases h2
    have h3 := eW (hall i hlt);rw [Array.getD_eq_getD_getElem?, <- he i hlt, <- Array.getD_eq_getD_getElem?, h1] at h3;cases h3
  refine hend (fuel + 3) L a w (by omega) hL hcl hall hb ?_;cases fuel with
  | zero => exact h.2
  | succ fuel => exact h.1 hr
 intro fuel
 induction fuel with
 | zero =>
  intro L L' a w hL hL' he hcl hcl' hb hc h;refine fin 0 L L' a w hL hL' he hcl hb (fun j hj => ?_) h;have h0 : vd (dw ops) L' = 0 := by omega
  unfold vd at h0;rw [List.countP_eq_zero] at h0;have := h0 j (List.mem_range.2 (by rw [fw]; exact hj));refine (wy (by omega)).2 ?_;rw [Array.getD_eq_getD_getElem?, <- he j hj, <- Array.getD_eq_getD_getElem?];simpa using this
 | succ fuel ih =>
  intro L L' a w hL hL' he hcl hcl' hb hc h
  by_cases hall : ∀ j, j < ops.size - 3 -> bN L j
  ·exact fin (fuel + 1) L L' a w hL hL' he hcl hb hall h
  have hall : ∃ j, j < ops.size - 3 /\ ¬ bN L j := by
   refine Classical.byContradiction fun hn => hall fun j hj => Classical.byContradiction fun hj' => hn ⟨j, hj, hj'⟩
  obtain ⟨q, hq, hqn⟩ := hall;rw [show fuel + 1 + 3 = (fuel + 3) + 1 by omega]
  refine mv hok hL ⟨q, by omega, hqn⟩ fun i o hi ho h1 hni hrdy => ?_
  have him : i < ops.size - 3 := by
   rcases Nat.lt_or_ge i (ops.size - 3) with h' | h'
   ·exact h'
   ·exact absurd (b8 hok hcl hL i o ho hrdy q (hbar i h' hi q hq)) hqn
  have ho' : (dw ops)[i]? = some o := by rw [vi him]; exact ho
  have hrdy' : ∀ e, e ∈ o.after.toList -> Region.binds .any e = true -> L'.getD e.on false = true := fun e q1 q2 => by
   have := d7 hok ho q1 q2;rw [Array.getD_eq_getD_getElem?, he e.on (by omega), <- Array.getD_eq_getD_getElem?];exact hrdy e q1 q2
  have h1' : L'.getD i true = false := by
   rw [Array.getD_eq_getD_getElem?, he i him, <- Array.getD_eq_getD_getElem?]; exact h1
  have hrd : i ∈ Region.ready .any (dw ops) L' := mem_ready.2 ⟨h1', o, ho', fun e q1 q2 => hrdy' e (by simpa using q1) q2⟩
  have hstep := h.2 i hrd;obtain ⟨a1, a2, _⟩ := cd hL hcl ho h1 hrdy;obtain ⟨b1, b2, b3⟩ := cd (by rw [fw]; exact hL') hcl' ho' h1' hrdy';have next : ∀ a w, wpAnyIn (Fw ro) 0 P .any (dw ops) (wx R Q) fuel (L'.setIfInBounds i true) a w -> wpAnyIn (Fw ro) 0 P .any ops Q (fuel + 3) (L.setIfInBounds i true) a w := fun a w hw => by
   refine ih _ _ a w a1 (by rw [b1, fw]) (fun j hj => ?_) a2 b2 (fun j hj => ?_) (by omega) hw
   ·by_cases e : i = j
    ·subst e
     rw [Array.getElem?_setIfInBounds_self_of_lt (by omega), Array.getElem?_setIfInBounds_self_of_lt (by omega)]
    ·rw [Array.getElem?_setIfInBounds_ne e, Array.getElem?_setIfInBounds_ne e]
     exact he j hj
   ·rcases (aw (by omega)).1 hj with e | e
    ·omega
    ·exact hb j e
  unfold wpOpIn at hstep ⊢;simp only [ho, ho'] at hstep ⊢;have hw : Region.wanted o (yielded (dw ops) a.tmps) = Region.wanted o (yielded ops a.tmps) := by
   unfold Region.wanted;cases hg : o.guard with
   | none => rfl
   | some g =>
    obtain ⟨g1, g2⟩ := g;have := hgd i o g1 g2 him ho hg;dsimp only;unfold yielded;rw [vi this]
  rw [hw] at hstep
  split at hstep
  ·rename_i hh
   rw [if_pos hh];exact Oper.wpIn_mono next (Bw hstep)
  ·rename_i hh
   rw [if_neg hh];exact ⟨hstep.1, next _ _ hstep.2⟩
theorem pI (H : qb P C K) (hdst : dU n ops = true) {s0 : St} {w : World} {X : Act -> World -> Prop} {i : Nat} (ho : ops[i]? = some o) (hg : o.guard = none) (hP : bI base n0 Γ0 s0 s n a w) (h : aE C K f o s = some s')
  (next : ∀ a' w', bI base n0 Γ0 s0 s' n a' w' -> X a' w') : wpOpIn (Fw ro) 0 P ops Q i X a w := by
 obtain ⟨Γ, β, e, R, g, e2, e3, e4⟩ := hP;subst e;unfold wpOpIn;simp only [ho];rw [bZ hg];simp only [if_true];exact fW H R (fun t ht => by rw [e2]; exact dh hdst ho t ht) h fun a' w' hp => next a' w' (bI.then (a1 := a) g e3 e4 (by rw [<- e2]; exact hp))
theorem CV {L : Array Bool} {j : Nat} (h : L.getD j false = true) : bN L j := h
theorem rd {o0 o1 o2 : Oper} (h : oo o0 o1 o2 = true) : ∃ t0 x i d t1 x1 y1 t2 x2 y2, o0.op = .indexAddr t0 x i /\ o0.dst = some d /\ o1.op = .store t1 x1 y1 /\ o2.op = .store t2 x2 y2 /\ o0.guard = none /\ o1.guard = none /\ o2.guard = none /\ o1.dst = none /\ o2.dst = none /\ uR d x2 = true /\ uR d y2 = true := by
 unfold oo at h
 split at h
 ·rename_i t0 x i d t1 x1 y1 t2 x2 y2 h0 h1 h2 h3
  simp only [Bool.and_eq_true, Option.isNone_iff_eq_none] at h;exact ⟨t0, x, i, d, t1, x1, y1, t2, x2, y2, h0, h1, h2, h3, h.1.1.1.1.1.1, h.1.1.1.1.1.2, h.1.1.1.1.2, h.1.1.1.2, h.1.1.2, h.1.2, h.2⟩
 ·cases h
theorem re {o0 o1 o2 : Oper} {s1 s2 : St} {t0 t1 t2 : Nat} {x i x1 y1 x2 y2 : Operand} (h0 : o0.op = .indexAddr t0 x i) (h1 : o1.op = .store t1 x1 y1) (h2 : o2.op = .store t2 x2 y2) (h : jp o0 o1 o2 s1 s2 = true) :
  ∃ j z g l b n1 f1 c n2 f2, s1.val x = some (.sl j z g l) /\ s2.slot x1 = some (.v (.hp b n1 f1)) /\ s2.slot x2 = some (.v (.hp c n2 f2)) /\ j ≠ c /\ b ≠ c := by
 unfold jp at h;rw [h0, h1, h2] at h;dsimp only at h
 split at h
 ·rename_i j z g l b n1 f1 c n2 f2 q1 q2 q3
  simp only [Bool.and_eq_true, bne_iff_ne, ne_eq] at h;exact ⟨j, z, g, l, b, n1, f1, c, n2, f2, q1, q2, q3, h.1, h.2⟩
 ·cases h
theorem CW (H : qb P C K) (hdst : dU n ops = true) (hok : cI ops = true) {m : Nat} (hm : ops.size = m + 3) {o0 o1 o2 : Oper} (ho0 : ops[m]? = some o0) (ho1 : ops[m + 1]? = some o1) (ho2 : ops[m + 2]? = some o2) (hg0 : o0.guard = none) (hg1 : o1.guard = none) (hg2 : o2.guard = none)
  (hbit : ((cR ops).getD (m + 1) 0).testBit m = true) {s0 s1 s2 s3 s4 t u : St} (h0 : aE C K f o0 s1 = some s2) (h1 : aE C K f o1 s2 = some s3) (h2 : aE C K f o2 s3 = some s4) (k0 : aE C K f o2 s2 = some u) (k1 : aE C K f o1 u = some s4)
  (l0 : aE C K f o2 s1 = some t) (l1 : aE C K f o0 t = some u) (hq : ∀ a' w', bI base n0 Γ0 s0 s4 n a' w' -> Q .normal a' w') :
  ∀ (fuel : Nat) (L : Array Bool) (a : Act) (w : World), 3 <= fuel -> L.size = ops.size -> dW ops L -> (∀ j, j < m -> bN L j) -> (∀ j, bN L j -> j < m) -> bI base n0 Γ0 s0 s1 n a w -> wpAnyIn (Fw ro) 0 P .any ops Q fuel L a w := by
 intro fuel L a w hf hL hcl hin hnot hP;obtain ⟨fuel, rfl⟩ : ∃ k, fuel = k + 1 + 1 + 1 := ⟨fuel - 3, by omega⟩
 have n0' : ¬ bN L m := fun h => by have := hnot m h; omega
 have n1' : ¬ bN L (m + 1) := fun h => by have := hnot _ h; omega
 have n2' : ¬ bN L (m + 2) := fun h => by have := hnot _ h; omega
 have same : ∀ {i : Nat} {o o' : Oper}, ops[i]? = some o -> ops[i]? = some o' -> o' = o := fun a b => by rw [a] at b; injection b with b; exact b.symm
 refine mv hok hL ⟨m, by omega, n0'⟩ fun i o hi ho hd hni hrdy => ?_
 obtain ⟨c1, c2, _⟩ := cd hL hcl ho hd hrdy;have him : m <= i := by
  rcases Nat.lt_or_ge i m with h | h
  ·exact absurd (hin i h) hni
  ·exact h
 have mem : ∀ {i j : Nat}, i < L.size -> (bN (L.setIfInBounds i true) j ↔ (j = i \/ bN L j)) := fun h => aw h
 rcases (show i = m \/ i = m + 1 \/ i = m + 2 by omega) with rfl | rfl | rfl
 ·
  cases same ho0 ho;refine pI H hdst ho0 hg0 hP h0 fun a1 w1 hP1 => ?_
  refine mv hok c1 ⟨i + 1, by omega, fun h => by rcases (mem (by omega)).1 h with e | e <;> first | omega | exact n1' e⟩ fun j o' hj ho' hd' hnj hrdy' => ?_
  obtain ⟨d1, d2, _⟩ := cd c1 c2 ho' hd' hrdy';have hij : i < j := by
   rcases Nat.lt_trichotomy j i with h | h | h
   ·exact absurd ((mem (by omega)).2 (.inr (hin j h))) hnj
   ·exact absurd ((mem (by omega)).2 (.inl h)) hnj
   ·exact h
  rcases (show j = i + 1 \/ j = i + 2 by omega) with rfl | rfl
  ·cases same ho1 ho'
   refine pI H hdst ho1 hg1 hP1 h1 fun a2 w2 hP2 => ?_
   refine mv hok d1 ⟨i + 2, by omega, fun h => by
    rcases (aw (by omega)).1 h with e | e
    ·omega
    ·rcases (mem (by omega)).1 e with e | e <;> first | omega | exact n2' e⟩ fun k o'' hk ho'' hd'' hnk hrdy'' => ?_
   obtain ⟨e1, _, _⟩ := cd d1 d2 ho'' hd'' hrdy'';have hk2 : k = i + 2 := by
    refine Classical.byContradiction fun hne => hnk ?_
    rcases (show k = i + 1 \/ k = i \/ k < i by omega) with e | e | e
    ·exact (aw (by omega)).2 (.inl e)
    ·exact (aw (by omega)).2 (.inr ((mem (by omega)).2 (.inl e)))
    ·exact (aw (by omega)).2 (.inr ((mem (by omega)).2 (.inr (hin k e))))
   subst hk2;cases same ho2 ho'';refine pI H hdst ho2 hg2 hP2 h2 fun a3 w3 hP3 => vh e1 (fun q hq' => ?_) (hq _ _ hP3) _
   rcases (show q = i + 2 \/ q = i + 1 \/ q = i \/ q < i by omega) with e | e | e | e
   ·exact (aw (by omega)).2 (.inl e)
   ·exact (aw (by omega)).2 (.inr ((aw (by omega)).2 (.inl e)))
   ·exact (aw (by omega)).2 (.inr ((aw (by omega)).2 (.inr ((mem (by omega)).2 (.inl e)))))
   ·exact (aw (by omega)).2 (.inr ((aw (by omega)).2 (.inr ((mem (by omega)).2 (.inr (hin q e))))))
  ·cases same ho2 ho'
   refine pI H hdst ho2 hg2 hP1 k0 fun a2 w2 hP2 => ?_
   refine mv hok d1 ⟨i + 1, by omega, fun h => by
    rcases (aw (by omega)).1 h with e | e
    ·omega
    ·rcases (mem (by omega)).1 e with e | e <;> first | omega | exact n1' e⟩ fun k o'' hk ho'' hd'' hnk hrdy'' => ?_
   obtain ⟨e1, _, _⟩ := cd d1 d2 ho'' hd'' hrdy'';have hk2 : k = i + 1 := by
    refine Classical.byContradiction fun hne => hnk ?_
    rcases (show k = i + 2 \/ k = i \/ k < i by omega) with e | e | e
    ·exact (aw (by omega)).2 (.inl e)
    ·exact (aw (by omega)).2 (.inr ((mem (by omega)).2 (.inl e)))
    ·exact (aw (by omega)).2 (.inr ((mem (by omega)).2 (.inr (hin k e))))
   subst hk2;cases same ho1 ho'';refine pI H hdst ho1 hg1 hP2 k1 fun a3 w3 hP3 => vh e1 (fun q hq' => ?_) (hq _ _ hP3) _
   rcases (show q = i + 1 \/ q = i + 2 \/ q = i \/ q < i by omega) with e | e | e | e
   ·exact (aw (by omega)).2 (.inl e)
   ·exact (aw (by omega)).2 (.inr ((aw (by omega)).2 (.inl e)))
   ·exact (aw (by omega)).2 (.inr ((aw (by omega)).2 (.inr ((mem (by omega)).2 (.inl e)))))
   ·exact (aw (by omega)).2 (.inr ((aw (by omega)).2 (.inr ((mem (by omega)).2 (.inr (hin q e))))))
 ·exact absurd (b8 hok hcl hL (m + 1) o ho hrdy m hbit) n0'
 ·
  cases same ho2 ho;refine pI H hdst ho2 hg2 hP l0 fun a1 w1 hP1 => ?_
  refine mv hok c1 ⟨m, by omega, fun h => by rcases (mem (by omega)).1 h with e | e <;> first | omega | exact n0' e⟩ fun j o' hj ho' hd' hnj hrdy' => ?_
  obtain ⟨d1, d2, _⟩ := cd c1 c2 ho' hd' hrdy';have hjm : j = m := by
   refine Classical.byContradiction fun hne => ?_
   rcases (show j = m + 2 \/ j = m + 1 \/ j < m by omega) with e | e | e
   ·exact hnj ((mem (by omega)).2 (.inl e))
   ·subst e
    rcases (mem (by omega)).1 (CV (b8 hok c2 c1 _ o' ho' hrdy' m hbit)) with e | e <;> first | omega | exact n0' e
   ·exact hnj ((mem (by omega)).2 (.inr (hin j e)))
  subst hjm;cases same ho0 ho';refine pI H hdst ho0 hg0 hP1 l1 fun a2 w2 hP2 => ?_
  refine mv hok d1 ⟨j + 1, by omega, fun h => by
   rcases (aw (by omega)).1 h with e | e
   ·omega
   ·rcases (mem (by omega)).1 e with e | e <;> first | omega | exact n1' e⟩ fun k o'' hk ho'' hd'' hnk hrdy'' => ?_
  obtain ⟨e1, _, _⟩ := cd d1 d2 ho'' hd'' hrdy'';have hk2 : k = j + 1 := by
   refine Classical.byContradiction fun hne => hnk ?_
   rcases (show k = j + 2 \/ k = j \/ k < j by omega) with e | e | e
   ·exact (aw (by omega)).2 (.inr ((mem (by omega)).2 (.inl e)))
   ·exact (aw (by omega)).2 (.inl e)
   ·exact (aw (by omega)).2 (.inr ((mem (by omega)).2 (.inr (hin k e))))
  subst hk2;cases same ho1 ho'';refine pI H hdst ho1 hg1 hP2 k1 fun a3 w3 hP3 => vh e1 (fun q hq' => ?_) (hq _ _ hP3) _
  rcases (show q = j + 1 \/ q = j \/ q = j + 2 \/ q < j by omega) with e | e | e | e
  ·exact (aw (by omega)).2 (.inl e)
  ·exact (aw (by omega)).2 (.inr ((aw (by omega)).2 (.inl e)))
  ·exact (aw (by omega)).2 (.inr ((aw (by omega)).2 (.inr ((mem (by omega)).2 (.inl e)))))
  ·exact (aw (by omega)).2 (.inr ((aw (by omega)).2 (.inr ((mem (by omega)).2 (.inr (hin q e))))))
theorem By (h : dU n ops = true) : dU n (dw ops) = true := by
 unfold dU at *;rw [List.all_eq_true] at *;intro o ho;obtain ⟨i, hi⟩ := List.getElem?_of_mem ho;rw [Array.getElem?_toList] at hi;refine h o (List.mem_of_getElem? (i := i) ?_);rw [Array.getElem?_toList, <- vi ?_]
 ·exact hi
 ·rcases Nat.lt_or_ge i (ops.size - 3) with h' | h'
  ·exact h'
  ·rw [Array.getElem?_eq_none (by rw [fw]; exact h')] at hi; cases hi
theorem pJ (hmo : P.follows .mixedOrders = true) (H : qb P C K) : kc P C K := by
 intro base n0 f n id ro ops hdst hok Γ β s s' a Q R hn hin h hq;refine wpIn_region_any hmo ?_;unfold yz at h
 split at h
 rotate_left
 ·rename_i es hs _
  split at h
  ·rename_i hc
   rw [Bool.and_eq_true] at hc;exact EW H hdst hok hc.1 R hn (by
    have := hc.2;rw [hin] at this;cases ro with
    | none => rfl
    | some b => cases this) h hq
  ·cases h
 unfold mX at h
 split at h
 ·rename_i ht
  unfold ml at ht;simp only [Bool.and_eq_true, decide_eq_true_eq] at ht;obtain ⟨⟨⟨⟨⟨⟨t1, t2⟩, _⟩, t4⟩, t5⟩, t6⟩, t7⟩ := ht;obtain ⟨m, hm⟩ : ∃ m, ops.size = m + 3 := ⟨ops.size - 3, by omega⟩
  have e3 : ops.size - 3 = m := by omega
  have e2 : ops.size - 2 = m + 1 := by omega
  have e1 : ops.size - 1 = m + 2 := by omega
  unfold CE at h
  split at h
  ·rename_i s1 hs1
   rw [e3, e2, e1] at h t2;rw [e3, e2] at t4
   split at h
   ·rename_i o0 o1 o2 ho0 ho1 ho2
    rw [ho0, ho1, ho2] at t2;obtain ⟨ty0, x, i, d, ty1, x1, y1, ty2, x2, y2, p0, p1, p2, p3, g0, g1, g2, q1, q2, q3, q4⟩ := rd t2
    split at h
    ·rename_i s2 h0
     split at h
     ·rename_i hap
      split at h
      ·rename_i s3 h1
       obtain ⟨j, z, g, l, b, n1, f1, c, n2, f2, r1, r2, r3, r4, r5⟩ := re p0 p2 p3 hap;obtain ⟨u, k0, k1⟩ := y6 p2 p3 q1 q2 r2 r3 r5 h1 h;obtain ⟨t, l0, l1⟩ := Bv p0 p1 p3 q2 r1 q3 q4 r3 r4 h0 k0;have hD := oE (ro := ro) (Q := wx (fun a w => bI base n0 Γ s s1 n a w) Q) H (By hdst) t7 R hn hs1 (fun a' w' hp => hp);have hT := CW (ro := ro) (Γ0 := Γ) (base := base) (n0 := n0) (s0 := s) (Q := Q) H hdst hok hm ho0 ho1 ho2 g0 g1 g2 t4 h0 h1 h k0 k1 l0 l1 hq;have hnone : ∀ (q k : Nat), ¬ bN (Array.replicate k false) q := fun q k h => by
        unfold bN at h;rw [Array.getD_eq_getD_getElem?] at h;rcases Nat.lt_or_ge q k with h' | h'
        ·simp [h'] at h
        ·simp [h'] at h
       have hclo : ∀ (A : Array Oper), dW A (Array.replicate A.size false) := fun A i o ho hi => by
        exfalso;have hlt : i < A.size := by
         rcases Nat.lt_or_ge i A.size with h' | h'
         ·exact h'
         ·rw [Array.getElem?_eq_none h'] at ho; cases ho
        simp [Array.getD_eq_getD_getElem?, hlt] at hi
       have := EX (ro := ro) (Q := Q) (R := fun a w => bI base n0 Γ s s1 n a w) hok t7 (fun i hi1 hi2 j hj => by
        have := List.all_eq_true.1 t5 (i - (ops.size - 3)) (List.mem_range.2 (by omega));have := List.all_eq_true.1 this j (List.mem_range.2 hj);rwa [show ops.size - 3 + (i - (ops.size - 3)) = i by omega] at this) (fun j o i b hj ho hg => by
        have := List.all_eq_true.1 t6 j (List.mem_range.2 hj);rw [ho] at this;dsimp only at this;rw [hg] at this;simpa using this) (fun fuel L a w h1 h2 h3 h4 h5 h6 => hT fuel L a w h1 h2 h3 (by rw [<- e3]; exact h4) (by rw [<- e3]; exact h5) h6)
        (ops.size - 3) (Array.replicate ops.size false) (Array.replicate (dw ops).size false) a _ (by simp) (by simp [fw]) (fun j hj => by
         rw [Array.getElem?_replicate, Array.getElem?_replicate, if_pos (by rw [fw]; exact hj), if_pos (by omega)]) (hclo _) (hclo _) (fun j hj => absurd hj (hnone _ _)) (by
         unfold vd;exact Nat.le_trans List.countP_le_length (by simp [fw])) (by rw [<- fw]; exact hD)
       rwa [show ops.size - 3 + 3 = ops.size by omega] at this
      ·cases h
     ·cases h
    ·cases h
   ·cases h
  ·cases h
 ·exact oE H hdst hok R hn h hq
variable {P : Program} {C : dO}
def y7 : TypeDesc -> Option TK
 | .int k => some (.int k)
 | .bool => some .bool
 | .string => some .str
 | .slice e => some (.slice e)
 | .struct gs => some (.struct (gs.toList.map fun f => (f.offset, f.type)))
 | .pointer _ => some .ptr
 | .map k e => some (.map k e)
 | .func _ _ _ => some .func
 | .interface _ => some .iface
 | _ => none
theorem Bz {d : TypeDesc} {k : TK} (h : y7 d = some k) : yA k d := by
 cases d <;> simp only [y7, Option.some.injEq] at h <;> first | (subst h; simp [yA]; done) | (cases h; done) | (subst h; rfl)
def wz (P : Program) : TypeDesc -> Bool
 | .struct gs => gs.toList.all fun g => (P.info? g.type).isSome
 | _ => true
def GE (P : Program) (t : Nat) : Option TI :=
 match P.info? t, P.underlying t with
 | some i, some d => match i.zero, y7 d with
  | some z, some k => match z.cells.toList.mapM eN with
   | some zs => if z.cells.size = i.size /\ qy z = some k.isAgg /\ wz P d = true then some { kind := k, sz := i.size, bytes := i.bytes, zero := zs } else none
   | none => none
  | _, _ => none
 | _, _ => none
def wA (P : Program) : List Nat -> wb
 | [] => []
 | t :: ts => match GE P t with
  | some ti => (t, ti) :: wA P ts
  | none => wA P ts
theorem EY {t : Nat} {ti : TI} (h : GE P t = some ti) : dS P t ti := by
 unfold GE at h
 split at h
 ·rename_i i d hi hd
  split at h
  ·rename_i z k hz hk
   split at h
   ·rename_i zs hm
    split at h
    ·rename_i hc
     injection h with h; subst h;obtain ⟨c1, c2, c3⟩ := hc;refine ⟨⟨i, hi, rfl, rfl, z, hz, c1, hm, c2⟩, ⟨d, hd, Bz hk⟩, fun gs hg g hgm => ?_⟩
     rw [hd] at hg; injection hg with hg; subst hg;have := List.all_eq_true.1 (show (gs.toList.all fun g => (P.info? g.type).isSome) = true from c3) g hgm;exact Option.isSome_iff_exists.1 this
    ·cases h
   ·cases h
  ·cases h
 ·cases h
theorem rf : ∀ (ts : List Nat), ck P (wA P ts)
 | [], t, ti, h => by cases h
 | t0 :: ts, t, ti, h => by
  simp only [wA] at h
  split at h
  ·rename_i ti0 h0
   rw [bE] at h
   split at h
   ·rename_i e; subst e
    injection h with h; subst h;exact EY h0
   ·exact rf ts t ti h
  ·exact rf ts t ti h
def rg (P : Program) (t : Nat) : Bool :=
 (match P.underlying t with | some (.struct _) => true | _ => false) && !P.eqGuardType P.depth t && !P.stoodInHeld t &&
 (P.fieldsOf t).toList.zipIdx.all fun (f, i) => f.name != "_" && f.offset == i && (match P.underlying f.type with | some (.int _) | some .bool | some .string => true | _ => false)
theorem wB {t : Nat} (h : rg P t = true) : uU P t := by
 unfold rg at h;simp only [Bool.and_eq_true, Bool.not_eq_true'] at h;obtain ⟨⟨⟨h1, h2⟩, h3⟩, h4⟩ := h;refine ⟨?_, h2, h3, fun i f hf => ?_⟩
 ·unfold Program.fieldsOf
  split at h1
  ·rename_i gs hg; rw [hg]
  ·cases h1
 ·have hm : (f, i) ∈ (P.fieldsOf t).toList.zipIdx := by
   rw [List.mem_zipIdx_iff_getElem?];simpa using hf
  have := List.all_eq_true.1 h4 (f, i) hm;simp only [Bool.and_eq_true, bne_iff_ne, ne_eq, beq_iff_eq] at this;obtain ⟨⟨k1, k2⟩, k3⟩ := this;refine ⟨k1, k2, ?_⟩
  split at k3
  ·rename_i k hk; exact ⟨_, hk, .inl ⟨k, rfl⟩⟩
  ·rename_i hk; exact ⟨_, hk, .inr (.inl rfl)⟩
  ·rename_i hk; exact ⟨_, hk, .inr (.inr rfl)⟩
  ·cases k3
def wC (P : Program) (C : dO) : Bool := kX P && P.follows .mixedOrders && C.eqs.all (rg P)
structure l5 (P : Program) (C : dO) : Prop where
 tab : ck P C.tab
 ok : wC P C = true
 orc : gD P C.orc
theorem l5.all (h : l5 P C) (k : Nat) : gD P (call P C k) := by
 have := h.ok;unfold wC at this;simp only [Bool.and_eq_true] at this;obtain ⟨⟨h1, h2⟩, h3⟩ := this;exact qT h.orc h.tab (fun t ht => wB (List.all_eq_true.1 h3 t ht)) h1 (fun K H => pJ h2 H) k
theorem l5.calls (h : l5 P C) {k : Nat} {f : FuncId} {vs : List AV} {r : AV} {h' : aj} {lo base : Nat} {Γ : aX} {args : Array Value} (hc : call P C k lo (.func f) vs Γ.H = some (r, h')) (I : dM base Γ) (hb : base <= Γ.w.heap.size) (hr : bH Γ vs args.toList) :
  Calls P f args Γ.w (dr base lo Γ r h') :=
 callsIn_wide.1 ((h.all k) lo (.func f) vs Γ.H r h' hc base Γ I hb rfl args hr).2
theorem wD : gD P (fun _ _ _ _ => none) := fun _ _ _ _ _ _ h => by cases h
def aX.start (w : World) (S : Nat -> Prop) : aX := { H := [], ρ := fun _ => none, S := S, w := w }
theorem tV {w : World} {S : Nat -> Prop} (hS : ∀ b, S b -> b < w.heap.size) : dM w.heap.size (aX.start w S) :=
 {dom := fun _ _ h => (by cases h), inj := fun _ _ _ h => (by cases h), cells := fun _ _ _ _ h => (by cases h), map := fun _ _ _ h => (by cases h), loop := fun _ _ _ h => (by cases h), stab := hS }
theorem tW {w : World} {S : Nat -> Prop} {lo : Nat} {Γ' : aX} (h : cA lo (fun _ => False) (aX.start w S) Γ') : RowKit.Below w.heap.size w Γ'.w :=
 ⟨h.os, h.tape, h.output, h.size, fun k hk => h.keep k hk (fun _ e => by cases e) (fun e => e)⟩
theorem l5.closed (h : l5 P C) {k : Nat} {f : FuncId} {b : Bool} {h' : aj} (hc : call P C k 0 (.func f) [] [] = some (.bool b, h')) (w : World) :
  Calls P f #[] w (fun | .returned v, w' => v = .bool b /\ RowKit.Below w.heap.size w w' | _, _ => False) := by
 have := h.calls (Γ := aX.start w fun _ => False) (lo := 0) (args := #[]) hc (tV fun _ e => e.elim) (Nat.le_refl _) .nil;refine this.mono fun e w' he => ?_
 cases e with
 | returned v =>
  obtain ⟨Γ', e1, _, hx, _, hv⟩ := he;subst e1;cases hv;exact ⟨rfl, tW hx⟩
 | panicked c => exact he.elim
 | outgrown => exact he.elim
end Go.Ev
