/- Calls, by their depth. -/
import Derived.Test.YtelobnllkhnpaaaEvRange
import Derived.RangeFuncLeaves
namespace Go.Ev
set_option linter.unusedVariables false
set_option linter.unusedSimpArgs false

variable {P : Program} {C : Cfg} {Γ : Ctx} {base n0 f : Nat} {β : Nat → Nat} {s s' : St} {a : Act} {o : Oper} {K : Callee}

def fnOk (fn : Func) : Bool := match fn.body with
  | some b => fn.name != "runtime.NumGoroutine" && codeOk fn.ntmps b
  | none => true
def progOk (P : Program) : Bool := P.funcs.toList.all fnOk

theorem progOk_spec (h : progOk P = true) {f : FuncId} {fn : Func} {b : Code} (hf : P.funcs[f]? = some fn) (hb : fn.body = some b) : fn.name ≠ "runtime.NumGoroutine" ∧ codeOk fn.ntmps b = true := by
  have := List.all_eq_true.1 h fn (List.mem_of_getElem? (by rw [Array.getElem?_toList]; exact hf))
  unfold fnOk at this
  rw [hb] at this
  simpa using this

theorem look_number : ∀ (l : List AV) (n t : Nat) (x : Slot), look (number n l) t = some x → n ≤ t ∧ ∃ a, l[t - n]? = some a ∧ x = .v a
  | [], _, _, _, h => by cases h
  | a :: l, n, t, x, h => by
    simp only [number, look_cons] at h
    split at h
    · rename_i e; subst e
      injection h with h
      exact ⟨Nat.le_refl _, a, by simp, h.symm⟩
    · rename_i e
      obtain ⟨h1, b, h2, h3⟩ := look_number l (n + 1) t x h
      refine ⟨by omega, b, ?_, h3⟩
      rw [show t - n = (t - (n + 1)) + 1 by omega]
      simpa using h2

theorem RelS.start {Γ : Ctx} (I : Inv base Γ) (hb : base ≤ Γ.w.heap.size) {vs : List AV} {args : Array Value} (hr : RelVs Γ vs args.toList) {ntmps lo : Nat} :
    RelS base Γ.w.heap.size Γ (fun _ => 0) { env := number 0 vs, loc := [], heap := Γ.H, inRound := false, lo := lo } { tmps := args ++ Array.replicate (ntmps - args.size) undef, defers := [] } where
  inv := I
  sz := ⟨hb, Nat.le_refl _⟩
  heap := rfl
  env t x hx := by
    obtain ⟨_, av, h2, rfl⟩ := look_number _ _ _ _ hx
    obtain ⟨v, h3, h4⟩ := hr.get _ _ h2
    rw [Nat.sub_zero] at h3
    rw [Array.getElem?_toList] at h3
    have hlt : t < args.size := by
      rcases Nat.lt_or_ge t args.size with h' | h'
      · exact h'
      · rw [Array.getElem?_eq_none h'] at h3; cases h3
    refine ⟨by simp; omega, ?_⟩
    have : (args ++ Array.replicate (ntmps - args.size) undef).getD t undef = v := by
      rw [Array.getD_eq_getD_getElem?, Array.getElem?_append_left hlt, h3]; rfl
    simp only [RelX]
    rw [this]; exact h4
  loc d xs h := by cases h
  linj d d' xs xs' h := by cases h
  marks := ⟨[], rfl, List.nodup_nil, fun r hr => by cases hr⟩

/-- One mark is taken. -/
theorem RelS.takeMark {lo : Nat} {r : Nat} {ds : List Deferred} (R : RelS base n0 Γ β s { a with defers := { target := .collected r, args := #[] } :: ds }) :
    (Instr.takeDeferred r).run P Γ.w = .ok [] { Γ.w with heap := Γ.w.heap.setIfInBounds r (.deferred none) } ∧
    RelS base n0 { Γ with w := { Γ.w with heap := Γ.w.heap.setIfInBounds r (.deferred none) } } β s { a with defers := ds } ∧ Went lo n0 Γ { Γ with w := { Γ.w with heap := Γ.w.heap.setIfInBounds r (.deferred none) } } := by
  obtain ⟨rs, m1, m2, m3⟩ := R.marks
  cases rs with
  | nil => cases m1
  | cons r' rs =>
    simp only [List.map_cons, List.cons.injEq] at m1
    obtain ⟨e1, e2⟩ := m1
    injection e1 with e1 _
    injection e1 with e1
    subst e1
    obtain ⟨h1, h2, h3, h4⟩ := m3 r (List.mem_cons_self ..)
    have hlt := heap_lt h1
    have hext : Went lo n0 Γ { Γ with w := { Γ.w with heap := Γ.w.heap.setIfInBounds r (.deferred none) } } :=
      { Ext.refl lo (fun b => n0 ≤ b ∧ ¬ Γ.S b) Γ with
        sizes := fun b ar T2 fr h => by
          by_cases e : r = b
          · subst e; rw [h1] at h; cases h
          · exact ⟨ar, fr, (heap_set_other e).trans h, rfl⟩
        keep := fun b hb hρ hnB => heap_set_other fun e => hnB (e ▸ ⟨h4, h3⟩)
        barrier := fun id _ _ => ⟨rfl, rfl, fun b hb _ => heap_set_other fun e => h2 id (by rw [e]; exact hb)⟩
        size := by simp }
    have hB : ∀ b, Γ.S b → ¬ (n0 ≤ b ∧ ¬ Γ.S b) := fun b hs h => h.2 hs
    refine ⟨?_, ⟨R.inv.same hext hB rfl rfl rfl (fun id b e => heap_set_other fun h => h2 id (h ▸ e)), ⟨R.sz.1, by simpa using R.sz.2⟩, R.heap, fun t x hx => ?_, fun d ys hy => ?_, R.linj, ⟨rs, e2, (List.nodup_cons.1 m2).2, fun q hq => ?_⟩⟩, hext⟩
    · unfold Instr.takeDeferred
      have hg : (getObj r).run P Γ.w = .ok (.deferred (some [])) Γ.w := by
        simp only [getObj, Sem.run, h1]
      have hst : (setObj r (.deferred none)).run P Γ.w = .ok () { Γ.w with heap := Γ.w.heap.setIfInBounds r (.deferred none) } := by
        simp only [setObj, Sem.run, h1]
      simp only [Sem.run_bind, hg, Result.andThen_ok, hst, Sem.run_pure]
    · obtain ⟨k1, k2⟩ := R.env t x hx
      refine ⟨k1, ?_⟩
      cases x with
      | v av => exact RelV.ext hext R.inv hB k2
      | junk => trivial
      | p e' off => exact k2
    · obtain ⟨arr, T, k1, k2, k3, k4, k5⟩ := R.loc d ys hy
      exact ⟨arr, T, (heap_set_other fun e => by rw [← e, h1] at k1; cases k1).trans k1, k2, k3, fun i x hx => (k4 i x hx).ext hext R.inv hB, k5⟩
    · obtain ⟨k1, k2, k3, k4⟩ := m3 q (List.mem_cons_of_mem _ hq)
      exact ⟨(heap_set_other (fun (e : r = q) => (List.nodup_cons.1 m2).1 (by rw [e]; exact hq))).trans k1, k2, k3, k4⟩

theorem leaves_marks {lo : Nat} {fn : Func} {tmps : Array Value} {Rr : Ending → World → Prop} : ∀ (ds : List Deferred) (Γ : Ctx), RelS base n0 Γ β s { tmps := tmps, defers := ds } →
    (∀ Γ', RelS base n0 Γ' β s { tmps := tmps, defers := [] } → Went lo n0 Γ Γ' → ∃ v, (results fn tmps).run P Γ'.w = .ok v Γ'.w ∧ Rr (.returned v) Γ'.w) → LeavesInM Fence.wide 0 P fn tmps Rr ds .returning Γ.w
  | [], Γ, R, h => h Γ R Went.refl
  | d :: ds, Γ, R, h => by
    have hd : ∃ r, d = { target := .collected r, args := #[] } := by
      obtain ⟨rs, m1, _⟩ := R.marks
      cases rs with
      | nil => cases m1
      | cons r rs => simp only [List.map_cons, List.cons.injEq] at m1; exact ⟨r, m1.1⟩
    obtain ⟨r, rfl⟩ := hd
    obtain ⟨h1, h2, h3⟩ := RelS.takeMark (P := P) (lo := lo) (a := { tmps := tmps, defers := [] }) R
    refine ⟨by simp, .inl ⟨r, _, rfl, h1, leaves_marks ds _ h2 fun Γ' R' g => h Γ' R' (h3.trans g (Nat.le_refl _))⟩⟩

/-- The results. -/
def resF (tmps : Array Value) : ResultVar → Sem Value
  | .tmp t => pure (tmps.getD t undef)
  | .cell a t => do loadVar t (← asAddr (tmps.getD a undef))

theorem resultOf_sound (hT : TabOk P C.tab) (R : RelS base n0 Γ β s a) {r : ResultVar} {x : AV} (h : resultOf C s r = some x) : ∃ v, (resF a.tmps r).run P Γ.w = .ok v Γ.w ∧ RelV Γ x v := by
  cases r with
  | tmp t =>
    simp only [resultOf] at h
    split at h
    · rename_i av hl
      injection h with h; subst h
      exact ⟨_, rfl, (R.env t _ hl).2⟩
    · cases h
  | cell c t =>
    simp only [resultOf] at h
    split at h
    · rename_i ti d off ht hl
      split at h
      · rename_i xs hloc
        obtain ⟨g, h1, h2⟩ := R.locCells hloc
        obtain ⟨v, hv, hrel⟩ := load_sound (hT t ti ht) _ g h1 h2 off h
        rw [add_zero'] at hv
        have hp : a.tmps.getD c undef = .pointer (some ⟨β d, off, none⟩) := (R.env c _ hl).2
        refine ⟨v, ?_, hrel⟩
        unfold resF
        dsimp only
        rw [hp]
        simp only [asAddr, pure_bind]
        exact hv
      · cases h
    · rename_i ti id n off ht hl
      split at h
      · rename_i T xs hH
        split at h
        · rename_i hn
          have hH' : Γ.H[id]? = some (.cells T xs) := by rw [R.heap]; exact hH
          obtain ⟨b, hb, hp⟩ := hp_ptr (R.env c _ hl).2 hH' hn
          obtain ⟨g, h1, h2⟩ := R.inv.objCells hb hH'
          obtain ⟨v, hv', hrel⟩ := load_sound (hT t ti ht) _ g h1 h2 off h
          rw [add_zero'] at hv'
          refine ⟨v, ?_, hrel⟩
          unfold resF
          dsimp only
          rw [hp]
          simp only [asAddr, pure_bind]
          exact hv'
        · cases h
      · cases h
    · cases h

theorem resultsOf_sound (hT : TabOk P C.tab) (R : RelS base n0 Γ β s a) : ∀ {l : List ResultVar} {xs : List AV}, resultsOf C s l = some xs → ∃ vs, (l.mapM (resF a.tmps)).run P Γ.w = .ok vs Γ.w ∧ RelVs Γ xs vs
  | [], xs, h => by injection h with h; subst h; exact ⟨[], rfl, .nil⟩
  | r :: l, xs, h => by
    simp only [resultsOf] at h
    split at h
    · rename_i x hx
      split at h
      · rename_i m hm
        injection h with h; subst h
        obtain ⟨v, h1, h2⟩ := resultOf_sound hT R hx
        obtain ⟨vs, h3, h4⟩ := resultsOf_sound hT R hm
        refine ⟨v :: vs, ?_, .cons h2 h4⟩
        rw [List.mapM_cons]
        simp only [Sem.run_bind, h1, Result.andThen_ok, h3, Sem.run_pure]
      · cases h
    · cases h

def packed : List AV → AV
  | [x] => x
  | l => .tup l
theorem hand_packed {z : Option Nz} {cut : Bool} {H h : Heap} {xs : List AV} {r : AV × Heap} (hres : (match some xs with | some [a] => handF z cut H a h | some l => handF z cut H (.tup l) h | none => none) = some r) : handF z cut H (packed xs) h = some r := by
  cases xs with
  | nil => exact hres
  | cons a l => cases l <;> exact hres

theorem handF_some {z : Option Nz} {cut : Bool} {H h h' : Heap} {a r : AV} (hres : handF z cut H a h = some (r, h')) : ∃ b, hand cut H a h = some (b, h') ∧ ∀ (Γ : Ctx) (v : Value), RelV Γ b v → RelV Γ r v := by
  unfold handF at hres
  split at hres
  · exact ⟨r, hres, fun _ _ hr => hr⟩
  · rename_i z
    split at hres
    · rename_i b h1 hb
      injection hres with hres
      injection hres with e1 e2
      subst e1 e2
      exact ⟨b, hb, fun _ _ hr => nzA_sound hr⟩
    · cases hres

theorem results_sound (hT : TabOk P C.tab) (R : RelS base n0 Γ β s a) {fn : Func} {xs : List AV} (h : resultsOf C s fn.results.toList = some xs) :
    ∃ v, (results fn a.tmps).run P Γ.w = .ok v Γ.w ∧ RelV Γ (packed xs) v := by
  obtain ⟨vs, h1, h2⟩ := resultsOf_sound hT R h
  have hm : (fn.results.mapM (resF a.tmps)).run P Γ.w = .ok vs.toArray Γ.w := by
    rw [Array.mapM_eq_mapM_toList]
    simp only [Sem.run_map, h1, Result.andThen_ok]
  have hrun : (results fn a.tmps).run P Γ.w = .ok (if h : vs.toArray.size = 1 then vs.toArray[0] else .tuple vs.toArray) Γ.w := by
    have e : results fn a.tmps = (do let vs ← fn.results.mapM (resF a.tmps); pure (if h : vs.size = 1 then vs[0] else .tuple vs)) := by
      unfold results resF
      rfl
    rw [e, Sem.run_bind, hm]
    rfl
  refine ⟨_, hrun, ?_⟩
  have hl := h2.len
  cases h2 with
  | nil => simp; exact .tup rfl (by simp)
  | cons hx ht =>
    rename_i x v l m
    cases ht with
    | nil => simpa [packed] using hx
    | cons hy hz =>
      rename_i y u l m
      have hne : ¬ (v :: u :: m).toArray.size = 1 := by simp
      rw [dif_neg hne]
      refine .tup (by simpa using hl) fun i z hi => ?_
      obtain ⟨q, q1, q2⟩ := (RelVs.cons hx (RelVs.cons hy hz)).get i z hi
      have : (v :: u :: m).toArray.getD i undef = q := by
        rw [Array.getD_eq_getD_getElem?, List.getElem?_toArray, q1]; rfl
      rw [this]; exact q2

theorem Went.closed {lo : Nat} {Γ Γ' : Ctx} (h : Went lo Γ.w.heap.size Γ Γ') : Ext lo (fun _ => False) Γ Γ' := h.weaken (Nat.le_refl _) fun b hb e => by
  have := e.1; omega

theorem setParams_rel {Γ : Ctx} : ∀ (ps : List Nat) (xs : List AV) (vs : List Value) (env : List (Nat × Slot)) (tmps : Array Value), RelVs Γ xs vs → ps.length = vs.length → (∀ t, t ∈ ps → t < tmps.size) →
    (∀ (t : Nat) (x : Slot), look env t = some x → t < tmps.size ∧ RelX Γ (fun _ => 0) x (tmps.getD t undef)) →
    ((ps.zip vs).foldl (fun tmps (t, a) => tmps.setIfInBounds t a) tmps).size = tmps.size ∧
    ∀ (t : Nat) (x : Slot), look (setParams env ps xs) t = some x → t < tmps.size ∧ RelX Γ (fun _ => 0) x (((ps.zip vs).foldl (fun tmps (t, a) => tmps.setIfInBounds t a) tmps).getD t undef)
  | [], xs, vs, env, tmps, hr, hl, _, he => by
    cases hr with
    | nil => exact ⟨rfl, he⟩
    | cons _ _ => simp at hl
  | p :: ps, xs, vs, env, tmps, hr, hl, hp, he => by
    cases hr with
    | nil => simp at hl
    | cons hv ht =>
      rename_i x v l m
      have hplt := hp p (List.mem_cons_self ..)
      simp only [List.zip_cons_cons, List.foldl_cons, setParams]
      obtain ⟨h1, h2⟩ := setParams_rel ps l m ((p, .v x) :: env) (tmps.setIfInBounds p v) ht (by simpa using hl) (fun t ht => by
        rw [Array.size_setIfInBounds]; exact hp t (List.mem_cons_of_mem _ ht)) (fun t y hy => by
        rw [Array.size_setIfInBounds]
        simp only [look_cons] at hy
        split at hy
        · rename_i e; subst e
          injection hy with hy; subst hy
          refine ⟨hplt, ?_⟩
          have : (tmps.setIfInBounds p v).getD p undef = v := by simp [Array.getD_eq_getD_getElem?, hplt]
          rw [this]; exact hv
        · rename_i e
          obtain ⟨k1, k2⟩ := he t y hy
          refine ⟨k1, ?_⟩
          have : (tmps.setIfInBounds p v).getD t undef = tmps.getD t undef := by simp [Array.getD_eq_getD_getElem?, e]
          rw [this]; exact k2)
      rw [Array.size_setIfInBounds] at h1
      refine ⟨h1, fun t y hy => ?_⟩
      have := h2 t y hy
      rw [Array.size_setIfInBounds] at this
      exact this

theorem toList_zip_foldl (ps : Array Nat) (args : Array Value) (tmps : Array Value) : (ps.zip args).foldl (fun tmps (t, a) => tmps.setIfInBounds t a) tmps = (ps.toList.zip args.toList).foldl (fun tmps (t, a) => tmps.setIfInBounds t a) tmps := by
  rw [← Array.foldl_toList, Array.toList_zip]

theorem call_func (hO : SoundK P C.orc) (hT : TabOk P C.tab) (hE : ∀ t, t ∈ C.eqs → EqOk P t) (hP : progOk P = true) {k : Nat} (ih : SoundK P (call P C k)) (hD : DrawsOk P C (call P C k)) {lo : Nat} {fid : FuncId} {vs : List AV} {r : AV} {h' : Heap}
    (h : call P C (k + 1) lo (.func fid) vs Γ.H = some (r, h')) (I : Inv base Γ) (hb0 : base ≤ Γ.w.heap.size) {args : Array Value} (hargs : RelVs Γ vs args.toList) :
    (∃ fn, P.funcs[fid]? = some fn ∧ fn.name ≠ "runtime.NumGoroutine" ∧ fn.body.isSome = true) ∧ CallsIn Fence.wide 0 P fid args Γ.w (CallPost base lo Γ r h') := by
  have H : Hyp P C (call P C k) := ⟨hT, hE, ih⟩
  cases ho : C.orc lo (.func fid) vs Γ.H with
  | some q =>
    simp only [call, ho] at h
    injection h with h
    subst h
    exact hO lo (.func fid) vs Γ.H r h' ho base Γ I hb0 rfl args hargs
  | none =>
  simp only [call, ho] at h
  split at h
  · rename_i fn hf
    split at h
    · rename_i b hb
      split at h
      · rename_i hle
        obtain ⟨o1, o2⟩ := progOk_spec hP hf hb
        refine ⟨⟨fn, hf, o1, by rw [hb]; rfl⟩, ?_⟩
        have hal := hargs.len
        simp only [Array.length_toList] at hal
        have hR := RelS.start (ntmps := fn.ntmps) (lo := if C.cut fid then Γ.H.length else lo) I hb0 hargs
        have hsz : (args ++ Array.replicate (fn.ntmps - args.size) undef).size = fn.ntmps := by simp; omega
        refine callsIn_of_wp_marks hf hb trivial ?_
        have fin : ∀ (e : Ex) (s1 : St), e = .normal ∨ e = .ret → exec C (call P C k) fid k b { env := number 0 vs, loc := [], heap := Γ.H, inRound := false, lo := if C.cut fid then Γ.H.length else lo } = some (e, s1) →
            (match resultsOf C s1 fn.results.toList with | some [a] => handF (C.nz fid) (C.cut fid) Γ.H a s1.heap | some l => handF (C.nz fid) (C.cut fid) Γ.H (.tup l) s1.heap | none => none) = some (r, h') →
            b.wpIn Fence.wide 0 P (bodyPostM Fence.wide 0 P fn (CallPost base lo Γ r h')) { tmps := args ++ Array.replicate (fn.ntmps - args.size) undef, defers := [] } Γ.w := by
          intro e s1 he hex hres
          refine exec_sound (ro := none) H hD (ranges_sound H) b o2 Γ _ _ s1 e _ _ hR hsz rfl hex fun a' w' hp => ?_
          obtain ⟨Γ1, β1, e1, R1, g1, e2, e3, e4⟩ := hp
          subst e1
          have hgoal : LeavesInM Fence.wide 0 P fn a'.tmps (CallPost base lo Γ r h') a'.defers .returning Γ1.w := by
            refine leaves_marks (lo := if C.cut fid then Γ.H.length else lo) (base := base) (n0 := Γ.w.heap.size) (β := β1) (s := s1) a'.defers Γ1 R1 fun Γ2 R2 g2 => ?_
            have hx : Ext (if C.cut fid then Γ.H.length else lo) (fun _ => False) Γ Γ2 := (g1.trans g2 (Nat.le_refl _)).closed
            cases hrs : resultsOf C s1 fn.results.toList with
            | none => rw [hrs] at hres; cases hres
            | some xs =>
              rw [hrs] at hres
              obtain ⟨v, hv1, hv2⟩ := results_sound hT R2 hrs
              refine ⟨v, hv1, ?_⟩
              obtain ⟨b, hh, hnz⟩ := handF_some (hand_packed hres)
              suffices hfin : CallPost base lo Γ b h' (.returned v) Γ2.w by
                obtain ⟨Γ3, p1, p2, p3, p4, p5⟩ := hfin
                exact ⟨Γ3, p1, p2, p3, p4, hnz Γ3 v p5⟩
              unfold hand at hh
              cases hcut : C.cut fid with
              | true =>
                rw [hcut] at hh
                simp only [hcut, if_true] at hx
                simp only [if_true] at hh
                split at hh
                · rename_i q hq
                  injection hh with hh
                  injection hh with q1 q2
                  subst q1 q2
                  rw [← R2.heap] at hq
                  exact ⟨Γ.frz Γ2, rfl, rfl, frz_ext I R2.inv hx, frz_inv I R2.inv hx, frz_sound R2.inv hq hv2⟩
                · cases hh
              | false =>
                rw [hcut] at hh
                simp only [hcut, Bool.false_eq_true, if_false] at hx
                simp only [Bool.false_eq_true, if_false] at hh
                injection hh with hh
                injection hh with q1 q2
                subst q1 q2
                exact ⟨Γ2, rfl, R2.heap, hx, R2.inv, hv2⟩
          rcases he with rfl | rfl
          · exact hgoal
          · exact hgoal
        split at h
        · rename_i s1 hex
          exact fin .normal s1 (.inl rfl) hex h
        · rename_i s1 hex
          exact fin .ret s1 (.inr rfl) hex h
        · cases h
      · cases h
    · cases h
  · cases h

end Go.Ev
