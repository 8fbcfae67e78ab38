/- A statement 'for _, v := range m { set[v] = true }': whatever the order is, the set holds the map's values. -/
import Derived.Test.YtelobnllkhnpaaaGreatK2
import Derived.Laws.IdiomRangeMap
set_option linter.unusedVariables false
set_option linter.unusedSimpArgs false
namespace Go.Ev
variable {P : Program} {C : Cfg} {Γ Γ0 : Ctx} {base n0 n f : Nat} {β : Nat → Nat} {s s' : St} {a : Act} {o : Oper} {K : Callee}
theorem run_getIter {w : World} {r : Nat} {m : Option Nat} {x : Nat} {sn : Array Nat} {y : Nat} (h : w.heap[r]? = some (.mapIter m x sn y)) : (getObj r).run P w = .ok (.mapIter m x sn y) w := by simp only [getObj, Sem.run, h]
theorem run_getMap {w : World} {r : Nat} {es : Array MapEntry} {y : Nat} (h : w.heap[r]? = some (.map es y)) : (getObj r).run P w = .ok (.map es y) w := by simp only [getObj, Sem.run, h]
theorem run_setIter {w : World} {r : Nat} {m : Option Nat} {x : Nat} {sn : Array Nat} {y : Nat} {ob : Obj} (h : w.heap[r]? = some (.mapIter m x sn y)) : (setObj r ob).run P w = .ok () { w with heap := w.heap.setIfInBounds r ob } := by simp only [setObj, Sem.run, h]
theorem run_choose (q : Nat) (hq : 0 < q) (w : World) : ∃ j k, j < q ∧ (choose (.mapNext q)).run P w = .ok j { w with drawn := k } := by
  by_cases h : q ≤ 1
  · exact ⟨0, w.drawn, hq, by simp [choose, Sem.run, Question.forced, h]⟩
  · exact ⟨w.tape w.drawn (.mapNext q) % q, w.drawn + 1, Nat.mod_lt _ hq, by
      simp only [choose, Sem.run, Question.forced, decide_eq_true_eq, h, if_false, Question.cut]⟩
theorem alloc_set (w : World) (x y : Obj) : ({ w.alloc x with heap := (w.alloc x).heap.setIfInBounds w.heap.size y } : World) = w.alloc y := by
  have : (w.heap.push x).setIfInBounds w.heap.size y = w.heap.push y := by
    apply Array.ext'
    simp
  show ({ w with heap := (w.heap.push x).setIfInBounds w.heap.size y } : World) = { w with heap := w.heap.push y }
  rw [this]
/-- The next entry: none is left, or one that is left, whichever. -/
theorem run_next (w : World) (ty : TypeId) (bm since c0 : Nat) (seen : Array Nat) (es : Array MapEntry) (clock : Nat) (hb : w.heap[bm]? = some (.map es clock)) (hold : ∀ x, x ∈ es.toList → x.born < since) (hsc : since ≤ c0) :
    ((leftOf es seen).size = 0 ∧ (Instr.next (.pointer (some ⟨w.heap.size, 0, none⟩)) false ty).run P (w.alloc (.mapIter (some bm) since seen c0)) = .ok (.tuple #[.bool false]) (w.alloc (.mapIter (some bm) since seen c0))) ∨
    ∃ e, e ∈ (leftOf es seen).toList ∧ ∃ k : Nat, (Instr.next (.pointer (some ⟨w.heap.size, 0, none⟩)) false ty).run P (w.alloc (.mapIter (some bm) since seen c0)) = .ok (.tuple #[.bool true, e.key, e.val]) (({ w with drawn := k } : World).alloc (.mapIter (some bm) since (seen.push e.born) clock)) := by
  have g1 : (w.alloc (.mapIter (some bm) since seen c0)).heap[w.heap.size]? = some (.mapIter (some bm) since seen c0) := heap_push_new w _
  have g2 : (w.alloc (.mapIter (some bm) since seen c0)).heap[bm]? = some (.map es clock) := (heap_push_old (heap_lt hb)).trans hb
  have hleft : ∀ x, x ∈ (leftOf es seen).toList → x.born < since := fun x hx => hold x (mem_left hx).1
  have e1 : (leftOf es seen).filter (fun x => decide (x.born < since)) = leftOf es seen := Array.filter_eq_self.2 fun x hx => by simpa using hleft x (by simpa using hx)
  have e2 : (leftOf es seen).filter (fun x => decide (x.born ≥ since)) = #[] := by
    rw [Array.filter_eq_empty_iff]
    intro x hx
    have := hleft x (by simpa using hx)
    simp; omega
  have hrun : (Instr.next (.pointer (some ⟨w.heap.size, 0, none⟩)) false ty).run P (w.alloc (.mapIter (some bm) since seen c0)) =
      (do
        let candidates := (if (leftOf es seen).isEmpty then #[none] else #[]) ++ (leftOf es seen).map some
        match candidates[← choose (.mapNext candidates.size)]? with
        | some (some e) =>
          setObj w.heap.size (.mapIter (some bm) since (seen.push e.born) clock)
          pure (.tuple #[.bool true, e.key, e.val])
        | some none => pure (.tuple #[.bool false])
        | none => stuck "Next: no such candidate" : Sem Value).run P (w.alloc (.mapIter (some bm) since seen c0)) := by
    unfold Instr.next
    simp only [Sem.run_bind, run_getIter g1, run_getMap g2, Result.andThen_ok, next_test_false seen es since c0 hold hsc, Bool.false_eq_true, if_false]
    have e0 : Array.filter (fun e : MapEntry => !seen.contains e.born) es = leftOf es seen := rfl
    simp only [e0, e1, e2, Array.append_empty]
    rfl
  rw [hrun]
  by_cases h0 : (leftOf es seen).size = 0
  · refine .inl ⟨h0, ?_⟩
    have : leftOf es seen = #[] := Array.eq_empty_of_size_eq_zero h0
    rw [this]
    simp [choose, Sem.run, Question.forced]
  · refine .inr ?_
    have hne : (leftOf es seen).isEmpty = false := by simp [Array.isEmpty, h0]
    generalize hL : leftOf es seen = L at *
    simp only [hne, Bool.false_eq_true, if_false, Array.empty_append, Array.size_map]
    obtain ⟨j, k, hj, hc⟩ := run_choose (P := P) L.size (by omega) (w.alloc (.mapIter (some bm) since seen c0))
    refine ⟨L[j], by simp, k, ?_⟩
    rw [Sem.run_bind, hc]
    simp only [Result.andThen_ok, Array.getElem?_map, Array.getElem?_eq_getElem hj, Option.map_some]
    rw [Sem.run_bind]
    have g3 : ({ w.alloc (.mapIter (some bm) since seen c0) with drawn := k } : World).heap[w.heap.size]? = some (.mapIter (some bm) since seen c0) := g1
    rw [run_setIter g3]
    simp only [Result.andThen_ok, Sem.run_pure]
    have := alloc_set ({ w with drawn := k } : World) (.mapIter (some bm) since seen c0) (.mapIter (some bm) since (seen.push L[j].born) clock)
    rw [← this]
    rfl
/-! ### What the iterator's block does to the relation -/
theorem RelS.sub (R : RelS base n0 Γ β s a) {E : List (Nat × Slot)} (h : ∀ t x, look E t = some x → look s.env t = some x) : RelS base n0 Γ β { s with env := E } a :=
  { R with env := fun t x hx => R.env t x (h t x hx) }
theorem RelS.other (R : RelS base n0 Γ β s a) {d : Nat} (v : Value) (h : look s.env d = none) : RelS base n0 Γ β s (a.put (some d) v) :=
  { R with
    env := fun t x hx => by
      obtain ⟨h1, h2⟩ := R.env t x hx
      have e : d ≠ t := fun e => by rw [← e, h] at hx; cases hx
      simp only [Act.put, Array.size_setIfInBounds]
      refine ⟨h1, ?_⟩
      have : (a.tmps.setIfInBounds d v).getD t undef = a.tmps.getD t undef := by simp [Array.getD_eq_getD_getElem?, Array.getElem?_setIfInBounds, e]
      rw [this]; exact h2 }
theorem RelS.poke {lo r k : Nat} {ob : Obj} {m : Option Nat} {x y : Nat} {sn : Array Nat} (R : RelS base n0 Γ β s a) (hr : Γ.w.heap[r]? = some (.mapIter m x sn y)) (h2 : ∀ id, Γ.ρ id ≠ some r) (h3 : ¬ Γ.S r) (h4 : n0 ≤ r) :
    RelS base n0 { Γ with w := { Γ.w with heap := Γ.w.heap.setIfInBounds r ob, drawn := k } } β s a ∧ Went lo n0 Γ { Γ with w := { Γ.w with heap := Γ.w.heap.setIfInBounds r ob, drawn := k } } := by
  have hlt := heap_lt hr
  have ne : ∀ b, r ≠ b → ({ Γ.w with heap := Γ.w.heap.setIfInBounds r ob, drawn := k } : World).heap[b]? = Γ.w.heap[b]? := fun b e => heap_set_other (w := Γ.w) e
  have hext : Went lo n0 Γ { Γ with w := { Γ.w with heap := Γ.w.heap.setIfInBounds r ob, drawn := k } } :=
    { Ext.refl lo (fun b => n0 ≤ b ∧ ¬ Γ.S b) Γ with
      sizes := fun b ar T2 fr h => by
        by_cases e : r = b
        · subst e; rw [hr] at h; cases h
        · exact ⟨ar, fr, (ne b e).trans h, rfl⟩
      keep := fun b hb hρ hnB => ne b fun e => hnB (e ▸ ⟨h4, h3⟩)
      barrier := fun id _ _ => ⟨rfl, rfl, fun b hb _ => ne b fun e => h2 id (by rw [e]; exact hb)⟩
      size := by simp }
  have hB : ∀ b, Γ.S b → ¬ (n0 ≤ b ∧ ¬ Γ.S b) := fun b hs h => h.2 hs
  refine ⟨⟨R.inv.same hext hB rfl rfl rfl (fun id b e => ne b fun h => h2 id (h ▸ e)), ⟨R.sz.1, by simpa using R.sz.2⟩, R.heap, fun t z hz => ?_, fun d ys hy => ?_, R.linj, ?_⟩, hext⟩
  · obtain ⟨k1, k2⟩ := R.env t z hz
    refine ⟨k1, ?_⟩
    cases z with
    | v av => exact RelV.ext hext R.inv hB k2
    | junk => trivial
    | p e' off => exact k2
  · obtain ⟨arr, T, k1, k2, k3, k4, k5⟩ := R.loc d ys hy
    exact ⟨arr, T, (ne _ fun e => by rw [← e, hr] at k1; cases k1).trans k1, k2, k3, fun i x hx => (k4 i x hx).ext hext R.inv hB, k5⟩
  · obtain ⟨rs, m1, m2, m3⟩ := R.marks
    refine ⟨rs, m1, m2, fun q hq => ?_⟩
    obtain ⟨k1, k2, k3, k4⟩ := m3 q hq
    exact ⟨(ne _ fun e => by rw [← e, hr] at k1; cases k1).trans k1, k2, k3, k4⟩
theorem eval_self {d : Nat} {v : Value} (h : d < a.tmps.size) : (a.put (some d) v).tmps.getD d undef = v := by simp [Act.put, Array.getD_eq_getD_getElem?, h]
theorem eval_ne {d t : Nat} {v : Value} (h : d ≠ t) : (a.put (some d) v).tmps.getD t undef = a.tmps.getD t undef := by simp [Act.put, Array.getD_eq_getD_getElem?, Array.getElem?_setIfInBounds, h]
theorem ops_step {ro : Option Nat} {ops : Array Oper} {Q : Exit → Act → World → Prop} {i : Nat} {rest : List Nat} {w w' : World} {v : Value} (ho : ops[i]? = some o) (hg : o.guard = none) (hnd : ∀ c, o.op ≠ .defer c) (hr : Runs P o a w w' v) (k : wpOpsIn (Fw ro) 0 P ops Q rest (a.put o.dst v) w') :
    wpOpsIn (Fw ro) 0 P ops Q (i :: rest) a w := by
  simp only [wpOpsIn, ho]
  rw [wanted_none hg]
  simp only [if_true]
  exact runs_wp hnd hr k
/-! ### A set of numbers -/
def setB (l : List Int) : List (AV × AV) := l.map fun n => (.int .i64 n, .bool true)
def insI (l : List Int) (n : Int) : List Int := if n ∈ l then l else l ++ [n]
theorem mem_insI {l : List Int} {n v : Int} : v ∈ insI l n ↔ v ∈ l ∨ v = n := by
  unfold insI
  by_cases h : n ∈ l
  · rw [if_pos h]
    exact ⟨.inl, fun e => e.elim id fun e => e ▸ h⟩
  · rw [if_neg h]; simp
theorem mapPut_set (n : Int) : ∀ l : List Int, mapPut (.int .i64) (setB l) (.int .i64 n) (.bool true) = some (setB (insI l n))
  | [] => rfl
  | m :: l => by
    have ih := mapPut_set n l
    simp only [setB, List.map_cons, mapPut, keyEq] at ih ⊢
    by_cases h : n = m
    · subst h; simp [insI]
    · have hb : (n == m) = false := by simpa using h
      simp only [if_true, hb, ih, Option.map_some]
      unfold insI
      by_cases hm : n ∈ l
      · rw [if_pos hm, if_pos (List.mem_cons_of_mem _ hm)]; rfl
      · rw [if_neg hm, if_neg (fun e => by rcases List.mem_cons.1 e with e | e <;> first | exact h e | exact hm e)]; rfl
theorem mapFind_set (n : Int) : ∀ l : List Int, mapFind (.int .i64) (setB l) (.int .i64 n) = some (if n ∈ l then some (.bool true) else none)
  | [] => rfl
  | m :: l => by
    have ih := mapFind_set n l
    simp only [setB, List.map_cons, mapFind, keyEq] at ih ⊢
    by_cases h : n = m
    · subst h; simp
    · have hb : (n == m) = false := by simpa using h
      simp [hb, ih, h]
def mapI (l : List (Int × Int)) : List (AV × AV) := l.map fun x => (.int .i64 x.1, .int .i64 x.2)
def isOp (o : Oper) (op : Op) (d : Option Tmp) : Prop := o.op = op ∧ o.dst = d ∧ o.guard = none
theorem opers_pre (H : Hyp P C K) {ro : Option Nat} {ops : Array Oper} {n : Nat} (hops : dstOk n ops = true) {Q : Exit → Act → World → Prop} (tail : List Oper) : ∀ (l : List Oper) (k : Nat) (Γ : Ctx) (β : Nat → Nat) (s : St) (a : Act), ops.toList.drop k = l ++ tail → RelS base n0 Γ β s a → a.tmps.size = n → opers C K f ops l s = some s' →
    (∀ Γ' β' a', RelS base n0 Γ' β' s' a' → Went s.lo n0 Γ Γ' → a'.tmps.size = n → s'.lo = s.lo → s'.inRound = s.inRound → wpOpsIn (Fw ro) 0 P ops Q (List.range' (k + l.length) tail.length) a' Γ'.w) → wpOpsIn (Fw ro) 0 P ops Q (List.range' k (l.length + tail.length)) a Γ.w
  | [], k, Γ, β, s, a, _, R, hn, h, hq => by
    injection h with h; subst h
    simpa using hq Γ β a R Went.refl hn rfl rfl
  | o :: l, k, Γ, β, s, a, hl, R, hn, h, hq => by
    have ho : ops[k]? = some o := by
      rw [← Array.getElem?_toList]
      have := congrArg (·[0]?) hl
      simpa using this
    have hl' : ops.toList.drop (k + 1) = l ++ tail := by
      rw [← List.drop_drop, hl]; rfl
    have next : ∀ (s1 : St) (a1 : Act) (Γ1 : Ctx) (β1 : Nat → Nat), RelS base n0 Γ1 β1 s1 a1 → Went s.lo n0 Γ Γ1 → a1.tmps.size = n → s1.lo = s.lo → s1.inRound = s.inRound → opers C K f ops l s1 = some s' → wpOpsIn (Fw ro) 0 P ops Q (List.range' (k + 1) (l.length + tail.length)) a1 Γ1.w := by
      intro s1 a1 Γ1 β1 R1 g e2 e3 e4 h1
      refine opers_pre H hops tail l (k + 1) Γ1 β1 s1 a1 hl' R1 e2 h1 fun Γ' β' a' R' g' q1 q2 q3 => ?_
      have := hq Γ' β' a' R' (g.trans (e3 ▸ g') (Nat.le_refl _)) q1 (q2.trans e3) (q3.trans e4)
      rwa [List.length_cons, show k + (l.length + 1) = k + 1 + l.length by omega] at this
    rw [List.length_cons, show l.length + 1 + tail.length = (l.length + tail.length) + 1 by omega, List.range'_succ]
    simp only [wpOpsIn, ho]
    simp only [opers] at h
    split at h
    · rename_i hg
      rw [guard_sound R hg]
      simp only [if_true]
      split at h
      · rename_i s1 h1
        refine oper_sound H R (fun t ht => by rw [hn]; exact dstOk_spec hops ho t ht) h1 fun a1 w1 hp => ?_
        obtain ⟨Γ1, β1, e1, R1, g, e2, e3, e4⟩ := hp
        subst e1
        exact next s1 a1 Γ1 β1 R1 g (e2.trans hn) e3 e4 h
      · cases h
    · rename_i hg
      rw [guard_sound R hg]
      simp only [Bool.false_eq_true, if_false]
      refine ⟨fun _ _ => trivial, ?_⟩
      have R1 := R.put o.dst (fun t ht => by rw [hn]; exact dstOk_spec hops ho t ht) (x := .v (.tup [])) (v := undef) (RelV.tup rfl (by simp))
      exact next _ _ Γ β R1 Went.refl ((put_size _ _ _).trans hn) (put_lo _ _ _).1 (put_lo _ _ _).2.1 h
    · cases h
theorem alloc_old (w : World) (b : Nat) (x y : Obj) (hb : b < w.heap.size) : ({ w.alloc x with heap := (w.alloc x).heap.setIfInBounds b y } : World) = ({ w with heap := w.heap.setIfInBounds b y } : World).alloc x := by
  have : (w.heap.push x).setIfInBounds b y = (w.heap.setIfInBounds b y).push x := by
    apply Array.ext'
    simp only [Array.toList_setIfInBounds, Array.toList_push]
    rw [List.set_append_left _ _ (by simpa using hb)]
  show ({ w with heap := (w.heap.push x).setIfInBounds b y } : World) = { w with heap := (w.heap.setIfInBounds b y).push x }
  rw [this]
theorem alloc_poke (w : World) (k : Nat) (x y : Obj) : ({ w.alloc x with heap := (w.alloc x).heap.setIfInBounds w.heap.size y, drawn := k } : World) = ({ w with drawn := k } : World).alloc y := by
  have := alloc_set ({ w with drawn := k } : World) x y
  rw [← this]
  rfl
/-- A set is filled with a map's values, in whatever order. -/
theorem set_wp (H : Hyp P C K) {ro : Option Nat} {Q : Exit → Act → World → Prop} {iA iS iE iU out nx : Nat} {opsA opsS opsE opsU : Array Oper} {pre : List Oper} {oR oS1 oS2 oE1 oE2 oE3 oU1 oU2 oU3 : Oper} {it tn tm tp tq tv ta tb tM : Nat} {x1 : Operand} {T1 T2 : TypeId}
    (hA : opsA.toList = pre ++ [oR]) (hS : opsS = #[oS1, oS2]) (hE : opsE = #[oE1, oE2, oE3]) (hU : opsU = #[oU1, oU2, oU3])
    (aR : isOp oR (.range T1 (.tmp tM)) (some it)) (aS1 : isOp oS1 (.next (.tmp it) false) (some tn)) (aS2 : isOp oS2 (.extract (.tmp tn) 0) (some tm))
    (aE1 : isOp oE1 (.entry (.tmp it)) (some tp)) (aE2 : isOp oE2 (.extract (.tmp tp) 1) (some tq)) (aE3 : isOp oE3 (.assign (.tmp tq)) (some tv))
    (aU1 : isOp oU1 (.load T2 x1) (some ta)) (aU2 : isOp oU2 (.move (.tmp tv)) (some tb)) (aU3 : isOp oU3 (.mapUpdate T2 (.tmp ta) (.tmp tb) (.const (.bool true))) none)
    (hdst : dstOk n opsA = true) (hlt : ∀ d, d ∈ [it, tn, tm, tp, tq, tv, ta, tb] → d < n) (hit : ∀ d, d ∈ [tn, tm, tp, tq, tv, ta, tb] → d ≠ it) (hva : ta ≠ tv) (hab : tb ≠ ta)
    {s1 : St} {E : List (Nat × Slot)} {idM idS : Nat} {tl : List (Int × Int)} (hEn : ∀ d, d ∈ [it, tn, tm, tp, tq, tv, ta, tb] → look E d = none) (hEs : ∀ t x, look E t = some x → look s1.env t = some x)
    (R : RelS base n0 Γ β s a) (hn : a.tmps.size = n) (hex : opers C K f opsA pre s = some s1) (hM : s1.val (.tmp tM) = some (.mp idM)) (hHM : s1.heap[idM]? = some (.map (mapI tl))) (hHS : s1.heap[idS]? = some (.map (setB []))) (hidne : idS ≠ idM) (hlo : s1.lo ≤ idS)
    {kt e sz by_ kt2 e2 sz2 by2 : Nat} {zr zr2 : List AV} (hT1 : look C.tab T1 = some { kind := .map kt e, sz := sz, bytes := by_, zero := zr }) (hT2 : look C.tab T2 = some { kind := .map kt2 e2, sz := sz2, bytes := by2, zero := zr2 }) (hk2 : ∀ m, keyKind C.tab kt2 (.int .i64 m) = some (.int .i64))
    (hload : ∀ l, oper C K f oU1 { s1 with env := E, heap := s1.heap.set idS (.map (setB l)) } = some { s1 with env := (ta, .v (.mp idS)) :: E, heap := s1.heap.set idS (.map (setB l)) })
    (hq : ∀ l, (∀ v, v ∈ l ↔ ∃ k, (k, v) ∈ tl) → ∀ a' w', OpPost base n0 Γ s { s1 with env := E, heap := s1.heap.set idS (.map (setB l)) } n a' w' → Q .normal a' w') :
    (Code.seq (.region iA opsA false) (.block out (.loop (.seq (.region iS opsS false) (.seq (.cond (.tmp tm) .skip (.exit out)) (.block nx (.seq (.region iE opsE false) (.region iU opsU false)))))))).wpIn (Fw ro) 0 P Q a Γ.w := by
  subst hS hE hU
  refine wpIn_seq (wpIn_region ?_)
  have hsz : opsA.size = pre.length + 1 := by rw [← Array.length_toList, hA]; simp
  rw [hsz, List.range_eq_range']
  refine opers_pre H hdst [oR] pre 0 Γ β s a (by simpa using hA) R hn hex fun Γ1 β1 a1 R1 g1 e1 e2 e3 => ?_
  have hoR : opsA[0 + pre.length]? = some oR := by
    rw [← Array.getElem?_toList, hA]; simp
  obtain ⟨bM, hρM, hvM⟩ := mp_map (R1.val hM) (by rw [R1.heap]; exact hHM)
  obtain ⟨ms, cl, hbM, hms, hrel, hborn⟩ := R1.inv.map idM bM _ hρM (by rw [R1.heap]; exact hHM)
  have hu1 : P.underlying T1 = some (.map kt e) := (H.tab _ _ hT1).map rfl
  have hr0 := run_range_map (P := P) Γ1.w T1 kt e bM ms cl hu1 hbM
  have hrunR : Runs P oR a1 Γ1.w (Γ1.w.alloc (.mapIter (some bM) cl #[] cl)) (.pointer (some ⟨Γ1.w.heap.size, 0, none⟩)) := by
    left
    unfold execOp
    rw [aR.1]
    dsimp only
    rw [hvM, Sem.run_bind, hr0]
    rfl
  show wpOpsIn (Fw ro) 0 P opsA _ [0 + pre.length] a1 Γ1.w
  refine ops_step hoR aR.2.2 (fun c h => by rw [aR.1] at h; cases h) hrunR ?_
  rw [aR.2.1]
  show Exit.then _ _ .normal _ _
  refine wpIn_block ?_
  have hfree : ∀ id, Γ1.ρ id ≠ some Γ1.w.heap.size := fun id h => by have := (R1.inv.dom id _ h).2.1; omega
  have hfreeS : ¬ Γ1.S Γ1.w.heap.size := fun h => by have := R1.inv.stab _ h; omega
  have hn0 := R1.sz.2
  generalize hrr : Γ1.w.heap.size = r at *
  have hMlt : bM < r := by rw [← hrr]; exact heap_lt hbM
  have key : ∀ (m : Nat) (w0 : World) (seen : Array Nat) (c0 : Nat) (l : List Int) (L : List MapEntry) (a : Act), (leftOf ms seen).size < m → cl ≤ c0 → w0.heap.size = r → w0.heap[bM]? = some (.map ms cl) →
      seen = (L.map (·.born)).toArray → (∀ e, e ∈ L → e ∈ ms.toList) → (∀ v, v ∈ l ↔ ∃ e, e ∈ L ∧ e.val = .int .i64 v) →
      RelS base n0 { Γ1 with H := s1.heap.set idS (.map (setB l)), w := w0.alloc (.mapIter (some bM) cl seen c0) } β1 { s1 with env := E, heap := s1.heap.set idS (.map (setB l)) } a →
      Went s.lo n0 Γ { Γ1 with H := s1.heap.set idS (.map (setB l)), w := w0.alloc (.mapIter (some bM) cl seen c0) } → a.tmps.size = n → a.tmps.getD it undef = .pointer (some ⟨r, 0, none⟩) →
      Code.roundsIn (Fw ro) 0 P (.seq (.region iS #[oS1, oS2] false) (.seq (.cond (.tmp tm) .skip (.exit out)) (.block nx (.seq (.region iE #[oE1, oE2, oE3] false) (.region iU #[oU1, oU2, oU3] false))))) (Exit.inBlock out Q) m a (w0.alloc (.mapIter (some bM) cl seen c0)) := by
    intro m
    induction m with
    | zero => intro w0 seen c0 l L a h; omega
    | succ m ihm =>
      intro w0 seen c0 l L a hm hc0 hw0 hwM hseen hL hl R hwent han hait
      rw [roundsIn_succ]
      refine wpIn_seq (wpIn_region ?_)
      show wpOpsIn (Fw ro) 0 P #[oS1, oS2] _ [0, 1] a _
      have hnext := run_next (P := P) w0 oS1.type bM cl c0 seen ms cl hwM hborn.1 hc0
      rw [hw0] at hnext
      have hev : a.eval (.tmp it) = .pointer (some ⟨r, 0, none⟩) := hait
      have hexec : ∀ (ty : Value) (w' : World), (Instr.next (.pointer (some ⟨r, 0, none⟩)) false oS1.type).run P (w0.alloc (.mapIter (some bM) cl seen c0)) = .ok ty w' → Runs P oS1 a (w0.alloc (.mapIter (some bM) cl seen c0)) w' ty := fun ty w' h => by
        left
        unfold execOp
        rw [aS1.1]
        dsimp only
        rw [hev, Sem.run_bind, h]
        rfl
      have hextr : ∀ (o' : Oper) (a' : Act) (t d i : Nat) (vs : Array Value) (v : Value) (w : World), isOp o' (.extract (.tmp t) i) (some d) → a'.tmps.getD t undef = .tuple vs → vs[i]? = some v → Runs P o' a' w w v := fun o' a' t d i vs v w ho ht hv => by
        left
        unfold execOp
        rw [ho.1]
        dsimp only
        have : a'.eval (.tmp t) = .tuple vs := ht
        rw [this]
        unfold Instr.extract
        rw [Sem.run_bind]
        simp only [hv, Sem.run_pure, Result.andThen_ok]
      have htn : tn < a.tmps.size := by rw [han]; exact hlt tn (by simp)
      rcases hnext with ⟨hz, hrun⟩ | ⟨en, hen, k, hrun⟩
      · -- none is left
        refine ops_step (o := oS1) rfl aS1.2.2 (fun c h => by rw [aS1.1] at h; cases h) (hexec _ _ hrun) ?_
        rw [aS1.2.1]
        refine ops_step (o := oS2) rfl aS2.2.2 (fun c h => by rw [aS2.1] at h; cases h) (hextr oS2 _ tn tm 0 #[.bool false] (.bool false) _ aS2 (eval_self htn) rfl) ?_
        rw [aS2.2.1]
        show Exit.then _ _ .normal _ _
        refine wpIn_seq (wpIn_cond_false (eval_self (by rw [put_size]; rw [han]; exact hlt tm (by simp))) (wpIn_exit ?_))
        show Exit.inBlock out Q (.exit out) _ _
        simp only [Exit.inBlock, if_true]
        refine hq l (fun v => ?_) _ _ ⟨_, β1, rfl, (R.other _ (hEn tn (by simp))).other _ (hEn tm (by simp)), hwent, by rw [put_size, put_size]; exact han, e2, e3⟩
        rw [hl]
        have hseen' := all_seen ms seen hz
        constructor
        · rintro ⟨x, hx, hxv⟩
          obtain ⟨i, hi⟩ := List.getElem?_of_mem (hL x hx)
          rw [Array.getElem?_toList] at hi
          have hil : i < (mapI tl).length := by rw [← hms]; exact (Array.getElem?_eq_some_iff.1 hi).1
          obtain ⟨y, q1, q2, q3⟩ := hrel i _ (List.getElem?_eq_getElem hil)
          rw [hi] at q1
          injection q1 with q1
          subst q1
          have hil' : i < tl.length := by simpa [mapI] using hil
          have hmi : (mapI tl)[i] = (.int .i64 tl[i].1, .int .i64 tl[i].2) := by simp [mapI]
          rw [hmi, hxv] at q3
          cases q3
          exact ⟨tl[i].1, List.getElem_mem hil'⟩
        · rintro ⟨k, hk⟩
          obtain ⟨i, hi⟩ := List.getElem?_of_mem hk
          obtain ⟨y, q1, q2, q3⟩ := hrel i (.int .i64 k, .int .i64 v) (by simp [mapI, hi])
          have hy : y ∈ ms.toList := List.mem_of_getElem? (by rw [Array.getElem?_toList]; exact q1)
          have := hseen' y hy
          rw [hseen] at this
          simp only [List.contains_toArray, List.contains_eq_mem, List.mem_map, decide_eq_true_eq] at this
          obtain ⟨z, hz1, hz2⟩ := this
          have := born_inj hborn.2 (hL z hz1) hy hz2
          subst this
          refine ⟨z, hz1, ?_⟩
          cases hzv : z.val <;> rw [hzv] at q3 <;> cases q3
          rfl
      · -- one that is left
        obtain ⟨hen1, hen2⟩ := mem_left hen
        refine ops_step (o := oS1) rfl aS1.2.2 (fun c h => by rw [aS1.1] at h; cases h) (hexec _ _ hrun) ?_
        rw [aS1.2.1]
        refine ops_step (o := oS2) rfl aS2.2.2 (fun c h => by rw [aS2.1] at h; cases h) (hextr oS2 _ tn tm 0 #[.bool true, en.key, en.val] (.bool true) _ aS2 (eval_self htn) rfl) ?_
        rw [aS2.2.1]
        show Exit.then _ _ .normal _ _
        refine wpIn_seq (wpIn_cond_true (eval_self (by rw [put_size]; rw [han]; exact hlt tm (by simp))) (wpIn_skip ?_))
        show Exit.then _ _ .normal _ _
        refine wpIn_block (wpIn_seq (wpIn_region ?_))
        show wpOpsIn (Fw ro) 0 P #[oE1, oE2, oE3] _ [0, 1, 2] _ _
        generalize ha2 : (a.put (some tn) (Value.tuple #[.bool true, en.key, en.val])).put (some tm) (.bool true) = a2
        have han2 : a2.tmps.size = n := by rw [← ha2, put_size, put_size]; exact han
        have hait2 : a2.tmps.getD it undef = .pointer (some ⟨r, 0, none⟩) := by
          rw [← ha2, eval_ne (hit tm (by simp)), eval_ne (hit tn (by simp))]; exact hait
        -- the relation behind the step
        have hpk := RelS.poke (lo := s.lo) (r := r) (k := k) (ob := .mapIter (some bM) cl (seen.push en.born) cl) ((R.other (Value.tuple #[.bool true, en.key, en.val]) (hEn tn (by simp))).other (.bool true) (hEn tm (by simp))) (m := some bM) (x := cl) (y := c0) (sn := seen) (by
          show (w0.alloc _).heap[r]? = _
          rw [← hw0]; exact heap_push_new _ _) hfree hfreeS hn0
        rw [ha2] at hpk
        have hwk : ({ w0.alloc (.mapIter (some bM) cl seen c0) with heap := (w0.alloc (.mapIter (some bM) cl seen c0)).heap.setIfInBounds r (.mapIter (some bM) cl (seen.push en.born) cl), drawn := k } : World) = ({ w0 with drawn := k } : World).alloc (.mapIter (some bM) cl (seen.push en.born) cl) := by
          rw [← hw0]; exact alloc_poke w0 k _ _
        dsimp only at hpk
        rw [hwk] at hpk
        obtain ⟨R2, g2⟩ := hpk
        have hw1 : ({ w0 with drawn := k } : World).heap.size = r := hw0
        have hentry := run_entry_map (P := P) ({ w0 with drawn := k } : World) bM cl seen ms cl en hwM hen1 hborn.2
        rw [hw1] at hentry
        refine ops_step (o := oE1) (v := .tuple #[en.key, en.val]) rfl aE1.2.2 (fun c h => by rw [aE1.1] at h; cases h) (.inl (by
          unfold execOp
          rw [aE1.1]
          dsimp only
          have : a2.eval (.tmp it) = .pointer (some ⟨r, 0, none⟩) := hait2
          rw [this, Sem.run_bind, hentry]
          rfl)) ?_
        rw [aE1.2.1]
        refine ops_step (o := oE2) rfl aE2.2.2 (fun c h => by rw [aE2.1] at h; cases h) (hextr oE2 _ tp tq 1 #[en.key, en.val] en.val _ aE2 (eval_self (by rw [han2]; exact hlt tp (by simp))) rfl) ?_
        rw [aE2.2.1]
        have hmv : ∀ (o' : Oper) (a' : Act) (t : Nat) (v : Value) (w : World), (o'.op = .assign (.tmp t) ∨ o'.op = .move (.tmp t)) → a'.tmps.getD t undef = v → Runs P o' a' w w v := fun o' a' t v w ho ht => by
          left
          unfold execOp
          have hev : a'.eval (.tmp t) = v := ht
          rcases ho with ho | ho <;> rw [ho] <;> dsimp only <;> rw [hev] <;> rfl
        refine ops_step (o := oE3) rfl aE3.2.2 (fun c h => by rw [aE3.1] at h; cases h) (hmv oE3 _ tq en.val _ (.inl aE3.1) (eval_self (by rw [put_size, han2]; exact hlt tq (by simp)))) ?_
        rw [aE3.2.1]
        show Exit.then _ _ .normal _ _
        refine wpIn_region ?_
        show wpOpsIn (Fw ro) 0 P #[oU1, oU2, oU3] _ [0, 1, 2] _ _
        generalize ha3 : ((a2.put (some tp) (Value.tuple #[en.key, en.val])).put (some tq) en.val).put (some tv) en.val = a3
        have han3 : a3.tmps.size = n := by rw [← ha3, put_size, put_size, put_size]; exact han2
        have hait3 : a3.tmps.getD it undef = .pointer (some ⟨r, 0, none⟩) := by
          rw [← ha3, eval_ne (hit tv (by simp)), eval_ne (hit tq (by simp)), eval_ne (hit tp (by simp))]; exact hait2
        have hav3 : a3.tmps.getD tv undef = en.val := by
          rw [← ha3]; exact eval_self (by rw [put_size, put_size, han2]; exact hlt tv (by simp))
        have R3 := ((R2.other (Value.tuple #[en.key, en.val]) (hEn tp (by simp))).other en.val (hEn tq (by simp))).other en.val (hEn tv (by simp))
        rw [ha3] at R3
        -- the entry's value
        obtain ⟨v0, hv0⟩ : ∃ v0, en.val = .int .i64 v0 := by
          obtain ⟨i, hi⟩ := List.getElem?_of_mem hen1
          rw [Array.getElem?_toList] at hi
          have hil : i < (mapI tl).length := by rw [← hms]; exact (Array.getElem?_eq_some_iff.1 hi).1
          obtain ⟨y, q1, q2, q3⟩ := hrel i _ (List.getElem?_eq_getElem hil)
          rw [hi] at q1
          injection q1 with q1
          subst q1
          have hmi : (mapI tl)[i] = (.int .i64 (tl[i]'(by simpa [mapI] using hil)).1, .int .i64 (tl[i]'(by simpa [mapI] using hil)).2) := by simp [mapI]
          rw [hmi] at q3
          exact ⟨_, by cases hzv : en.val <;> rw [hzv] at q3 <;> cases q3; rfl⟩
        obtain ⟨xv, uv, hl1, hl2, hl3⟩ := pure_load H.tab R3 aU1.1 (hload l)
        have hxv : xv = .v (.mp idS) := by
          rw [aU1.2.1] at hl3
          have := congrArg St.env hl3
          simp [St.put] at this
          exact this.symm
        subst hxv
        refine ops_step (o := oU1) rfl aU1.2.2 (fun c h => by rw [aU1.1] at h; cases h) (.inl hl1) ?_
        rw [aU1.2.1]
        refine ops_step (o := oU2) rfl aU2.2.2 (fun c h => by rw [aU2.1] at h; cases h) (hmv oU2 _ tv en.val _ (.inr aU2.1) (by rw [eval_ne hva]; exact hav3)) ?_
        rw [aU2.2.1]
        have R4 := (R3.put (some ta) (fun t ht => by injection ht with ht; rw [← ht, han3]; exact hlt ta (by simp)) hl2).put (some tb) (x := .v (.int .i64 v0)) (v := en.val) (fun t ht => by injection ht with ht; rw [← ht, put_size, han3]; exact hlt tb (by simp)) (by rw [hv0]; exact RelV.int _ _)
        generalize ha4 : (a3.put (some ta) uv).put (some tb) en.val = a4 at R4
        have han4 : a4.tmps.size = n := by rw [← ha4, put_size, put_size]; exact han3
        have hait4 : a4.tmps.getD it undef = .pointer (some ⟨r, 0, none⟩) := by
          rw [← ha4, eval_ne (hit tb (by simp)), eval_ne (hit ta (by simp))]; exact hait3
        have hidlt : idS < s1.heap.length := cells_lt hHS
        have hvm : (({ s1 with env := E, heap := s1.heap.set idS (.map (setB l)) } : St).put (some ta) (.v (.mp idS))).put (some tb) (.v (.int .i64 v0)) = { s1 with env := (tb, .v (.int .i64 v0)) :: (ta, .v (.mp idS)) :: E, heap := s1.heap.set idS (.map (setB l)) } := rfl
        rw [hvm] at R4
        have hHl : (s1.heap.set idS (.map (setB l)))[idS]? = some (HObj.map (setB l)) := List.getElem?_set_self hidlt
        have hva1 : ({ s1 with env := (tb, .v (.int .i64 v0)) :: (ta, .v (.mp idS)) :: E, heap := s1.heap.set idS (.map (setB l)) } : St).val (.tmp ta) = some (.mp idS) := by
          simp [St.val, St.slot, look_cons, hab]
        have hvb1 : ({ s1 with env := (tb, .v (.int .i64 v0)) :: (ta, .v (.mp idS)) :: E, heap := s1.heap.set idS (.map (setB l)) } : St).val (.tmp tb) = some (.int .i64 v0) := by
          simp [St.val, St.slot, look_cons]
        obtain ⟨bS, hρS, _⟩ := mp_map (R4.val hva1) hHl
        obtain ⟨mS, cS, u1, u2, u3, u4⟩ := R4.inv.map idS bS _ hρS hHl
        obtain ⟨ms', cl', z1, z2, z3⟩ := run_mapUpdate H.tab R4 (xv := .bool true) (x := .const (.bool true)) (kv := .int .i64 v0) hT2 hva1 hvb1 rfl (hk2 v0) (mapPut_set v0 l) hρS hHl u1 u2 u3 u4
        obtain ⟨y1, y2⟩ := z1.to_array
        have hbne : bS ≠ bM := fun e => hidne (R1.inv.inj idS idM bM (e ▸ hρS) hρM)
        have hbr : bS ≠ r := fun e => hfree idS (e ▸ hρS)
        have hblt : bS < r := by
          have := (R4.inv.dom idS bS hρS).2.1
          have hsz2 : (({ w0 with drawn := k } : World).alloc (.mapIter (some bM) cl (seen.push en.born) cl)).heap.size = r + 1 := by rw [alloc_size, hw1]
          have h5 : bS < (({ w0 with drawn := k } : World).alloc (.mapIter (some bM) cl (seen.push en.born) cl)).heap.size := this
          omega
        have hext5 := Ext.updMap R4.inv (es' := setB (insI l v0)) (ms' := ms') (cl' := cl') hlo hρS hHl u1
        have R5 := R4.ext hext5 (R4.inv.upd hρS hext5 ⟨ms', cl', rfl, by simpa using y1, fun i x hx => by
          obtain ⟨m', q1, q2⟩ := y2 i x hx
          exact ⟨m', by rw [← Array.getElem?_toList]; exact q1, q2⟩, z2⟩)
        refine ops_step (o := oU3) (v := undef) (w' := { ({ w0 with drawn := k } : World).alloc (.mapIter (some bM) cl (seen.push en.born) cl) with heap := (({ w0 with drawn := k } : World).alloc (.mapIter (some bM) cl (seen.push en.born) cl)).heap.setIfInBounds bS (.map ms' cl') }) rfl aU3.2.2 (fun c h => by rw [aU3.1] at h; cases h) (.inr ⟨?_, rfl⟩) ?_
        · unfold execOp
          rw [aU3.1]
          dsimp only
          rw [Sem.run_bind, z3]
          rfl
        rw [aU3.2.1]
        show Exit.inBlock nx _ .normal _ _
        show Code.roundsIn (Fw ro) 0 P _ _ m a4 _
        have hwe : ({ ({ w0 with drawn := k } : World).alloc (.mapIter (some bM) cl (seen.push en.born) cl) with heap := (({ w0 with drawn := k } : World).alloc (.mapIter (some bM) cl (seen.push en.born) cl)).heap.setIfInBounds bS (.map ms' cl') } : World) =
          ({ w0 with drawn := k, heap := w0.heap.setIfInBounds bS (.map ms' cl') } : World).alloc (.mapIter (some bM) cl (seen.push en.born) cl) := alloc_old ({ w0 with drawn := k } : World) bS _ _ (by rw [hw1]; exact hblt)
        have hHe : (s1.heap.set idS (.map (setB l))).set idS (.map (setB (insI l v0))) = s1.heap.set idS (HObj.map (setB (insI l v0))) := List.set_set _
        have hΓe : Ctx.upd { Γ1 with H := s1.heap.set idS (.map (setB l)), w := ({ w0 with drawn := k } : World).alloc (.mapIter (some bM) cl (seen.push en.born) cl) } idS bS (.map (setB (insI l v0))) (.map ms' cl') =
            { Γ1 with H := s1.heap.set idS (.map (setB (insI l v0))), w := ({ w0 with drawn := k, heap := w0.heap.setIfInBounds bS (.map ms' cl') } : World).alloc (.mapIter (some bM) cl (seen.push en.born) cl) } := by
          unfold Ctx.upd
          dsimp only
          rw [hHe, hwe]
        rw [hΓe] at R5 hext5
        rw [hwe]
        refine ihm _ (seen.push en.born) cl (insI l v0) (L ++ [en]) a4 ?_ (Nat.le_refl _) (by simpa using hw0) ?_ ?_ (fun x hx => ?_) (fun v => ?_) (R5.sub (E := E) fun t x hx => ?_) ((hwent.trans g2 (Nat.le_refl _)).trans (Went.of hext5) (by rw [e2]; exact Nat.le_refl _)) han4 hait4
        · have := left_shrinks ms seen en hen
          omega
        · rw [show ({ w0 with drawn := k, heap := w0.heap.setIfInBounds bS (.map ms' cl') } : World).heap[bM]? = w0.heap[bM]? from heap_set_other (w := w0) hbne]; exact hwM
        · rw [hseen]; simp
        · rcases List.mem_append.1 hx with hx | hx
          · exact hL x hx
          · simp at hx; subst hx; exact hen1
        · rw [mem_insI, hl]
          constructor
          · rintro (⟨x, hx, hxv⟩ | rfl)
            · exact ⟨x, List.mem_append_left _ hx, hxv⟩
            · exact ⟨en, by simp, hv0⟩
          · rintro ⟨x, hx, hxv⟩
            rcases List.mem_append.1 hx with hx | hx
            · exact .inl ⟨x, hx, hxv⟩
            · simp at hx; subst hx
              rw [hv0] at hxv
              injection hxv with _ hxv
              exact .inr hxv.symm
        · show look ((tb, _) :: (ta, _) :: E) t = some x
          have h1 : tb ≠ t := fun e => by rw [← e, hEn tb (by simp)] at hx; cases hx
          have h2 : ta ≠ t := fun e => by rw [← e, hEn ta (by simp)] at hx; cases hx
          rw [look_cons, if_neg h1, look_cons, if_neg h2]; exact hx
  refine wpIn_loop_rounds ((leftOf ms #[]).size + 1) ?_
  have hset0 : s1.heap.set idS (.map (setB [])) = s1.heap := by
    obtain ⟨hlt', hget⟩ := List.getElem?_eq_some_iff.1 hHS
    rw [← hget, List.set_getElem_self]
  have hH1 := R1.heap
  have R1' := R1.sub (E := E) hEs
  have hal := Ext.alloc 0 Γ1 (.mapIter (some bM) cl #[] cl)
  have R2 := (R1'.ext hal (R1.inv.alloc _)).other (.pointer (some ⟨r, 0, none⟩)) (hEn it (by simp))
  have hΓ2 : ({ Γ1 with H := s1.heap.set idS (.map (setB [])), w := Γ1.w.alloc (.mapIter (some bM) cl #[] cl) } : Ctx) = { Γ1 with w := Γ1.w.alloc (.mapIter (some bM) cl #[] cl) } := by rw [hset0, ← hH1]
  refine key _ Γ1.w #[] cl [] [] _ (Nat.lt_succ_self _) (Nat.le_refl _) hrr hbM rfl (fun e he => by cases he) (fun v => ⟨fun h => (by cases h), fun ⟨x, hx, _⟩ => by cases hx⟩) ?_ ?_ (by rw [put_size]; exact e1) (eval_self (by rw [e1]; exact hlt it (by simp)))
  · rw [hΓ2, hset0, ← hH1]; exact R2
  · rw [hΓ2]; exact g1.trans (Went.of (Ext.alloc s1.lo Γ1 _)) (by rw [e2]; exact Nat.le_refl _)
/- Code run in pieces: what it may leave behind, where that is not one state. -/
variable {P : Program} {C : Cfg} {Γ Γ0 : Ctx} {base n0 n f fuel : Nat} {β : Nat → Nat} {s s' : St} {a : Act} {o : Oper} {K : Callee}
def Does (P : Program) (n : Nat) (c : Code) (s : St) (Post : Ex → St → Prop) : Prop :=
  ∀ (base n0 : Nat) (Γ : Ctx) (β : Nat → Nat) (a : Act) (Q : Exit → Act → World → Prop), RelS base n0 Γ β s a → a.tmps.size = n → s.inRound = false → (∀ e s' a' w', Post e s' → OpPost base n0 Γ s s' n a' w' → Q e.out a' w') → c.wpIn (Fw none) 0 P Q a Γ.w
theorem Does.of (H : Hyp P C K) (hD : DrawsOk P C K) (hF : RangesOk P C K) {c : Code} {Post : Ex → St → Prop} (hok : codeOk n c = true) (h : W C K f fuel c s Post) : Does P n c s Post := by
  intro base n0 Γ β a Q R hn hr hq
  obtain ⟨e, s', h1, h2⟩ := h
  exact exec_sound (ro := none) H hD hF c hok Γ β s s' e a Q R hn (by rw [hr]; rfl) h1 fun a' w' hp => hq e s' a' w' h2 hp
theorem Does.seq {x y : Code} {P1 Post : Ex → St → Prop} (hx : Does P n x s P1) (hy : ∀ s1, P1 .normal s1 → s1.inRound = false → Does P n y s1 Post) (ho : ∀ e s1, e ≠ .normal → P1 e s1 → Post e s1) : Does P n (.seq x y) s Post := by
  intro base n0 Γ β a Q R hn hr hq
  refine wpIn_seq (hx base n0 Γ β a _ R hn hr fun e s1 a1 w1 hp hop => ?_)
  cases e with
  | normal =>
    obtain ⟨Γ1, β1, e1, R1, g, e2, e3, e4⟩ := hop
    subst e1
    exact hy s1 hp (e4.trans hr) base n0 Γ1 β1 a1 Q R1 e2 (e4.trans hr) fun e' s' a' w' hp' hop' => hq e' s' a' w' hp' (OpPost.then (a1 := a1) g e3 e4 hop')
  | exit i => exact hq _ s1 a1 w1 (ho _ _ (by simp) hp) hop
  | ret => exact hq _ s1 a1 w1 (ho _ _ (by simp) hp) hop
/-- What is said of a call, in the model. -/
def SoundAt (P : Program) (lo : Nat) (fid : FuncId) (vs : List AV) (h : Heap) (r : AV) (h' : Heap) : Prop :=
  ∀ (base : Nat) (Γ : Ctx), Inv base Γ → base ≤ Γ.w.heap.size → Γ.H = h → ∀ args : Array Value, RelVs Γ vs args.toList →
    (∃ fn, P.funcs[fid]? = some fn ∧ fn.name ≠ "runtime.NumGoroutine" ∧ fn.body.isSome = true) ∧ CallsIn Fence.wide 0 P fid args Γ.w (CallPost base lo Γ r h')
theorem Does.call (hT : TabOk P C.tab) (hP : progOk P = true) {lo : Nat} {fid : FuncId} {fn : Func} {b : Code} {vs : List AV} {h : Heap} {r : AV} (hf : P.funcs[fid]? = some fn) (hb : fn.body = some b) (hle : vs.length ≤ fn.ntmps) (hcut : C.cut fid = true)
    (hd : Does P fn.ntmps b { env := number 0 vs, loc := [], heap := h, inRound := false, lo := h.length } (fun e s1 => (e = .ret ∨ e = .normal) ∧ finish C fn fid h s1 = some (r, h))) : SoundAt P lo fid vs h r h := by
  intro base Γ I hb0 hH args hargs
  subst hH
  obtain ⟨o1, o2⟩ := progOk_spec hP hf hb
  refine ⟨⟨fn, hf, o1, by rw [hb]; rfl⟩, ?_⟩
  have hal := hargs.len
  simp only [Array.length_toList] at hal
  have hR := RelS.start (ntmps := fn.ntmps) (lo := Γ.H.length) I hb0 hargs
  have hsz : (args ++ Array.replicate (fn.ntmps - args.size) undef).size = fn.ntmps := by simp; omega
  refine callsIn_of_wp_marks hf hb trivial ?_
  refine hd base Γ.w.heap.size Γ _ _ _ hR hsz rfl fun e s1 a' w' hp hop => ?_
  obtain ⟨he, hres⟩ := hp
  obtain ⟨Γ1, β1, e1, R1, g1, e2, e3, e4⟩ := hop
  subst e1
  have hgoal : LeavesInM Fence.wide 0 P fn a'.tmps (CallPost base lo Γ r Γ.H) a'.defers .returning Γ1.w := by
    refine leaves_marks (lo := Γ.H.length) (base := base) (n0 := Γ.w.heap.size) (β := β1) (s := s1) a'.defers Γ1 R1 fun Γ2 R2 g2 => ?_
    have hx : Ext Γ.H.length (fun _ => False) Γ Γ2 := (g1.trans g2 (Nat.le_refl _)).closed
    unfold finish at hres
    cases hrs : resultsOf C s1 fn.results.toList with
    | none => rw [hrs] at hres; cases hres
    | some xs =>
      rw [hrs] at hres
      obtain ⟨v, hv1, hv2⟩ := results_sound hT R2 hrs
      refine ⟨v, hv1, ?_⟩
      obtain ⟨q, hh, hnz⟩ := handF_some (hand_packed hres)
      suffices hfin : CallPost base lo Γ q Γ.H (.returned v) Γ2.w by
        obtain ⟨Γ3, p1, p2, p3, p4, p5⟩ := hfin
        exact ⟨Γ3, p1, p2, p3, p4, hnz Γ3 v p5⟩
      unfold hand at hh
      rw [hcut] at hh
      simp only [if_true] at hh
      split at hh
      · rename_i q' hq
        injection hh with hh
        injection hh with q1 q2
        subst q1
        rw [← R2.heap] at hq
        exact ⟨Γ.frz Γ2, rfl, rfl, frz_ext I R2.inv hx, frz_inv I R2.inv hx, frz_sound R2.inv hq hv2⟩
      · cases hh
  rcases he with rfl | rfl
  · exact hgoal
  · exact hgoal
theorem Does.then {x y : Code} {Post : Ex → St → Prop} (H : Hyp P C K) (hD : DrawsOk P C K) (hF : RangesOk P C K) (hok : codeOk n x = true)
    (h : W C K f fuel x s (fun e s1 => (e = .normal ∧ Does P n y s1 Post) ∨ (e ≠ .normal ∧ Post e s1))) : Does P n (.seq x y) s Post := by
  refine Does.seq (Does.of H hD hF hok h) (fun s1 hp _ => ?_) (fun e s1 he hp => ?_)
  · rcases hp with ⟨_, h⟩ | ⟨h, _⟩
    · exact h
    · exact absurd rfl h
  · rcases hp with ⟨h, _⟩ | ⟨_, h⟩
    · exact absurd h he
    · exact h
/-- A region that draws its order, slots frozen ahead of it. -/
theorem W_dopsF {ops : Array Oper} {bs : List Nat} {Q : Ex → St → Prop} {id : Nat} {s1 : St} (hfr : frzSlots (C.fr f id) s = s1) (ht : tailOk ops = false) (hbs : befs ops = bs) (h : WD C K f ops bs ops.toList 0 s1 (Q .normal)) : W C K f fuel (.region id ops true) s Q := by
  obtain ⟨s2, h1, h2⟩ := h
  subst hbs
  exact ⟨.normal, s2, by simp only [exec, if_true, hfr, regionD, ht, Bool.false_eq_true, if_false, h1, Option.map_some], h2⟩
/-- A set is filled with a map's values; whatever the order is, the rest does as is said. -/
theorem Does.set (H : Hyp P C K) {y : Code} {Post : Ex → St → Prop} {iA iS iE iU out nx : Nat} {opsA : Array Oper} {oR oS1 oS2 oE1 oE2 oE3 oU1 oU2 oU3 : Oper} {it tn tm tp tq tv ta tb tM : Nat} {x1 : Operand} {T1 T2 : TypeId}
    (hA : opsA.toList.getLast? = some oR)
    (aR : isOp oR (.range T1 (.tmp tM)) (some it)) (aS1 : isOp oS1 (.next (.tmp it) false) (some tn)) (aS2 : isOp oS2 (.extract (.tmp tn) 0) (some tm))
    (aE1 : isOp oE1 (.entry (.tmp it)) (some tp)) (aE2 : isOp oE2 (.extract (.tmp tp) 1) (some tq)) (aE3 : isOp oE3 (.assign (.tmp tq)) (some tv))
    (aU1 : isOp oU1 (.load T2 x1) (some ta)) (aU2 : isOp oU2 (.move (.tmp tv)) (some tb)) (aU3 : isOp oU3 (.mapUpdate T2 (.tmp ta) (.tmp tb) (.const (.bool true))) none)
    (hdst : dstOk n opsA = true) (hlt : ([it, tn, tm, tp, tq, tv, ta, tb].all fun d => decide (d < n)) = true) (hit : ([tn, tm, tp, tq, tv, ta, tb].all fun d => d != it) = true) (hva : (ta != tv) = true) (hab : (tb != ta) = true)
    (LV : List Nat) (hLV : ([it, tn, tm, tp, tq, tv, ta, tb].all fun d => !LV.contains d) = true)
    {kt e sz by_ kt2 e2 sz2 by2 : Nat} {zr zr2 : List AV} (hT1 : look C.tab T1 = some { kind := .map kt e, sz := sz, bytes := by_, zero := zr }) (hT2 : look C.tab T2 = some { kind := .map kt2 e2, sz := sz2, bytes := by2, zero := zr2 }) (hk2 : ∀ m, keyKind C.tab kt2 (.int .i64 m) = some (.int .i64))
    (h : WO C K f opsA opsA.toList.dropLast s (fun s1 => ∃ (E : List (Nat × Slot)) (idM idS : Nat) (tl : List (Int × Int)), restr LV s1.env = E ∧ s1.val (.tmp tM) = some (.mp idM) ∧ s1.heap[idM]? = some (.map (mapI tl)) ∧ s1.heap[idS]? = some (.map (setB [])) ∧ idS ≠ idM ∧ s1.lo ≤ idS ∧
      (∀ l, oper C K f oU1 { s1 with env := E, heap := s1.heap.set idS (.map (setB l)) } = some { s1 with env := (ta, .v (.mp idS)) :: E, heap := s1.heap.set idS (.map (setB l)) }) ∧
      ∀ l, (∀ v, v ∈ l ↔ ∃ k, (k, v) ∈ tl) → Does P n y { s1 with env := E, heap := s1.heap.set idS (.map (setB l)) } Post)) :
    Does P n (.seq (.seq (.region iA opsA false) (.block out (.loop (.seq (.region iS #[oS1, oS2] false) (.seq (.cond (.tmp tm) .skip (.exit out)) (.block nx (.seq (.region iE #[oE1, oE2, oE3] false) (.region iU #[oU1, oU2, oU3] false)))))))) y) s Post := by
  obtain ⟨s1, hex, E, idM, idS, tl, q1, q2, q3, q4, q5, q6, q7, q8⟩ := h
  have hE : ∀ d, look E d = if d ∈ LV then look s1.env d else none := fun d => by rw [← q1]; exact look_restr s1.env LV d
  refine Does.seq (P1 := fun e s2 => e = .normal ∧ ∃ l, (∀ v, v ∈ l ↔ ∃ k, (k, v) ∈ tl) ∧ s2 = { s1 with env := E, heap := s1.heap.set idS (.map (setB l)) }) ?_ (fun s2 hp _ => ?_) (fun e s2 he hp => absurd hp.1 he)
  · intro base n0 Γ β a Q R hn hr hq
    refine set_wp (ro := none) (Q := Q) (opsS := #[oS1, oS2]) (opsE := #[oE1, oE2, oE3]) (opsU := #[oU1, oU2, oU3]) (pre := opsA.toList.dropLast) (oR := oR) H ?_ rfl rfl rfl aR aS1 aS2 aE1 aE2 aE3 aU1 aU2 aU3 hdst (fun d hd => ?_) (fun d hd => ?_) ?_ ?_ (fun d hd => ?_) (fun t x hx => ?_) R hn hex q2 q3 q4 q5 q6 hT1 hT2 hk2 q7 (fun l hl a' w' hop => hq .normal _ a' w' ⟨rfl, l, hl, rfl⟩ hop)
    · cases hl : opsA.toList with
      | nil => rw [hl] at hA; cases hA
      | cons x l =>
        rw [hl, List.getLast?_eq_some_getLast (by simp)] at hA
        injection hA with hA
        rw [← hA, List.dropLast_concat_getLast]
    · have := List.all_eq_true.1 hlt d hd; simpa using this
    · have := List.all_eq_true.1 hit d hd; simpa using this
    · simpa using hva
    · simpa using hab
    · have := List.all_eq_true.1 hLV d hd
      rw [hE, if_neg (by simpa using this)]
    · rw [hE] at hx
      split at hx
      · exact hx
      · cases hx
  · obtain ⟨_, l, hl, rfl⟩ := hp
    exact q8 l hl
end Go.Ev
