/- A region that draws its order. -/
import Derived.Test.YtelobnllkhnpaaaEvDraw3
namespace Go.Ev
set_option linter.unusedVariables false
set_option linter.unusedSimpArgs false

variable {P : Program} {C : Cfg} {Γ Γ0 : Ctx} {base n0 f : Nat} {β : Nat → Nat} {s s' : St} {a : Act} {o : Oper} {K : Callee}
variable {ops : Array Oper} {st : Nat → St} {lo n m M : Nat} {L : Array Bool}

theorem look_restr {α : Type} (env : List (Nat × α)) : ∀ (l : List Nat) (t : Nat), look (restr l env) t = if t ∈ l then look env t else none
  | [], t => by simp [restr, look]
  | k :: l, t => by
    have ih := look_restr env l t
    unfold restr at ih ⊢
    cases hk : look env k with
    | none =>
      simp only [List.filterMap_cons, hk, Option.map_none]
      rw [ih]
      by_cases e : t = k
      · subst e; simp [hk]
      · simp [e]
    | some y =>
      simp only [List.filterMap_cons, hk, Option.map_some, look_cons]
      by_cases e : k = t
      · subst e; simp [hk]
      · rw [if_neg e, ih]
        have e' : ¬ t = k := fun h => e h.symm
        simp [e']

theorem guard_restr {s : St} {lo' : Nat} : guardOn ops o { s with env := restr (namesOf ops o) s.env, lo := lo' } = guardOn ops o s := by
  unfold guardOn
  split
  · rfl
  · rename_i j want hg
    split
    · rename_i d hd
      have : d ∈ namesOf ops o := by
        unfold namesOf
        rw [hg]
        refine List.mem_append_right _ ?_
        simp [hd]
      dsimp only
      rw [look_restr, if_pos this]
    · rfl

theorem ready_isIn {e : Edge} (h : L.getD e.on false = true) (hL : L.size = ops.size) : isIn L e.on ∧ e.on < ops.size := by
  have : e.on < L.size := by
    rcases Nat.lt_or_ge e.on L.size with h' | h'
    · exact h'
    · rw [Array.getD_eq_getD_getElem?, Array.getElem?_eq_none h'] at h; cases h
  exact ⟨h, by omega⟩

theorem isIn_lt {j : Nat} (hL : L.size = ops.size) (h : isIn L j) : j < ops.size := by
  unfold isIn at h
  rcases Nat.lt_or_ge j L.size with h' | h'
  · omega
  · rw [Array.getD_eq_getD_getElem?, Array.getElem?_eq_none h'] at h; cases h

theorem isIn_true {j : Nat} (h : isIn L j) : L.getD j true = true := by
  unfold isIn at h
  rw [Array.getD_eq_getD_getElem?] at h ⊢
  cases hh : L[j]? with
  | none => rw [hh] at h; cases h
  | some w => rw [hh] at h; simpa using h
theorem not_isIn {j : Nat} (h : L.getD j true = false) : ¬ isIn L j := fun e => by
  rw [isIn_true e] at h; cases h

/-- An operation that may come before or behind another. -/
theorem light_step (H : Hyp P C K) (T : Tr C K f ops st) (hok : drawOk ops = true) (hdst : dstOk n ops = true) (hL : L.size = ops.size) (hcl : Closed ops L) {ro : Option Nat} {Q : Exit → Act → World → Prop}
    (p : PR ops st base n0 lo Γ0 n m M L Γ β a) {i : Nat} (hi : ops[i]? = some o) (h1 : m ≤ i) (h2 : i < M) (hni : ¬ isIn L i) (hrdy : ∀ e, e ∈ o.after.toList → Region.binds .any e = true → L.getD e.on false = true) :
    wpOpIn (Fw ro) 0 P ops Q i (fun a' w' => ∃ Γ'', Γ''.w = w' ∧ PR ops st base n0 lo Γ0 n m M (L.setIfInBounds i true) Γ'' β a') a Γ.w := by
  have hM := p.mM
  have hlt := p.light i h1 h2
  have hto := light_to T h1 (by omega) (fun k q1 q2 => p.light k q1 (by omega))
  have htoM := light_to T (Nat.le_of_lt h2) hM.2 (fun k q1 q2 => p.light k (by omega) q2)
  have hcutH : (Γ.cut (len st i)).H = (st i).heap := by
    obtain ⟨new, e⟩ := htoM.2.2.2.1
    show Γ.H.take _ = _
    rw [p.H, e]
    exact List.take_left' rfl
  have hdo := dstOk_spec hdst hi
  have hR : RelS base n0 (Γ.cut (len st i)) β { st i with env := restr (namesOf ops o) (st i).env, lo := (st i).heap.length } a := by
    refine { inv := p.invCut h1 (Nat.le_of_lt h2), sz := p.sz, heap := hcutH, env := fun t x hx => ?_, loc := fun d xs hx => ?_, linj := fun d d' xs xs' h h' => ?_, marks := ?_ }
    · rw [p.asz]
      simp only [look_restr] at hx
      split at hx
      · rename_i hmem
        obtain ⟨d, hd⟩ : ∃ d, i = m + d := ⟨i - m, by omega⟩
        have hne : ∀ j o', isIn L j → i < j → ops[j]? = some o' → o'.dst ≠ some t := fun j o' hj hij ho' hd' => by
          rcases drawOk_names hok hi ho' (by omega) hd' hmem with ⟨q, _⟩ | ⟨_, hb⟩
          · omega
          · exact hni (closed_before hok hcl hL j o' ho' (hcl j o' ho' (isIn_true hj)) i hb)
        rw [hd] at hx
        rcases last_writer T d (by omega) (fun k q1 q2 => p.light k q1 (by omega)) hx with ⟨q1, q2⟩ | ⟨j, o', q1, q2, q3, q4, q5, q6⟩
        · obtain ⟨r1, r2⟩ := p.env0 t x q2 (fun j o' k1 k2 k3 => by
            rcases Nat.lt_trichotomy j i with h | h | h
            · exact q1 j o' k1 (by omega) k3
            · exact absurd (h ▸ k2) hni
            · exact hne j o' k2 h k3)
          exact ⟨r1, r2.ext0 (p.cutUp T (Nat.le_refl _) h1 (Nat.le_of_lt h2))⟩
        · have hjL : isIn L j := by
            rcases drawOk_names hok hi q3 (by omega) q4 hmem with ⟨_, hb⟩ | ⟨q, _⟩
            · exact closed_before hok hcl hL i o hi hrdy j hb
            · omega
          obtain ⟨r1, y, r2, r3⟩ := p.envL j o' t q1 hjL q3 q4 (fun j' o2 k1 k2 k3 => by
            rcases Nat.lt_trichotomy j' i with h | h | h
            · exact q5 j' o2 k1 (by omega) k3
            · exact absurd (h ▸ k2) hni
            · exact hne j' o2 k2 h k3)
          rw [q6] at r2; injection r2 with r2; subst r2
          exact ⟨r1, r3.ext0 (p.cutUp T (by omega) (show j + 1 ≤ i by omega) (Nat.le_of_lt h2))⟩
      · cases hx
    · rw [show ({ st i with env := restr (namesOf ops o) (st i).env, lo := (st i).heap.length } : St).loc = (st m).loc from hto.1] at hx
      obtain ⟨arr, T', r1, r2, r3, r4, r5, r6⟩ := p.loc d xs hx
      exact ⟨arr, T', r1, r2, r3, fun k x hk => (r4 k x hk).ext0 (p.cutUp T (Nat.le_refl _) h1 (Nat.le_of_lt h2)), fun id e => r5 id (cut_rho.1 e).2, r6⟩
    · rw [show ({ st i with env := restr (namesOf ops o) (st i).env, lo := (st i).heap.length } : St).loc = (st m).loc from hto.1] at h h'
      exact p.linj d d' xs xs' h h'
    · obtain ⟨rs, k1, k2, k3⟩ := p.marks
      exact ⟨rs, k1, k2, fun r hr => let ⟨r1, r2, r3⟩ := k3 r hr; ⟨r1, fun id e => r2 id (cut_rho.1 e).2, r3⟩⟩
  unfold wpOpIn
  simp only [hi]
  rcases T.step i o hi with ⟨hg, hs⟩ | ⟨_, ha, _⟩ | ⟨hg, _, hs⟩
  · rw [← guard_restr (lo' := (st i).heap.length)] at hg
    rw [guard_sound hR hg]
    simp only [Bool.false_eq_true, if_false]
    refine ⟨fun _ _ => trivial, ?_⟩
    refine p.merge T hok hL hcl hi h1 h2 hni hdo (Ext.refl _ _ _) (p.invCut h1 (Nat.le_of_lt h2)) ?_ (x := .v (.tup [])) (v := undef) (RelV.tup rfl (by simp)) (fun t ht => ?_)
    · rw [hcutH, hs]; exact (put_lo _ _ _).2.2.1.symm
    · rw [hs]; unfold St.putv St.put; rw [ht]; simp [look_cons]
  · exact absurd (hlt.symm.trans ha) (by simp)
  · rw [← guard_restr (lo' := (st i).heap.length)] at hg
    rw [guard_sound hR hg]
    simp only [if_true]
    unfold stepD at hs
    split at hs
    · cases hs
    · rename_i hnl
      split at hs
      · rename_i s1 hop
        refine oper_heap H hR (f := f) (fun hl => hnl ?_) hop fun v w' hp => ?_
        · unfold ofLocal at hl
          unfold isLocal
          cases ho : o.op <;> rw [ho] at hl <;> first | exact hl.elim | skip
          · obtain ⟨d, q1, q2⟩ := hl; simp [q1, q2]
          · obtain ⟨d, q1, q2⟩ := hl; simp [q1, q2]
        · obtain ⟨Γ', x, e1, hext, hI, hx, e2⟩ := hp
          subst e1
          have hH1 : s1.heap = Γ'.H := by rw [e2]; exact (put_lo _ _ _).2.2.1
          have htake : Γ'.H.take (len st i) = (st i).heap := by
            apply List.ext_getElem?
            intro id
            rcases Nat.lt_or_ge id (len st i) with h | h
            · rw [List.getElem?_take_of_lt h, (hext.barrier id h (by rw [hcutH]; exact h)).1, hcutH]
            · rw [List.getElem?_take_eq_none h, List.getElem?_eq_none h]
          have hHs : Γ'.H = (st i).heap ++ s1.heap.drop (st i).heap.length := by
            rw [hH1, ← htake]
            have : (Γ'.H.take (len st i)).length = len st i := by rw [htake]; rfl
            rw [this, List.take_append_drop]
          split at hs
          · rename_i hd
            injection hs with hs
            exact p.merge T hok hL hcl hi h1 h2 hni hdo hext hI (by rw [hHs, ← hs]) hx (fun t ht => by rw [hd] at ht; cases ht)
          · rename_i d hd
            split at hs
            · rename_i y hy
              injection hs with hs
              refine p.merge T hok hL hcl hi h1 h2 hni hdo hext hI (by rw [hHs, ← hs]) hx (fun t ht => ?_)
              rw [hd] at ht; injection ht with ht; subst ht
              rw [e2, hd] at hy
              simp only [St.put, look_cons, if_true] at hy
              rw [← hs]
              simp only [look_cons, if_true]
              exact hy.symm
            · cases hs
      · cases hs

theorem PR.ofRelS (R : RelS base n0 Γ β (st M) a) (hM : M ≤ ops.size) (hpre : ∀ j, j < M → isIn L j) (hb : ∀ j, isIn L j → j < M) (hw : Went lo n0 Γ0 Γ) (hn : a.tmps.size = n) (hlo : (st M).lo = lo ∧ (st M).inRound = (st 0).inRound) :
    PR ops st base n0 lo Γ0 n M M L Γ β a := by
  have hlenM : Γ.H.length = len st M := by rw [R.heap]; rfl
  have hcut : Γ.cut (len st M) = Γ := cut_all (by rw [hlenM]; exact Nat.le_refl _) (fun id b h => (R.inv.dom id b h).1)
  exact
    { mM := ⟨Nat.le_refl _, hM⟩, pre := hpre, bound := hb, light := fun i q1 q2 => by omega, H := R.heap, dom := R.inv.dom, inj := R.inv.inj
      objs := fun k q1 q2 id b o _ hr ho => by
        have : k = M := by omega
        subst this
        rw [hcut]
        exact ObjOk.of R.inv hr ho
      stab := R.inv.stab
      absent := fun j q1 q2 => by omega
      env0 := fun t x hx _ => by rw [hcut, ← hn]; exact R.env t x hx
      envL := fun j o t q1 q2 => by have := hb j q2; omega
      sz := R.sz
      loc := fun d xs hx => by rw [hcut]; exact R.loc d xs hx
      linj := R.linj, marks := R.marks
      g0 := by rw [← hlenM]; exact hw.len
      went := hw, asz := hn, lo' := hlo }

theorem countP_lt {α : Type} {p q : α → Bool} : ∀ {l : List α}, (∀ x, x ∈ l → q x = true → p x = true) → (∃ x, x ∈ l ∧ p x = true ∧ q x = false) → l.countP q < l.countP p
  | [], _, h => by obtain ⟨x, hx, _⟩ := h; cases hx
  | y :: l, h, hex => by
    have hle : ∀ {l : List α}, (∀ x, x ∈ l → q x = true → p x = true) → l.countP q ≤ l.countP p := fun {l} h => List.countP_mono_left h
    rw [List.countP_cons, List.countP_cons]
    have ht : ∀ x, x ∈ l → q x = true → p x = true := fun x hx => h x (List.mem_cons_of_mem _ hx)
    obtain ⟨x, hx, h1, h2⟩ := hex
    rcases List.mem_cons.1 hx with rfl | hx
    · have := hle ht
      rw [h1, h2]; simp; omega
    · have := countP_lt ht ⟨x, hx, h1, h2⟩
      have hy := h y (List.mem_cons_self ..)
      cases hq : q y with
      | false => cases p y <;> simp <;> omega
      | true => rw [hy hq]; simp; omega

def cnt (ops : Array Oper) (L : Array Bool) : Nat := (List.range ops.size).countP fun i => !L.getD i true

theorem any_sound (H : Hyp P C K) (T : Tr C K f ops st) (hok : drawOk ops = true) (hdst : dstOk n ops = true) {ro : Option Nat} {Q : Exit → Act → World → Prop}
    (hq : ∀ a' w', OpPost base n0 Γ0 (st 0) (st ops.size) n a' w' → Q .normal a' w') : ∀ (fuel : Nat) (L : Array Bool) (a : Act) (w : World), L.size = ops.size → Closed ops L → cnt ops L ≤ fuel →
    (∃ m M Γ β, Γ.w = w ∧ PR ops st base n0 (st 0).lo Γ0 n m M L Γ β a) → wpAnyIn (Fw ro) 0 P .any ops Q fuel L a w := by
  have fin : ∀ (L : Array Bool) (a : Act) (w : World), (∀ j, j < ops.size → isIn L j) → (∃ m M Γ β, Γ.w = w ∧ PR ops st base n0 (st 0).lo Γ0 n m M L Γ β a) → Q .normal a w := by
    intro L a w hall ⟨m, M, Γ, β, e, p⟩
    subst e
    have hM : M = ops.size := by
      have h1 := p.mM.2
      rcases Nat.lt_or_ge M ops.size with h | h
      · have := p.bound M (hall M h); omega
      · omega
    obtain ⟨R, h1, h2⟩ := p.complete T (fun j hj => hall j (by omega))
    rw [hM] at R h1 h2
    exact hq _ _ ⟨Γ, β, rfl, R, p.went, p.asz, h1, h2⟩
  have all_of : ∀ (L : Array Bool), L.size = ops.size → Region.ready .any ops L = [] → ∀ j, j < ops.size → isIn L j := by
    intro L hL hr j
    induction j using Nat.strongRecOn with
    | _ j ih =>
      intro hj
      cases hh : L.getD j true with
      | true =>
        unfold isIn
        rw [Array.getD_eq_getD_getElem?] at hh ⊢
        have : j < L.size := by omega
        simpa [this] using hh
      | false =>
        have : j ∈ Region.ready .any ops L := mem_ready.2 ⟨hh, _, Array.getElem?_eq_getElem hj, fun e he hb => by
          have hlt := drawOk_edges hok (Array.getElem?_eq_getElem hj) (by simpa using he) hb
          exact ih e.on hlt (by omega)⟩
        rw [hr] at this
        cases this
  intro fuel
  induction fuel with
  | zero =>
    intro L a w hL hcl hc hJ
    have hall : ∀ j, j < ops.size → isIn L j := fun j hj => by
      have h0 : cnt ops L = 0 := by omega
      unfold cnt at h0
      rw [List.countP_eq_zero] at h0
      have := h0 j (List.mem_range.2 hj)
      unfold isIn
      rw [Array.getD_eq_getD_getElem?] at this ⊢
      have hj' : j < L.size := by omega
      simpa [hj'] using this
    refine ⟨?_, fin L a w hall hJ⟩
    cases hr : Region.ready .any ops L with
    | nil => rfl
    | cons i l =>
      have hi : i ∈ Region.ready .any ops L := by rw [hr]; exact List.mem_cons_self ..
      obtain ⟨h1, o, h2, _⟩ := mem_ready.1 hi
      have hlt : i < ops.size := by
        rcases Nat.lt_or_ge i ops.size with h' | h'
        · exact h'
        · rw [Array.getElem?_eq_none h'] at h2; cases h2
      rw [isIn_true (hall i hlt)] at h1; cases h1
  | succ fuel ih =>
    intro L a w hL hcl hc hJ
    refine ⟨fun hr => fin L a w (all_of L hL hr) hJ, fun i hi => ?_⟩
    obtain ⟨h1, o, ho, hrdy⟩ := mem_ready.1 hi
    have hlt : i < ops.size := by
      rcases Nat.lt_or_ge i ops.size with h' | h'
      · exact h'
      · rw [Array.getElem?_eq_none h'] at ho; cases ho
    have hni := not_isIn h1
    have hrdy' : ∀ e, e ∈ o.after.toList → Region.binds .any e = true → L.getD e.on false = true := fun e he hb => hrdy e (by simpa using he) hb
    have hbef := closed_before hok hcl hL i o ho hrdy'
    have hL' : (L.setIfInBounds i true).size = ops.size := by simpa using hL
    have hcl' : Closed ops (L.setIfInBounds i true) := fun j o' ho' hj e he hb => by
      have hjlt : j < L.size := by
        have : j < ops.size := by
          rcases Nat.lt_or_ge j ops.size with h' | h'
          · exact h'
          · rw [Array.getElem?_eq_none h'] at ho'; cases ho'
        omega
      have hin : isIn (L.setIfInBounds i true) j := by
        unfold isIn
        have hs : j < (L.setIfInBounds i true).size := by simpa using hjlt
        rw [Array.getD_eq_getD_getElem?] at hj ⊢
        rw [Array.getElem?_eq_getElem hs] at hj ⊢
        exact hj
      refine (isIn_set (L := L) (by omega)).2 (.inr ?_)
      rcases (isIn_set (by omega)).1 hin with e' | e'
      · subst e'
        rw [ho] at ho'; injection ho' with ho'; subst ho'
        exact hrdy' e he hb
      · exact hcl j o' ho' (isIn_true e') e he hb
    have hc' : cnt ops (L.setIfInBounds i true) ≤ fuel := by
      have : cnt ops (L.setIfInBounds i true) < cnt ops L := by
        unfold cnt
        refine countP_lt (fun x hx h => ?_) ⟨i, List.mem_range.2 hlt, by simp [h1], ?_⟩
        · by_cases e : i = x
          · subst e; simp [h1]
          · have hx' : x < L.size := by rw [hL]; exact List.mem_range.1 hx
            simp only [Array.getD_eq_getD_getElem?, Array.getElem?_setIfInBounds_ne e] at h
            simpa [Array.getD_eq_getD_getElem?] using h
        · have : i < L.size := by omega
          simp [Array.getD_eq_getD_getElem?, this]
      omega
    obtain ⟨m, M, Γ, β, e, p⟩ := hJ
    subst e
    cases hh : heavy ops i with
    | true =>
      have hal : ∀ j, j < ops.size → j ≠ i → (if j < i then ((befs ops).getD i 0).testBit j else ((befs ops).getD j 0).testBit i) = true := fun j hj hne => by
        have := List.all_eq_true.1 (show (List.range ops.size).all _ = true from hh) j (List.mem_range.2 hj)
        have hne' : (j == i) = false := by simpa using hne
        rw [hne'] at this
        simpa using this
      have hbelow : ∀ j, j < i → isIn L j := fun j hj => by
        have := hal j (by omega) (by omega)
        rw [if_pos hj] at this
        exact hbef j this
      have habove : ∀ j, isIn L j → j < i := fun j hj => by
        rcases Nat.lt_trichotomy j i with h | h | h
        · exact h
        · exact absurd (h ▸ hj) hni
        · have hjn := isIn_lt hL hj
          have := hal j hjn (by omega)
          rw [if_neg (by omega)] at this
          exact absurd (closed_before hok hcl hL j _ (Array.getElem?_eq_getElem hjn) (hcl j _ (Array.getElem?_eq_getElem hjn) (isIn_true hj)) i this) hni
      have hMi : M = i := by
        rcases Nat.lt_trichotomy M i with h | h | h
        · have := p.bound M (hbelow M h); omega
        · exact h
        · rcases Nat.lt_or_ge i m with h' | h'
          · exact absurd (p.pre i h') hni
          · have := p.light i h' h
            rw [hh] at this; cases this
      subst hMi
      obtain ⟨R, hlo, hir⟩ := p.complete T hbelow
      have next : ∀ a' w', OpPost base n0 Γ (st M) (st (M + 1)) n a' w' → wpAnyIn (Fw ro) 0 P .any ops Q fuel (L.setIfInBounds M true) a' w' := fun a' w' ⟨Γ1, β1, e1, R1, g, e2, e3, e4⟩ => by
        subst e1
        refine ih _ a' _ hL' hcl' hc' ⟨M + 1, M + 1, Γ1, β1, rfl, PR.ofRelS R1 hlt (fun j hj => ?_) (fun j hj => ?_) (p.went.trans (hlo ▸ g) (Nat.le_refl _)) e2 ⟨e3.trans hlo, e4.trans hir⟩⟩
        · rcases Nat.lt_or_ge j M with h | h
          · exact (isIn_set (by omega)).2 (.inr (hbelow j h))
          · exact (isIn_set (by omega)).2 (.inl (by omega))
        · rcases (isIn_set (by omega)).1 hj with e | e
          · omega
          · have := habove j e; omega
      unfold wpOpIn
      simp only [ho]
      rcases T.step M o ho with ⟨hg, hs⟩ | ⟨hg, _, hs⟩ | ⟨_, ha, _⟩
      · rw [guard_sound R hg]
        simp only [Bool.false_eq_true, if_false]
        refine ⟨fun _ _ => trivial, next _ _ ⟨Γ, β, rfl, ?_, Went.refl, (put_size _ _ _).trans p.asz, ?_, ?_⟩⟩
        · rw [hs]
          exact R.put o.dst (fun t ht => by rw [p.asz]; exact dstOk_spec hdst ho t ht) (x := .v (.tup [])) (v := undef) (RelV.tup rfl (by simp))
        · rw [hs]; exact (put_lo _ _ _).1
        · rw [hs]; exact (put_lo _ _ _).2.1
      · rw [guard_sound R hg]
        simp only [if_true]
        exact oper_sound H R (fun t ht => by rw [p.asz]; exact dstOk_spec hdst ho t ht) hs fun a' w' hp => next a' w' (by rw [← p.asz]; exact hp)
      · rw [show alone (befs ops) ops.size M = heavy ops M from rfl, hh] at ha; cases ha
    | false =>
      have him : m ≤ i := by
        rcases Nat.lt_or_ge i m with h | h
        · exact absurd (p.pre i h) hni
        · exact h
      have key : ∀ (M' : Nat) (Γ' : Ctx), Γ'.w = Γ.w → i < M' → PR ops st base n0 (st 0).lo Γ0 n m M' L Γ' β a → wpOpIn (Fw ro) 0 P ops Q i (wpAnyIn (Fw ro) 0 P .any ops Q fuel (L.setIfInBounds i true)) a Γ.w := fun M' Γ' e hiM p' => by
        have := light_step (ro := ro) (Q := Q) H T hok hdst hL hcl p' ho him hiM hni hrdy'
        rw [← e]
        exact wpOpIn_mono (fun a' w' ⟨Γ'', e1, p2⟩ => ih _ a' w' hL' hcl' hc' ⟨m, M', Γ'', β, e1, p2⟩) this
      rcases Nat.lt_or_ge i M with h | h
      · exact key M Γ rfl h p
      · refine key (i + 1) { Γ with H := (st (i + 1)).heap } rfl (Nat.lt_succ_self _) (p.extend T (by omega) hlt fun k q1 q2 => ?_)
        rcases Nat.lt_or_ge k i with hk | hk
        · cases hkk : heavy ops k with
          | false => rfl
          | true =>
            exfalso
            have := List.all_eq_true.1 (show (List.range ops.size).all _ = true from hkk) i (List.mem_range.2 hlt)
            have hne' : (i == k) = false := by simp; omega
            rw [hne', if_neg (show ¬ i < k by omega)] at this
            have hin := hbef k (by simpa using this)
            have := p.bound k hin
            omega
        · have : k = i := by omega
          rw [this]; exact hh

theorem draws_sound (hm : P.follows .mixedOrders = true) (H : Hyp P C K) : DrawsOk P C K := by
  intro base n0 f n id ro ops hdst hok Γ β s s' a Q R hn h hq
  refine wpIn_region_any hm ?_
  obtain ⟨st, e1, e2, e3⟩ := trace_of ops.toList 0 s s' h
  simp only [Nat.zero_add, Array.length_toList] at e2 e3
  have T : Tr C K f ops st := ⟨fun i o ho => e3 i o (by rw [Array.getElem?_toList]; exact ho)⟩
  have R' : RelS base n0 { Γ with w := { Γ.w with drawn := Γ.w.drawn + 1 } } β s a := by
    have := R.ext (Ext.drawn s.lo Γ _) (R.inv.drawn (Γ.w.drawn + 1))
    rw [show ({ s with heap := ({ Γ with w := { Γ.w with drawn := Γ.w.drawn + 1 } } : Ctx).H } : St) = s by
      show ({ s with heap := Γ.H } : St) = s
      rw [R.heap]] at this
    exact this
  have hnone : ∀ j, ¬ isIn (Array.replicate ops.size false) j := fun j h => by
    unfold isIn at h
    rw [Array.getD_eq_getD_getElem?] at h
    rcases Nat.lt_or_ge j ops.size with h' | h'
    · simp [h'] at h
    · simp [h'] at h
  refine any_sound (Γ0 := Γ) (base := base) (n0 := n0) (n := n) H T hok hdst (fun a' w' hp => hq a' w' (by rw [e1, e2] at hp; exact hp)) ops.size _ a _ (by simp) (fun i o ho hi => ?_) ?_ ⟨0, 0, _, β, rfl, PR.ofRelS (by rw [e1]; exact R') (Nat.zero_le _) (fun j hj => by omega) (fun j hj => absurd hj (hnone j)) (Went.of (Ext.drawn _ Γ _)) hn ⟨rfl, rfl⟩⟩
  · exfalso
    have hlt : i < ops.size := by
      rcases Nat.lt_or_ge i ops.size with h' | h'
      · exact h'
      · rw [Array.getElem?_eq_none h'] at ho; cases ho
    simp [Array.getD_eq_getD_getElem?, hlt] at hi
  · unfold cnt
    exact Nat.le_trans List.countP_le_length (by simp)

end Go.Ev
