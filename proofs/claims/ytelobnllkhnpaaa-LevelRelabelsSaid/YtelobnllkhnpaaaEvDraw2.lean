/- A region that draws its order: the states of its text's order; the state of a set of operations that are done. -/
import Derived.Test.YtelobnllkhnpaaaEvDraw1
namespace Go.Ev
set_option linter.unusedVariables false
set_option linter.unusedSimpArgs false

variable {P : Program} {C : Cfg} {Γ Γ0 : Ctx} {base n0 f : Nat} {β : Nat → Nat} {s s' : St} {a : Act} {o : Oper} {K : Callee}

def StepOk (C : Cfg) (K : Callee) (f : Nat) (ops : Array Oper) (i : Nat) (o : Oper) (s s1 : St) : Prop :=
  (guardOn ops o s = some false ∧ s1 = s.putv o.dst (.tup [])) ∨ (guardOn ops o s = some true ∧ alone (befs ops) ops.size i = true ∧ oper C K f o s = some s1) ∨
  (guardOn ops o s = some true ∧ alone (befs ops) ops.size i = false ∧ stepD C K f ops o s = some s1)

theorem trace_of {ops : Array Oper} : ∀ (l : List Oper) (i : Nat) (s s' : St), opersD C K f ops (befs ops) l i s = some s' →
    ∃ st : Nat → St, st i = s ∧ st (i + l.length) = s' ∧ ∀ k o, l[k]? = some o → StepOk C K f ops (i + k) o (st (i + k)) (st (i + k + 1))
  | [], i, s, s', h => by injection h with h; exact ⟨fun _ => s, rfl, h, fun k o hk => by simp at hk⟩
  | o :: l, i, s, s', h => by
    have go : ∀ s1, StepOk C K f ops i o s s1 → opersD C K f ops (befs ops) l (i + 1) s1 = some s' →
        ∃ st : Nat → St, st i = s ∧ st (i + (o :: l).length) = s' ∧ ∀ k o', (o :: l)[k]? = some o' → StepOk C K f ops (i + k) o' (st (i + k)) (st (i + k + 1)) := by
      intro s1 h1 h2
      obtain ⟨st, e1, e2, e3⟩ := trace_of l (i + 1) s1 s' h2
      refine ⟨fun k => if k = i then s else st k, if_pos rfl, ?_, fun k o' hk => ?_⟩
      · dsimp only
        rw [if_neg (by simp), List.length_cons, show i + (l.length + 1) = i + 1 + l.length by omega]; exact e2
      · cases k with
        | zero =>
          simp at hk; subst hk
          dsimp only
          rw [if_pos (by simp), if_neg (by omega)]
          rw [show i + 0 + 1 = i + 1 by omega, e1]; exact h1
        | succ k =>
          simp at hk
          dsimp only
          rw [if_neg (by omega), if_neg (by omega)]
          have := e3 k o' hk
          rw [show i + 1 + k = i + (k + 1) by omega] at this
          exact this
    simp only [opersD] at h
    split at h
    · rename_i hg
      split at h
      · rename_i s1 h1
        split at h1
        · rename_i ha
          exact go s1 (.inr (.inl ⟨hg, ha, h1⟩)) h
        · rename_i ha
          exact go s1 (.inr (.inr ⟨hg, by simpa using ha, h1⟩)) h
      · cases h
    · rename_i hg
      exact go _ (.inl ⟨hg, rfl⟩) h
    · cases h

def lightS (s : St) (d : Option Tmp) (x : Slot) (new : Heap) : St :=
  { s with env := (match d with | some d => (d, x) :: s.env | none => s.env), heap := s.heap ++ new }

theorem light_of {ops : Array Oper} {i : Nat} (h : StepOk C K f ops i o s s') (hl : alone (befs ops) ops.size i = false) : ∃ x new, s' = lightS s o.dst x new := by
  rcases h with ⟨_, rfl⟩ | ⟨_, ha, _⟩ | ⟨_, _, h⟩
  · refine ⟨.v (.tup []), [], ?_⟩
    unfold lightS St.putv St.put
    cases o.dst <;> simp
  · rw [hl] at ha; cases ha
  · unfold stepD at h
    split at h
    · cases h
    · split at h
      · split at h
        · rename_i hd
          injection h with h
          exact ⟨.junk, _, by rw [← h, hd]; rfl⟩
        · rename_i d hd
          split at h
          · rename_i x hx
            injection h with h
            exact ⟨x, _, by rw [← h, hd]; rfl⟩
          · cases h
      · cases h

theorem look_light {s : St} {d : Option Tmp} {x : Slot} {new : Heap} (t : Nat) : look (lightS s d x new).env t = if d = some t then some x else look s.env t := by
  unfold lightS
  cases d with
  | none => simp
  | some d =>
    simp only [look_cons]
    by_cases e : d = t
    · simp [e]
    · rw [if_neg e, if_neg (by simpa using e)]

structure Tr (C : Cfg) (K : Callee) (f : Nat) (ops : Array Oper) (st : Nat → St) : Prop where
  step : ∀ i o, ops[i]? = some o → StepOk C K f ops i o (st i) (st (i + 1))

section
variable {ops : Array Oper} {st : Nat → St} (T : Tr C K f ops st)

def len (st : Nat → St) (i : Nat) : Nat := (st i).heap.length
abbrev heavy (ops : Array Oper) (i : Nat) : Bool := alone (befs ops) ops.size i

include T in
theorem light_range {m : Nat} : ∀ (d : Nat), m + d ≤ ops.size → (∀ i, m ≤ i → i < m + d → heavy ops i = false) → (st (m + d)).loc = (st m).loc ∧ (st (m + d)).lo = (st m).lo ∧ (st (m + d)).inRound = (st m).inRound ∧ ∃ new, (st (m + d)).heap = (st m).heap ++ new
  | 0, _, _ => ⟨rfl, rfl, rfl, [], by simp⟩
  | d + 1, hle, hl => by
    obtain ⟨h1, h2, h3, new, h4⟩ := light_range d (by omega) (fun i h1 h2 => hl i h1 (by omega))
    have hlt : m + d < ops.size := by omega
    obtain ⟨x, new', e⟩ := light_of (T.step (m + d) _ (Array.getElem?_eq_getElem hlt)) (hl (m + d) (by omega) (by omega))
    rw [show m + (d + 1) = m + d + 1 by omega, e]
    refine ⟨h1, h2, h3, new ++ new', ?_⟩
    show (st (m + d)).heap ++ new' = _
    rw [h4, List.append_assoc]

include T in
theorem light_to {m k : Nat} (hmk : m ≤ k) (hk : k ≤ ops.size) (hl : ∀ i, m ≤ i → i < k → heavy ops i = false) : (st k).loc = (st m).loc ∧ (st k).lo = (st m).lo ∧ (st k).inRound = (st m).inRound ∧ (∃ new, (st k).heap = (st m).heap ++ new) ∧ len st m ≤ len st k ∧
    ∀ id, id < len st m → (st k).heap[id]? = (st m).heap[id]? := by
  obtain ⟨d, rfl⟩ : ∃ d, k = m + d := ⟨k - m, by omega⟩
  obtain ⟨h1, h2, h3, new, h4⟩ := light_range T d hk hl
  refine ⟨h1, h2, h3, ⟨new, h4⟩, by unfold len; rw [h4]; simp, fun id hid => ?_⟩
  rw [h4, List.getElem?_append_left hid]

include T in
theorem last_writer {m : Nat} {t : Nat} {x : Slot} : ∀ (d : Nat), m + d ≤ ops.size → (∀ i, m ≤ i → i < m + d → heavy ops i = false) → look (st (m + d)).env t = some x →
    ((∀ j o, m ≤ j → j < m + d → ops[j]? = some o → o.dst ≠ some t) ∧ look (st m).env t = some x) ∨
    ∃ j o, m ≤ j ∧ j < m + d ∧ ops[j]? = some o ∧ o.dst = some t ∧ (∀ j' o', j < j' → j' < m + d → ops[j']? = some o' → o'.dst ≠ some t) ∧ look (st (j + 1)).env t = some x
  | 0, _, _, h => .inl ⟨fun j o h1 h2 => by omega, h⟩
  | d + 1, hle, hl, h => by
    have hlt : m + d < ops.size := by omega
    have hop := Array.getElem?_eq_getElem hlt
    obtain ⟨y, new', e⟩ := light_of (T.step (m + d) _ hop) (hl (m + d) (by omega) (by omega))
    by_cases hd : ops[m + d].dst = some t
    · exact .inr ⟨m + d, _, by omega, by omega, hop, hd, fun j' o' h1 h2 => by omega, h⟩
    · rw [show m + (d + 1) = m + d + 1 by omega, e, look_light, if_neg hd] at h
      rcases last_writer d (by omega) (fun i h1 h2 => hl i h1 (by omega)) h with ⟨h1, h2⟩ | ⟨j, o, h1, h2, h3, h4, h5, h6⟩
      · refine .inl ⟨fun j o k1 k2 k3 => ?_, h2⟩
        rcases Nat.lt_or_ge j (m + d) with h' | h'
        · exact h1 j o k1 h' k3
        · have : j = m + d := by omega
          subst this
          rw [hop] at k3; injection k3 with k3; subst k3; exact hd
      · refine .inr ⟨j, o, h1, by omega, h3, h4, fun j' o' k1 k2 k3 => ?_, h6⟩
        rcases Nat.lt_or_ge j' (m + d) with h' | h'
        · exact h5 j' o' k1 h' k3
        · have : j' = m + d := by omega
          subst this
          rw [hop] at k3; injection k3 with k3; subst k3; exact hd
end

def isIn (L : Array Bool) (j : Nat) : Prop := L.getD j false = true

/-- What holds when the operations of L are done: those before m, and some of those from m to M, each of which may come before or behind another. -/
structure PR (ops : Array Oper) (st : Nat → St) (base n0 lo : Nat) (Γ0 : Ctx) (n m M : Nat) (L : Array Bool) (Γ : Ctx) (β : Nat → Nat) (a : Act) : Prop where
  mM : m ≤ M ∧ M ≤ ops.size
  pre : ∀ j, j < m → isIn L j
  bound : ∀ j, isIn L j → j < M
  light : ∀ i, m ≤ i → i < M → heavy ops i = false
  H : Γ.H = (st M).heap
  dom : ∀ id b, Γ.ρ id = some b → id < Γ.H.length ∧ b < Γ.w.heap.size ∧ base ≤ b ∧ ¬ Γ.S b
  inj : ∀ id id' b, Γ.ρ id = some b → Γ.ρ id' = some b → id = id'
  objs : ∀ k, m ≤ k → k ≤ M → ∀ id b o, id < len st k → Γ.ρ id = some b → Γ.H[id]? = some o → ∃ ob, Γ.w.heap[b]? = some ob ∧ ObjOk (Γ.cut (len st k)) o ob
  stab : ∀ b, Γ.S b → b < Γ.w.heap.size
  absent : ∀ j, m ≤ j → j < M → ¬ isIn L j → ∀ id, len st j ≤ id → id < len st (j + 1) → Γ.ρ id = none
  env0 : ∀ t x, look (st m).env t = some x → (∀ j o, m ≤ j → isIn L j → ops[j]? = some o → o.dst ≠ some t) → t < n ∧ RelX (Γ.cut (len st m)) β x (a.tmps.getD t undef)
  envL : ∀ j o t, m ≤ j → isIn L j → ops[j]? = some o → o.dst = some t → (∀ j' o', j < j' → isIn L j' → ops[j']? = some o' → o'.dst ≠ some t) →
    t < n ∧ ∃ x, look (st (j + 1)).env t = some x ∧ RelX (Γ.cut (len st (j + 1))) β x (a.tmps.getD t undef)
  sz : base ≤ n0 ∧ n0 ≤ Γ.w.heap.size
  loc : ∀ (d : Nat) (xs : List AV), look (st m).loc d = some xs → ∃ (arr : Array Value) (T : TypeId), Γ.w.heap[β d]? = some (.cells arr T (0, 0)) ∧ arr.size = xs.length ∧ (∀ x, x ∈ xs → oneCell x = true) ∧ (∀ (i : Nat) (x : AV), xs[i]? = some x → RelV (Γ.cut (len st m)) x (arr.getD i undef)) ∧
    (∀ id, Γ.ρ id ≠ some (β d)) ∧ ¬ Γ.S (β d) ∧ base ≤ β d ∧ n0 ≤ β d
  linj : ∀ (d d' : Nat) (xs xs' : List AV), look (st m).loc d = some xs → look (st m).loc d' = some xs' → β d = β d' → d = d'
  marks : ∃ rs : List Nat, a.defers = rs.map (fun r => { target := .collected r, args := #[] }) ∧ rs.Nodup ∧ ∀ r, r ∈ rs → Γ.w.heap[r]? = some (.deferred (some [])) ∧ (∀ id, Γ.ρ id ≠ some r) ∧ ¬ Γ.S r ∧ n0 ≤ r
  g0 : Γ0.H.length ≤ len st m
  went : Went lo n0 Γ0 Γ
  asz : a.tmps.size = n
  lo' : (st m).lo = lo ∧ (st m).inRound = (st 0).inRound

section
variable {ops : Array Oper} {st : Nat → St} {lo n m M : Nat} {L : Array Bool}

theorem PR.invCut (p : PR ops st base n0 lo Γ0 n m M L Γ β a) {k : Nat} (h1 : m ≤ k) (h2 : k ≤ M) : Inv base (Γ.cut (len st k)) := by
  refine Inv.of_objs (fun id b h => ?_) (fun id id' b h h' => ?_) p.stab (fun id b o h hx => ?_)
  · rw [cut_rho] at h
    obtain ⟨q1, q2, q3, q4⟩ := p.dom id b h.2
    refine ⟨?_, q2, q3, q4⟩
    simp only [Ctx.cut, List.length_take]; omega
  · rw [cut_rho] at h h'
    exact p.inj id id' b h.2 h'.2
  · rw [cut_rho] at h
    rw [cut_get] at hx
    exact p.objs k h1 h2 id b o h.1 h.2 hx.2

theorem PR.mono (T : Tr C K f ops st) (p : PR ops st base n0 lo Γ0 n m M L Γ β a) {i k : Nat} (h1 : m ≤ i) (h2 : i ≤ k) (h3 : k ≤ M) : len st i ≤ len st k ∧ ∀ id, id < len st i → (st k).heap[id]? = (st i).heap[id]? := by
  have := light_to T h2 (by have := p.mM; omega) (fun j q1 q2 => p.light j (by omega) (by omega))
  exact this.2.2.2.2

theorem PR.cutUp (T : Tr C K f ops st) (p : PR ops st base n0 lo Γ0 n m M L Γ β a) {i k : Nat} (h1 : m ≤ i) (h2 : i ≤ k) (h3 : k ≤ M) : Ext0 (Γ.cut (len st i)) (Γ.cut (len st k)) :=
  Ext0.cut (p.mono T h1 h2 h3).1 (Nat.le_refl _) (by rw [p.H]; exact (p.mono T h1 (Nat.le_trans h2 h3) (Nat.le_refl _)).1) (fun _ _ => rfl) (fun _ _ => .inl rfl) (fun _ arr _ fr h => ⟨arr, fr, h, rfl⟩) (fun _ h => ⟨h, rfl⟩)

/-- The frontier moves on; what lies between is not done yet. -/
theorem PR.extend (T : Tr C K f ops st) (p : PR ops st base n0 lo Γ0 n m M L Γ β a) {M' : Nat} (h1 : M ≤ M') (h2 : M' ≤ ops.size) (hl : ∀ k, M ≤ k → k < M' → heavy ops k = false) : PR ops st base n0 lo Γ0 n m M' L { Γ with H := (st M').heap } β a := by
  have hlight : ∀ i, m ≤ i → i < M' → heavy ops i = false := fun i q1 q2 => by
    rcases Nat.lt_or_ge i M with h | h
    · exact p.light i q1 h
    · exact hl i h q2
  have hML := light_to T h1 h2 hl
  have hlenM : Γ.H.length = len st M := by rw [p.H]; rfl
  have hlen : Γ.H.length ≤ (st M').heap.length := by rw [hlenM]; exact hML.2.2.2.2.1
  have hget : ∀ id, id < Γ.H.length → (st M').heap[id]? = Γ.H[id]? := fun id hid => by
    rw [hML.2.2.2.2.2 id (by rw [← hlenM]; exact hid), p.H]
  have ex : ∀ k, k ≤ Γ.H.length → ∀ k', k ≤ k' → Ext0 (Γ.cut k) (Ctx.cut { Γ with H := (st M').heap } k') := fun k hk k' hk' =>
    Ext0.cut hk' hlen hk (fun id hid => hget id (by omega)) (fun _ _ => .inl rfl) (fun _ arr _ fr h => ⟨arr, fr, h, rfl⟩) (fun _ h => ⟨h, rfl⟩)
  have hk0 : ∀ k, m ≤ k → k ≤ M → len st k ≤ Γ.H.length := fun k q1 q2 => by rw [hlenM]; exact (p.mono T q1 q2 (Nat.le_refl _)).1
  have hmM := p.mM.1
  exact
    { mM := ⟨by omega, h2⟩, pre := p.pre, bound := fun j hj => by have := p.bound j hj; omega, light := hlight, H := rfl
      dom := fun id b h => by
        obtain ⟨q1, q2, q3, q4⟩ := p.dom id b h
        exact ⟨Nat.lt_of_lt_of_le q1 hlen, q2, q3, q4⟩
      inj := p.inj
      objs := fun k q1 q2 id b o hid hr ho => by
        have hidH := (p.dom id b hr).1
        have ho' : Γ.H[id]? = some o := by rw [← hget id hidH]; exact ho
        rcases Nat.lt_or_ge M k with h | h
        · obtain ⟨ob, r1, r2⟩ := p.objs M hmM (Nat.le_refl _) id b o (by rw [← hlenM]; exact hidH) hr ho'
          refine ⟨ob, r1, r2.ext0 (ex _ (hk0 M hmM (Nat.le_refl _)) _ ?_)⟩
          exact (light_to T (Nat.le_of_lt h) (by omega) (fun i r1 r2 => hlight i (by omega) (by omega))).2.2.2.2.1
        · obtain ⟨ob, r1, r2⟩ := p.objs k q1 h id b o hid hr ho'
          exact ⟨ob, r1, r2.ext0 (ex _ (hk0 k q1 h) _ (Nat.le_refl _))⟩
      stab := p.stab
      absent := fun j q1 q2 hnj id r1 r2 => by
        rcases Nat.lt_or_ge j M with h | h
        · exact p.absent j q1 h hnj id r1 r2
        · cases hr : Γ.ρ id with
          | none => rfl
          | some b =>
            have := (p.dom id b hr).1
            have h3 := (light_to T h (by omega) (fun i r1 r2 => hlight i (by omega) (by omega))).2.2.2.2.1
            omega
      env0 := fun t x hx hn => by
        obtain ⟨q1, q2⟩ := p.env0 t x hx hn
        exact ⟨q1, q2.ext0 (ex _ (hk0 m (Nat.le_refl _) hmM) _ (Nat.le_refl _))⟩
      envL := fun j o t q1 q2 q3 q4 q5 => by
        obtain ⟨r1, x, r2, r3⟩ := p.envL j o t q1 q2 q3 q4 q5
        have := p.bound j q2
        exact ⟨r1, x, r2, r3.ext0 (ex _ (hk0 (j + 1) (by omega) (by omega)) _ (Nat.le_refl _))⟩
      sz := p.sz
      loc := fun d xs hx => by
        obtain ⟨arr, T', r1, r2, r3, r4, r5⟩ := p.loc d xs hx
        exact ⟨arr, T', r1, r2, r3, fun i x hi => (r4 i x hi).ext0 (ex _ (hk0 m (Nat.le_refl _) hmM) _ (Nat.le_refl _)), r5⟩
      linj := p.linj, marks := p.marks, g0 := p.g0
      went := { p.went with
        len := Nat.le_trans p.went.len hlen
        cells := fun id T2 xs' hid h => p.went.cells id T2 xs' hid (by rw [← hget id (Nat.lt_of_lt_of_le hid p.went.len)]; exact h)
        map := fun id es' hid h => p.went.map id es' hid (by rw [← hget id (Nat.lt_of_lt_of_le hid p.went.len)]; exact h)
        loop := fun id r' hid h => p.went.loop id r' hid (by rw [← hget id (Nat.lt_of_lt_of_le hid p.went.len)]; exact h)
        barrier := fun id hl hid => by
          obtain ⟨r1, r2, r3⟩ := p.went.barrier id hl hid
          exact ⟨(hget id (Nat.lt_of_lt_of_le hid p.went.len)).trans r1, r2, r3⟩ }
      asz := p.asz, lo' := p.lo' }

/-- All are done up to the frontier. -/
theorem PR.complete (T : Tr C K f ops st) (p : PR ops st base n0 lo Γ0 n m M L Γ β a) (hall : ∀ j, j < M → isIn L j) : RelS base n0 Γ β (st M) a ∧ (st M).lo = lo ∧ (st M).inRound = (st 0).inRound := by
  have hlenM : Γ.H.length = len st M := by rw [p.H]; rfl
  have hcut : Γ.cut (len st M) = Γ := cut_all (by rw [hlenM]; exact Nat.le_refl _) (fun id b h => (p.dom id b h).1)
  have hto := light_to T p.mM.1 p.mM.2 p.light
  refine ⟨{ inv := by have := p.invCut p.mM.1 (Nat.le_refl _); rwa [hcut] at this
            sz := p.sz, heap := p.H, env := fun t x hx => ?_, loc := fun d xs hx => ?_, linj := fun d d' xs xs' h h' => ?_, marks := p.marks }, hto.2.1.trans p.lo'.1, hto.2.2.1.trans p.lo'.2⟩
  · rw [p.asz]
    obtain ⟨d, hd⟩ : ∃ d, M = m + d := ⟨M - m, by have := p.mM; omega⟩
    have hM := p.mM.2
    have hl := p.light
    rw [hd] at hx
    rcases last_writer T d (by omega) (fun i h1 h2 => hl i h1 (by omega)) hx with ⟨h1, h2⟩ | ⟨j, o, h1, h2, h3, h4, h5, h6⟩
    · obtain ⟨q1, q2⟩ := p.env0 t x h2 (fun j o r1 r2 r3 => h1 j o r1 (by have := p.bound j r2; omega) r3)
      refine ⟨q1, ?_⟩
      have := q2.ext0 (p.cutUp T (Nat.le_refl _) p.mM.1 (Nat.le_refl _))
      rwa [hcut] at this
    · obtain ⟨q1, y, q2, q3⟩ := p.envL j o t h1 (hall j (by omega)) h3 h4 (fun j' o' r1 r2 r3 => h5 j' o' r1 (by have := p.bound j' r2; omega) r3)
      rw [h6] at q2; injection q2 with q2; subst q2
      refine ⟨q1, ?_⟩
      have := q3.ext0 (p.cutUp T (by omega) (show j + 1 ≤ M by omega) (Nat.le_refl _))
      rwa [hcut] at this
  · rw [hto.1] at hx
    obtain ⟨arr, T', r1, r2, r3, r4, r5⟩ := p.loc d xs hx
    refine ⟨arr, T', r1, r2, r3, fun i x hi => ?_, r5⟩
    have := (r4 i x hi).ext0 (p.cutUp T (Nat.le_refl _) p.mM.1 (Nat.le_refl _))
    rwa [hcut] at this
  · rw [hto.1] at h h'
    exact p.linj d d' xs xs' h h'
end

end Go.Ev
