/- Maps read; structs built. -/
import Derived.Test.YtelobnllkhnpaaaEvOp3
namespace Go.Ev
set_option linter.unusedVariables false
set_option linter.unusedSimpArgs false

variable {P : Program} {C : Cfg} {Γ : Ctx} {t : Nat} {ti : TI} {base n0 f : Nat} {β : Nat → Nat} {s s' : St} {a : Act} {o : Oper} {K : Callee}

inductive RelMs (Γ : Ctx) : List (AV × AV) → List MapEntry → Prop
  | nil : RelMs Γ [] []
  | cons {k v : AV} {m : MapEntry} {l : List (AV × AV)} {ms : List MapEntry} (hk : RelV Γ k m.key) (hv : RelV Γ v m.val) (h : RelMs Γ l ms) : RelMs Γ ((k, v) :: l) (m :: ms)

theorem RelMs.of_array : ∀ {l : List (AV × AV)} {ms : List MapEntry}, ms.length = l.length → (∀ (i : Nat) (e : AV × AV), l[i]? = some e → ∃ m : MapEntry, ms[i]? = some m ∧ RelV Γ e.1 m.key ∧ RelV Γ e.2 m.val) → RelMs Γ l ms
  | [], [], _, _ => .nil
  | [], _ :: _, h, _ => by simp at h
  | _ :: _, [], h, _ => by simp at h
  | (k, v) :: l, m :: ms, hn, h => by
    obtain ⟨m', h1, h2, h3⟩ := h 0 (k, v) rfl
    simp at h1; subst h1
    exact .cons h2 h3 (RelMs.of_array (by simpa using hn) fun i e he => by simpa using h (i + 1) e (by simpa using he))

/-- The kinds of keys. -/
def keyDesc : TK → TypeDesc → Prop
  | .int k, d => d = .int k
  | .bool, d => d = .bool
  | .str, d => d = .string
  | _, _ => False

theorem keyKind_desc (hT : TabOk P C.tab) {kt : Nat} {x : AV} {kk : TK} (h : keyKind C.tab kt x = some kk) : ∃ d, P.underlying kt = some d ∧ keyDesc kk d := by
  unfold keyKind at h
  split at h
  · rename_i hl; injection h with h; subst h; exact ⟨_, (hT _ _ hl).int rfl, rfl⟩
  · rename_i hl; injection h with h; subst h; exact ⟨_, (hT _ _ hl).bool rfl, rfl⟩
  · rename_i hl; injection h with h; subst h; exact ⟨_, (hT _ _ hl).str rfl, rfl⟩
  · cases h

theorem run_checkKey {kk : TK} {d : TypeDesc} {kt : TypeId} (hd : P.underlying kt = some d) (hk : keyDesc kk d) (e : Bool) (n : Nat) (v : Value) (w : World) : (Instr.checkKey e (n + 1) kt v).run P w = .ok () w := by
  unfold Instr.checkKey
  simp only [Sem.run_bind, run_underlying hd, Result.andThen_ok]
  cases kk <;> simp only [keyDesc] at hk <;> (subst hk; rfl)

theorem sameNow_sound {kk : TK} {d : TypeDesc} (hk : keyDesc kk d) {x y : AV} {v u : Value} {r : Bool} (h : keyEq kk x y = some r) (hx : RelV Γ x v) (hy : RelV Γ y u) : Instr.sameNow d v u = some r := by
  unfold keyEq at h
  split at h
  · split at h
    · rename_i e; subst e
      injection h with h; subst h
      cases hx; cases hy
      simp only [keyDesc] at hk; subst hk
      simp [Instr.sameNow]
    · cases h
  · injection h with h; subst h
    cases hx; cases hy
    simp only [keyDesc] at hk; subst hk
    rfl
  · injection h with h; subst h
    cases hx; cases hy
    simp only [keyDesc] at hk; subst hk
    rfl
  · cases h

theorem mapFind_sound {kk : TK} {d : TypeDesc} (hk : keyDesc kk d) {x : AV} {v : Value} (hx : RelV Γ x v) : ∀ {l : List (AV × AV)} {ms : List MapEntry} (i : Nat) {r : Option AV}, RelMs Γ l ms → mapFind kk l x = some r →
    ∃ q, Instr.findNow d v ms i = some q ∧ match r, q with
      | none, none => True
      | some y, some (_, u) => RelV Γ y u
      | _, _ => False
  | [], _, i, r, .nil, h => by
    injection h with h; subst h
    exact ⟨none, rfl, trivial⟩
  | (k, y) :: l, m :: ms, i, r, .cons h1 h2 h3, h => by
    unfold mapFind at h
    split at h
    · rename_i e
      injection h with h; subst h
      exact ⟨some (i, m.val), by simp only [Instr.findNow, sameNow_sound hk e hx h1], h2⟩
    · rename_i e
      obtain ⟨q, hq, hr⟩ := mapFind_sound hk hx (i + 1) h3 h
      exact ⟨q, by simp only [Instr.findNow, sameNow_sound hk e hx h1, hq], hr⟩
    · cases h

theorem mp_map {id : Nat} {v : Value} (h : RelV Γ (.mp id) v) {es : List (AV × AV)} (hx : Γ.H[id]? = some (.map es)) : ∃ b, Γ.ρ id = some b ∧ v = .map (some b) := by
  cases h with
  | mp hin h1 hh => exact hh es hx

theorem zero_sound (ht : TIOk P t ti) (w : World) {y : AV} (hp : part ti ti.zero 0 = some y) : ∃ z, (zeroValue t).run P w = .ok z w ∧ RelV Γ y z := by
  obtain ⟨z, hz, h1, h2, h3⟩ := ht.run_zero w
  refine ⟨z, hz, ?_⟩
  have hc : RelC Γ ti.zero z.cells := .of_zero h2
  unfold part at hp
  cases hk : ti.kind.isAgg with
  | true =>
    rw [hk] at h3
    have e : ∃ cs, z = .agg cs := by cases z <;> first | exact ⟨_, rfl⟩ | (simp [zShape] at h3)
    obtain ⟨cs, rfl⟩ := e
    rw [if_pos hk] at hp
    split at hp
    · injection hp with hp
      subst hp
      have hl : ti.zero.length = ti.sz := by have := hc.1; omega
      rw [List.drop_zero, List.take_of_length_le (by omega)]
      exact hc.agg
    · cases hp
  | false =>
    rw [hk] at h3
    have e : z.cells = #[z] := by cases z <;> first | rfl | (simp [zShape] at h3)
    rw [hk] at hp
    have := hc.2.2 0 y (by simpa using hp)
    rw [e] at this
    simpa using this

theorem pure_lookup (hT : TabOk P C.tab) (R : RelS base n0 Γ β s a) {t : TypeId} {m k : Operand} {ok : Bool} (ho : o.op = .lookup t m k ok) (h : oper C K f o s = some s') : PureOk P Γ β s a o s' := by
  unfold oper at h
  rw [ho] at h
  dsimp only at h
  split at h
  · rename_i kt e sz by_ zr id x ht hm hx
    split at h
    · rename_i es ti hH he
      split at h
      · rename_i kk hkk
        rw [← R.heap] at hH
        obtain ⟨b, hb, hmv⟩ := mp_map (R.val hm) hH
        obtain ⟨ms, cl, h1, h2, h3⟩ := R.inv.map id b es hb hH
        obtain ⟨d, hd, hkd⟩ := keyKind_desc hT hkk
        have hMs : RelMs Γ es ms.toList := RelMs.of_array (by simpa using h2) (fun i e he => by
          obtain ⟨m, a1, a2⟩ := h3 i e he
          exact ⟨m, by rw [Array.getElem?_toList]; exact a1, a2⟩)
        have hu : P.underlying t = some (.map kt e) := (hT _ _ ht).map rfl
        have hxr := R.val hx
        have key : ∀ (r : Option AV) (y : AV) (okb : Bool), mapFind kk es x = some r → (∀ q : Option (Nat × Value), (match r, q with
            | none, none => True
            | some y, some (_, u) => RelV Γ y u
            | _, _ => False) → (∃ i u, q = some (i, u) ∧ okb = true ∧ RelV Γ y u) ∨ (q = none ∧ okb = false ∧ ∃ u, (zeroValue e).run P Γ.w = .ok u Γ.w ∧ RelV Γ y u)) →
            s' = s.put o.dst (.v (if ok then .tup [y, .bool okb] else y)) → PureOk P Γ β s a o s' := by
          intro r y okb hf hq e'
          obtain ⟨q, hq1, hq2⟩ := mapFind_sound hkd hxr 0 hMs hf
          have hl : ∃ u, (Instr.lookup t (a.eval m) (a.eval k) ok).run P Γ.w = .ok (if ok then .tuple #[u, .bool okb] else u) Γ.w ∧ RelV Γ y u := by
            rw [hmv]
            unfold Instr.lookup
            simp only [Sem.run_bind, run_underlying hu, Result.andThen_ok]
            have hg : (getObj b).run P Γ.w = .ok (.map ms cl) Γ.w := by
              simp only [getObj, Sem.run, h1]
            simp only [Sem.run_bind, hg, Result.andThen_ok, Sem.run_pure]
            rw [show (10000 : Nat) = 9999 + 1 from rfl, run_checkKey hd hkd]
            simp only [Result.andThen_ok, Instr.findKey, Sem.run_bind, run_underlying hd, hq1, Sem.run_pure]
            rcases hq q hq2 with ⟨i, u, rfl, rfl, hr⟩ | ⟨rfl, rfl, u, hz, hr⟩
            · exact ⟨u, rfl, hr⟩
            · refine ⟨u, ?_, hr⟩
              simp only [Sem.run_bind, hz, Result.andThen_ok, Sem.run_pure]
          obtain ⟨u, hl, hu2⟩ := hl
          refine ⟨_, if ok then .tuple #[u, .bool okb] else u, ?_, ?_, e'⟩
          · unfold execOp
            rw [ho]
            dsimp only
            rw [Sem.run_bind, hl]
            rfl
          · cases ok
            · exact hu2
            · refine RelV.tup rfl fun i x hx => ?_
              match i, hx with
              | 0, hx => simp at hx; subst hx; exact hu2
              | 1, hx => simp at hx; subst hx; exact .bool _
        split at h
        · rename_i v hf
          injection h with h
          refine key _ v true hf (fun q hr => ?_) h.symm
          cases q with
          | none => exact hr.elim
          | some p => exact .inl ⟨p.1, p.2, rfl, rfl, hr⟩
        · rename_i hf
          cases hp : part ti ti.zero 0 with
          | none => rw [hp] at h; cases h
          | some y =>
            rw [hp] at h
            injection h with h
            refine key _ y false hf (fun q hr => ?_) h.symm
            cases q with
            | some p => exact hr.elim
            | none =>
              obtain ⟨z, hz, hr⟩ := zero_sound (hT _ _ he) Γ.w hp
              exact .inr ⟨rfl, rfl, z, hz, hr⟩
        · cases h
      · cases h
    · cases h
  · cases h

end Go.Ev
