/- Builtins called. -/
import Derived.Test.YtelobnllkhnpaaaEvApp
namespace Go.Ev
set_option linter.unusedVariables false
set_option linter.unusedSimpArgs false

variable {P : Program} {C : Cfg} {Γ : Ctx} {t : Nat} {ti : TI} {base n0 f : Nat} {β : Nat → Nat} {s s' : St} {a : Act} {o : Oper} {K : Callee}

theorem bi_pure {lo : Nat} {b : Builtin} {ats : Array TypeId} {ty : TypeId} {cs : Array Bool} {args : Array Value} {r : AV} {v : Value} (I : Inv base Γ) (h : ∃ m : Sem Value, Go.builtin b ats ty cs args = (do pure (.value (← m))) ∧ m.run P Γ.w = .ok v Γ.w) (hr : RelV Γ r v) :
    ∃ v w', (Go.builtin b ats ty cs args).run P Γ.w = .ok (.value v) w' ∧ BiPost base lo Γ r Γ.H v w' := by
  obtain ⟨m, h1, h2⟩ := h
  refine ⟨v, Γ.w, ?_, BiPost.same I hr⟩
  rw [h1, Sem.run_bind, h2]
  rfl

theorem toList_one {α : Type} {xs : Array α} {x : α} {l : List α} (h : xs.toList = x :: l) : xs[0]? = some x := by
  rw [← Array.getElem?_toList, h]; rfl

theorem builtin_sound (hT : TabOk P C.tab) (I : Inv base Γ) (hb0 : base ≤ Γ.w.heap.size) {lo : Nat} {b : Builtin} {ats : Array TypeId} {xs : List AV} {args : Array Value} {r : AV} {h' : Heap} (h : builtin C.tab lo b ats.toList xs Γ.H = some (r, h'))
    (rx : RelVs Γ xs args.toList) (ty : TypeId) (cs : Array Bool) : ∃ v w', (Go.builtin b ats ty cs args).run P Γ.w = .ok (.value v) w' ∧ BiPost base lo Γ r h' v w' := by
  unfold builtin at h
  split at h
  · rename_i t ts x hats
    have h0 := toList_one hats
    generalize hal : args.toList = al at rx
    cases rx with
    | cons hx hn =>
      rename_i v l
      cases hn
      have ha0 := toList_one hal
      have key : ∀ (r : AV) (u : Value), (Builtin.len_ ats ty args).run P Γ.w = .ok u Γ.w → RelV Γ r u → ∃ v w', (Go.builtin .len ats ty cs args).run P Γ.w = .ok (.value v) w' ∧ BiPost base lo Γ r Γ.H v w' :=
        fun r u hu hr => bi_pure I ⟨_, rfl, hu⟩ hr
      split at h
      · rename_i e _ _ _ ht
        injection h with h; injection h with e1 e2; subst e1 e2
        cases hx
        refine key _ (.int .i64 0) ?_ (.int _ _)
        simp [Builtin.len_, h0, ha0, run_underlying ((hT _ _ ht).slice rfl), goInt]
      · rename_i e _ _ _ _ _ _ n ht
        injection h with h; injection h with e1 e2; subst e1 e2
        cases hx with
        | sl hin h1 hh =>
          obtain ⟨ad, c, rfl⟩ := h1
          refine key _ (.int .i64 n) ?_ (.int _ _)
          simp [Builtin.len_, h0, ha0, run_underlying ((hT _ _ ht).slice rfl), goInt]
      · rename_i e _ _ _ _ xs ht
        injection h with h; injection h with e1 e2; subst e1 e2
        cases hx with
        | vs hT => cases hT with
         | vs g hn hc hsz hA hmem hrel =>
          subst hn
          refine key _ (.int .i64 xs.length) ?_ (.int _ _)
          simp [Builtin.len_, h0, ha0, run_underlying ((hT _ _ ht).slice rfl), goInt]
      · rename_i _ _ _ b ht
        injection h with h; injection h with e1 e2; subst e1 e2
        cases hx
        refine key _ (.int .i64 b.size) ?_ (.int _ _)
        simp [Builtin.len_, h0, ha0, run_underlying ((hT _ _ ht).str rfl), goInt]
      · rename_i k e _ _ _ id ht
        split at h
        · rename_i es hH
          injection h with h; injection h with e1 e2; subst e1 e2
          obtain ⟨b, hb, rfl⟩ := mp_map hx hH
          obtain ⟨ms, cl, h1, h2, h3⟩ := I.map id b es hb hH
          refine key _ (.int .i64 es.length) ?_ (.int _ _)
          have hg : (getObj b).run P Γ.w = .ok (.map ms cl) Γ.w := by
            simp only [getObj, Sem.run, h1]
          simp [Builtin.len_, h0, ha0, run_underlying ((hT _ _ ht).map rfl), goInt, hg, h2]
        · cases h
      · cases h
  · rename_i t u sa x hats
    have e1 : ats = #[t, u] := by apply Array.ext'; simpa using hats
    subst e1
    generalize hal : args.toList = al at rx
    cases rx with
    | cons hs hn =>
      cases hn with
      | cons hx hn =>
        cases hn
        rename_i v1 v2
        have e2 : args = #[v1, v2] := by apply Array.ext'; simpa using hal
        subst e2
        split at h
        · rename_i e _ _ _ hu
          obtain ⟨v, w', h1, h2⟩ := append_sound hT ((hT _ _ hu).slice rfl) I hb0 h hs hx ty
          refine ⟨v, w', ?_, h2⟩
          unfold Go.builtin
          dsimp only
          rw [Sem.run_bind, h1]
          rfl
        · cases h
  · rename_i x r' 
    simp only [Option.map_eq_some_iff] at h
    obtain ⟨y, hy, e⟩ := h
    injection e with e1 e2; subst e1 e2
    generalize hal : args.toList = al at rx
    cases rx with
    | cons hx hn =>
      obtain ⟨z, hz, hr⟩ := minmax_sound (P := P) (w := Γ.w) _ Builtin.min2 (fun k k' a b w => by simp [Builtin.min2]) _ _ _ _ _ hy hx hn
      refine bi_pure I ⟨_, rfl, ?_⟩ hr
      unfold Builtin.min_
      rw [hal]
      exact hz
  · rename_i x r' 
    simp only [Option.map_eq_some_iff] at h
    obtain ⟨y, hy, e⟩ := h
    injection e with e1 e2; subst e1 e2
    generalize hal : args.toList = al at rx
    cases rx with
    | cons hx hn =>
      obtain ⟨z, hz, hr⟩ := minmax_sound (P := P) (w := Γ.w) _ Builtin.max2 (fun k k' a b w => by simp [Builtin.max2]) _ _ _ _ _ hy hx hn
      refine bi_pure I ⟨_, rfl, ?_⟩ hr
      unfold Builtin.max_
      rw [hal]
      exact hz
  · cases h

theorem resolve_builtin (ρ : Operand → Value) {c : Call} {b : Builtin} (h : c.callee = .builtin b) (ty : TypeId) : resolve ρ c ty = pure { target := .builtin b c.argTypes ty (c.args.map fun | .const _ => true | _ => false), args := c.args.map ρ } := by
  unfold resolve; rw [h]; rfl

theorem post_builtin (hT : TabOk P C.tab) (R : RelS base n0 Γ β s a) {c : Call} {b : Builtin} (ho : o.op = .call c) (hc : c.callee = .builtin b) (h : oper C K f o s = some s') :
    ∃ v w', Runs P o a Γ.w w' v ∧ HeapPost base Γ β s o.dst s' v w' := by
  unfold oper at h
  rw [ho] at h
  dsimp only at h
  split at h
  · rename_i vs hvs
    rw [hc] at h
    dsimp only at h
    simp only [Option.map_eq_some_iff] at h
    obtain ⟨⟨r, h'⟩, hb, e⟩ := h
    have hr := R.vals hvs
    rw [← R.heap] at hb
    obtain ⟨v, w', h1, Γ', e1, e2, hext, hI, hrv⟩ := builtin_sound (args := c.args.map a.eval) hT R.inv (Nat.le_trans R.sz.1 R.sz.2) hb (by simpa using hr) o.type (c.args.map fun | .const _ => true | _ => false)
    refine ⟨v, w', .inl ?_, Γ', .v r, e1, hext, hI, hrv, ?_⟩
    · unfold execOp
      rw [ho]
      dsimp only
      rw [resolve_builtin _ hc]
      simp only [pure_bind, invoke]
      exact h1
    · rw [← e, e2]; exact put_heap _ _ _ _
  · cases h

end Go.Ev
