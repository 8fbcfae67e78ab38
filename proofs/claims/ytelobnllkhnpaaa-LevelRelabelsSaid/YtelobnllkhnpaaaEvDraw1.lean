/- Contexts cut back; what stands ahead of an operation. -/
import Derived.Test.YtelobnllkhnpaaaEvYield
namespace Go.Ev
set_option linter.unusedVariables false
set_option linter.unusedSimpArgs false

variable {P : Program} {C : Cfg} {Γ : Ctx} {base n0 f : Nat} {β : Nat → Nat} {s s' : St} {a : Act} {o : Oper} {K : Callee}

/-- As much of 'Ext' as a value's relation needs. -/
structure Ext0 (Γ Γ' : Ctx) : Prop where
  len : Γ.H.length ≤ Γ'.H.length
  obj : ∀ (id : Nat) (o : HObj), id < Γ.H.length → Γ'.H[id]? = some o → Γ.H[id]? = some o
  rho : ∀ id, id < Γ.H.length → Γ'.ρ id = Γ.ρ id ∨ Γ.ρ id = none
  sizes : ∀ (b : Nat) (arr : Array Value) (T : TypeId) (fr : Nat × Nat), Γ.w.heap[b]? = some (.cells arr T fr) → ∃ (arr' : Array Value) (fr' : Nat × Nat), Γ'.w.heap[b]? = some (.cells arr' T fr') ∧ arr'.size = arr.size
  stab : ∀ b, Γ.S b → Γ'.S b ∧ Γ'.w.heap[b]? = Γ.w.heap[b]?

theorem Ext0.refl (Γ : Ctx) : Ext0 Γ Γ := ⟨Nat.le_refl _, fun _ _ _ h => h, fun _ _ => .inl rfl, fun _ arr _ fr h => ⟨arr, fr, h, rfl⟩, fun _ h => ⟨h, rfl⟩⟩

theorem RelV.ext0 {Γ Γ' : Ctx} (h : Ext0 Γ Γ') {a : AV} {v : Value} (hr : RelV Γ a v) : RelV Γ' a v := by
  induction hr with
  | int k n => exact .int k n
  | bool b => exact .bool b
  | str s => exact .str s
  | nils => exact .nils
  | nilp => exact .nilp
  | nilm => exact .nilm
  | nilf => exact .nilf
  | nili => exact .nili
  | @sl id sz off len v hin h1_ h0 =>
    refine .sl (Nat.lt_of_lt_of_le hin h.len) h1_ fun T xs hx => ?_
    obtain ⟨h2, h3⟩ := h0 T xs (h.obj id _ hin hx)
    refine ⟨h2, fun e => ?_⟩
    obtain ⟨b, c, arr, T', fr, hb, hv, hcl, hh, hsz⟩ := h3 e
    obtain ⟨arr', fr', hh', hs'⟩ := h.sizes b arr T' fr hh
    refine ⟨b, c, arr', T', fr', ?_, hv, hcl, hh', by omega⟩
    rcases h.rho id hin with e | e
    · exact e.trans hb
    · rw [e] at hb; cases hb
  | @hp id n off v hin h1_ h0 =>
    refine .hp (Nat.lt_of_lt_of_le hin h.len) h1_ fun T xs hx => ?_
    obtain ⟨h2, h3⟩ := h0 T xs (h.obj id _ hin hx)
    refine ⟨h2, fun e => ?_⟩
    obtain ⟨b, hb, hv⟩ := h3 e
    refine ⟨b, ?_, hv⟩
    rcases h.rho id hin with e | e
    · exact e.trans hb
    · rw [e] at hb; cases hb
  | @mp id v hin h1_ h0 =>
    refine .mp (Nat.lt_of_lt_of_le hin h.len) h1_ fun es hx => ?_
    obtain ⟨b, hb, hv⟩ := h0 es (h.obj id _ hin hx)
    refine ⟨b, ?_, hv⟩
    rcases h.rho id hin with e | e
    · exact e.trans hb
    · rw [e] at hb; cases hb
  | vs hT => exact .vs (hT.mono h.stab)
  | rp g h1_ hmem hrel =>
    refine .rp g h1_ (fun j hj => ?_) (fun j x hx => (hrel j x hx).mono h.stab)
    obtain ⟨h1, h2⟩ := hmem j hj
    obtain ⟨h3, h4⟩ := h.stab _ h2
    refine ⟨?_, h3⟩
    rw [← h1]
    exact cell_of_heap (by rw [add_block]; exact h4)
  | fn hn _ ih => exact .fn hn ih
  | @yield id v hin h1_ h0 =>
    refine .yield (Nat.lt_of_lt_of_le hin h.len) h1_ fun r hx => ?_
    obtain ⟨b, hb, hv⟩ := h0 r (h.obj id _ hin hx)
    refine ⟨b, ?_, hv⟩
    rcases h.rho id hin with e | e
    · exact e.trans hb
    · rw [e] at hb; cases hb
  | agg hn h1_ _ ih => exact .agg hn h1_ ih
  | tup hn _ ih => exact .tup hn ih
  | iface _ ih => exact .iface ih

theorem RelX.ext0 {Γ Γ' : Ctx} (h : Ext0 Γ Γ') {x : Slot} {v : Value} (hr : RelX Γ β x v) : RelX Γ' β x v := by
  cases x with
  | v a => exact RelV.ext0 h hr
  | p d off => exact hr
  | junk => trivial

theorem ObjOk.ext0 {Γ Γ' : Ctx} (e : Ext0 Γ Γ') {o : HObj} {ob : Obj} (h : ObjOk Γ o ob) : ObjOk Γ' o ob := by
  cases o with
  | cells T xs => obtain ⟨arr, h1, h2, h3, h4⟩ := h; exact ⟨arr, h1, h2, h3, fun i x hi => (h4 i x hi).ext0 e⟩
  | map es => obtain ⟨ms, cl, h1, h2, h3⟩ := h; exact ⟨ms, cl, h1, h2, fun i x hi => let ⟨m, a, b, c⟩ := h3 i x hi; ⟨m, a, b.ext0 e, c.ext0 e⟩⟩
  | loop r => obtain ⟨l, h1, h2⟩ := h; exact ⟨l, h1, { h2 with env := fun t a ha => let ⟨x, y⟩ := h2.env t a ha; ⟨x, y.ext0 e⟩ }⟩
  | dead => trivial

/-- The context of the objects before k. -/
def Ctx.cut (Γ : Ctx) (k : Nat) : Ctx := { Γ with H := Γ.H.take k, ρ := fun id => if id < k then Γ.ρ id else none }

theorem cut_get {k id : Nat} {o : HObj} : (Γ.cut k).H[id]? = some o ↔ id < k ∧ Γ.H[id]? = some o := by
  simp only [Ctx.cut]
  rcases Nat.lt_or_ge id k with h | h
  · rw [List.getElem?_take_of_lt h]; exact ⟨fun e => ⟨h, e⟩, fun e => e.2⟩
  · rw [List.getElem?_take_eq_none h]
    exact ⟨fun e => (by cases e), fun e => absurd e.1 (by omega)⟩
theorem cut_rho {k id b : Nat} : (Γ.cut k).ρ id = some b ↔ id < k ∧ Γ.ρ id = some b := by
  simp only [Ctx.cut]
  split
  · rename_i h; exact ⟨fun e => ⟨h, e⟩, fun e => e.2⟩
  · rename_i h; exact ⟨fun e => (by cases e), fun e => absurd e.1 h⟩

/-- From a cut to a later one, the world moved on. -/
theorem Ext0.cut {Γ Γ' : Ctx} {k k' : Nat} (hk : k ≤ k') (hlen : Γ.H.length ≤ Γ'.H.length) (hk' : k ≤ Γ.H.length) (hH : ∀ id, id < k → Γ'.H[id]? = Γ.H[id]?) (hρ : ∀ id, id < k → Γ'.ρ id = Γ.ρ id ∨ Γ.ρ id = none)
    (sizes : ∀ (b : Nat) (arr : Array Value) (T : TypeId) (fr : Nat × Nat), Γ.w.heap[b]? = some (.cells arr T fr) → ∃ (arr' : Array Value) (fr' : Nat × Nat), Γ'.w.heap[b]? = some (.cells arr' T fr') ∧ arr'.size = arr.size)
    (stab : ∀ b, Γ.S b → Γ'.S b ∧ Γ'.w.heap[b]? = Γ.w.heap[b]?) : Ext0 (Γ.cut k) (Γ'.cut k') where
  len := by simp [Ctx.cut]; omega
  obj id o hid h := by
    have hid' : id < k := by simp [Ctx.cut] at hid; omega
    rw [cut_get] at h ⊢
    exact ⟨hid', by rw [← hH id hid']; exact h.2⟩
  rho id hid := by
    have hid' : id < k := by simp [Ctx.cut] at hid; omega
    simp only [Ctx.cut, if_pos hid', if_pos (show id < k' by omega)]
    exact hρ id hid'
  sizes := sizes
  stab := stab

theorem cut_all {k : Nat} (hk : Γ.H.length ≤ k) (hd : ∀ id b, Γ.ρ id = some b → id < Γ.H.length) : Γ.cut k = Γ := by
  obtain ⟨H, ρ, S, w⟩ := Γ
  simp only [Ctx.cut, Ctx.mk.injEq, and_true]
  refine ⟨List.take_of_length_le hk, ?_⟩
  funext id
  split
  · rfl
  · rename_i h
    cases hh : ρ id with
    | none => rfl
    | some b => have := hd id b hh; simp at this hk; omega

/-! ### What stands ahead -/

theorem foldl_bits (acc : List Nat) (j : Nat) : ∀ (l : List Edge) (s : Nat), (l.foldl (fun s e => if Region.binds .any e then s ||| 2 ^ e.on ||| acc.getD e.on 0 else s) s).testBit j = true →
    s.testBit j = true ∨ ∃ e, e ∈ l ∧ Region.binds .any e = true ∧ (e.on = j ∨ (acc.getD e.on 0).testBit j = true)
  | [], s, h => .inl h
  | e :: l, s, h => by
    rw [List.foldl_cons] at h
    rcases foldl_bits acc j l _ h with h1 | ⟨e', h1, h2, h3⟩
    · split at h1
      · rename_i hb
        rw [Nat.testBit_or, Nat.testBit_or, Nat.testBit_two_pow] at h1
        simp only [Bool.or_eq_true, decide_eq_true_eq] at h1
        rcases h1 with (h1 | h1) | h1
        · exact .inl h1
        · exact .inr ⟨e, List.mem_cons_self .., hb, .inl h1⟩
        · exact .inr ⟨e, List.mem_cons_self .., hb, .inr h1⟩
      · exact .inl h1
    · exact .inr ⟨e', List.mem_cons_of_mem _ h1, h2, h3⟩

theorem befores_len : ∀ (l : List Oper) (acc : List Nat), (befores l acc).length = acc.length + l.length
  | [], acc => rfl
  | o :: l, acc => by rw [befores, befores_len l]; simp; omega
theorem befores_pre : ∀ (l : List Oper) (acc : List Nat) (i : Nat), i < acc.length → (befores l acc)[i]? = acc[i]?
  | [], acc, i, h => rfl
  | o :: l, acc, i, h => by
    rw [befores, befores_pre l _ i (by simp; omega), List.getElem?_append_left h]
theorem befores_spec : ∀ (l : List Oper) (acc : List Nat) (i j : Nat) (o : Oper), l[i]? = some o → ((befores l acc).getD (acc.length + i) 0).testBit j = true →
    ∃ e, e ∈ o.after.toList ∧ Region.binds .any e = true ∧ (e.on = j ∨ ((befores l acc).getD e.on 0).testBit j = true)
  | [], acc, i, j, o, h, _ => by simp at h
  | o' :: l, acc, 0, j, o, h, hb => by
    simp at h; subst h
    rw [befores] at hb ⊢
    have e1 : (befores l (acc ++ [bitsBefore acc o'])).getD (acc.length + 0) 0 = bitsBefore acc o' := by
      rw [List.getD_eq_getElem?_getD, befores_pre l _ _ (by simp)]
      simp
    rw [e1] at hb
    rcases foldl_bits acc j _ _ hb with h1 | ⟨e, h1, h2, h3⟩
    · simp at h1
    · refine ⟨e, h1, h2, h3.imp id fun h3 => ?_⟩
      rcases Nat.lt_or_ge e.on acc.length with h4 | h4
      · rw [List.getD_eq_getElem?_getD, befores_pre l _ _ (by simp; omega), List.getElem?_append_left h4, ← List.getD_eq_getElem?_getD]
        exact h3
      · rw [List.getD_eq_getElem?_getD, List.getElem?_eq_none h4] at h3
        simp at h3
  | o' :: l, acc, i + 1, j, o, h, hb => by
    simp at h
    rw [befores] at hb ⊢
    have := befores_spec l (acc ++ [bitsBefore acc o']) i j o h
    rw [List.length_append, List.length_singleton, Nat.add_assoc, Nat.add_comm 1 i] at this
    exact this hb

theorem befs_spec {ops : Array Oper} {i j : Nat} {o : Oper} (h : ops[i]? = some o) (hb : ((befs ops).getD i 0).testBit j = true) : ∃ e, e ∈ o.after.toList ∧ Region.binds .any e = true ∧ (e.on = j ∨ ((befs ops).getD e.on 0).testBit j = true) := by
  have := befores_spec ops.toList [] i j o (by rw [Array.getElem?_toList]; exact h)
  simp only [List.length_nil, Nat.zero_add] at this
  exact this hb

/-- A set of operations that is closed: with each those that it waits for. -/
def Closed (ops : Array Oper) (L : Array Bool) : Prop := ∀ (i : Nat) (o : Oper), ops[i]? = some o → L.getD i true = true → ∀ e, e ∈ o.after.toList → Region.binds .any e = true → L.getD e.on false = true

theorem drawOk_edges {ops : Array Oper} (h : drawOk ops = true) {i : Nat} {o : Oper} (ho : ops[i]? = some o) {e : Edge} (he : e ∈ o.after.toList) (hb : Region.binds .any e = true) : e.on < i := by
  unfold drawOk at h
  have hi : i < ops.size := by
    rcases Nat.lt_or_ge i ops.size with h' | h'
    · exact h'
    · rw [Array.getElem?_eq_none h'] at ho; cases ho
  have h1 := List.all_eq_true.1 h i (List.mem_range.2 hi)
  rw [ho] at h1
  simp only [Bool.and_eq_true] at h1
  have h2 := h1.1
  rw [← Array.all_toList, List.all_eq_true] at h2
  have h3 := h2 e he
  rw [hb] at h3
  simpa using h3

theorem drawOk_names {ops : Array Oper} (h : drawOk ops = true) {i j : Nat} {o o' : Oper} (ho : ops[i]? = some o) (ho' : ops[j]? = some o') (hne : j ≠ i) {d : Nat} (hd : o'.dst = some d) (hn : d ∈ namesOf ops o) :
    (j < i ∧ ((befs ops).getD i 0).testBit j = true) ∨ (i < j ∧ ((befs ops).getD j 0).testBit i = true) := by
  unfold drawOk at h
  have lt : ∀ {i : Nat} {o : Oper}, ops[i]? = some o → i < ops.size := fun {i o} ho => by
    rcases Nat.lt_or_ge i ops.size with h' | h'
    · exact h'
    · rw [Array.getElem?_eq_none h'] at ho; cases ho
  have h1 := List.all_eq_true.1 h i (List.mem_range.2 (lt ho))
  rw [ho] at h1
  simp only [Bool.and_eq_true] at h1
  have h2 := List.all_eq_true.1 h1.2 j (List.mem_range.2 (lt ho'))
  rw [ho'] at h2
  simp only [Option.bind_some, hd] at h2
  have hne' : (j == i) = false := by simpa using hne
  have hc : (namesOf ops o).contains d = true := by simpa using hn
  rw [hne', hc] at h2
  simp only [Bool.false_or, Bool.not_true] at h2
  split at h2
  · rename_i hlt; exact .inl ⟨hlt, h2⟩
  · exact .inr ⟨by omega, h2⟩

/-- What stands ahead of a member, or of one that is ready, is in. -/
theorem closed_before {ops : Array Oper} {L : Array Bool} (hok : drawOk ops = true) (hc : Closed ops L) (hL : L.size = ops.size) : ∀ (i : Nat) (o : Oper), ops[i]? = some o → (∀ e, e ∈ o.after.toList → Region.binds .any e = true → L.getD e.on false = true) →
    ∀ j, ((befs ops).getD i 0).testBit j = true → L.getD j false = true := by
  intro i
  induction i using Nat.strongRecOn with
  | _ i ih =>
    intro o ho hr j hj
    obtain ⟨e, he, hb, h⟩ := befs_spec ho hj
    have hin := hr e he hb
    rcases h with rfl | h
    · exact hin
    · have hlt := drawOk_edges hok ho he hb
      have hsz : e.on < ops.size := by
        rcases Nat.lt_or_ge e.on L.size with h' | h'
        · omega
        · rw [Array.getD_eq_getD_getElem?, Array.getElem?_eq_none h'] at hin; cases hin
      obtain ⟨o', ho'⟩ : ∃ o', ops[e.on]? = some o' := ⟨_, Array.getElem?_eq_getElem hsz⟩
      refine ih e.on hlt o' ho' (hc e.on o' ho' ?_) j h
      rw [Array.getD_eq_getD_getElem?] at hin ⊢
      cases hh : L[e.on]? with
      | none => rw [hh] at hin; cases hin
      | some v => rw [hh] at hin; simpa using hin

end Go.Ev
