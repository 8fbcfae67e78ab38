/- One operation of a region that draws its order is done. -/
import Derived.Test.YtelobnllkhnpaaaEvDraw2
namespace Go.Ev
set_option linter.unusedVariables false
set_option linter.unusedSimpArgs false

variable {P : Program} {C : Cfg} {Γ Γ0 : Ctx} {base n0 f : Nat} {β : Nat → Nat} {s s' : St} {a : Act} {o : Oper} {K : Callee}
variable {ops : Array Oper} {st : Nat → St} {lo n m M : Nat} {L : Array Bool}

theorem isIn_set {L : Array Bool} {i j : Nat} (hi : i < L.size) : isIn (L.setIfInBounds i true) j ↔ j = i ∨ isIn L j := by
  unfold isIn
  by_cases e : i = j
  · subst e
    simp [Array.getD_eq_getD_getElem?, hi]
  · have : ¬ j = i := fun h => e h.symm
    simp [Array.getD_eq_getD_getElem?, Array.getElem?_setIfInBounds_ne e, this]

theorem put_other {a : Act} {d : Option Tmp} {v : Value} {t : Nat} (h : d ≠ some t) : (a.put d v).tmps.getD t undef = a.tmps.getD t undef := by
  cases d with
  | none => rfl
  | some d =>
    have : ¬ d = t := fun e => h (by rw [e])
    simp [Act.put, Array.getD_eq_getD_getElem?, this]
theorem put_self {a : Act} {v : Value} {t : Nat} (h : t < a.tmps.size) : (a.put (some t) v).tmps.getD t undef = v := by
  simp [Act.put, Array.getD_eq_getD_getElem?, h]

theorem PR.merge (T : Tr C K f ops st) (p : PR ops st base n0 lo Γ0 n m M L Γ β a) (hok : drawOk ops = true) (hL : L.size = ops.size) (hcl : Closed ops L) {i : Nat} (hi : ops[i]? = some o) (h1 : m ≤ i) (h2 : i < M) (hni : ¬ isIn L i)
    (hdst : ∀ t, o.dst = some t → t < n) {Γ' : Ctx} (hx : Ext (len st i) (fun _ => False) (Γ.cut (len st i)) Γ') (hI : Inv base Γ') (hH : Γ'.H = (st (i + 1)).heap) {x : Slot} {v : Value} (hv : RelX Γ' β x v) (hlook : ∀ t, o.dst = some t → look (st (i + 1)).env t = some x) :
    ∃ Γ'', Γ''.w = Γ'.w ∧ PR ops st base n0 lo Γ0 n m M (L.setIfInBounds i true) Γ'' β (a.put o.dst v) := by
  have hlenM : Γ.H.length = len st M := by rw [p.H]; rfl
  have hM := p.mM
  have hiN : i < ops.size := by omega
  have mono1 := p.mono T h1 (Nat.le_succ i) h2
  have monoM := p.mono T (show m ≤ i + 1 by omega) h2 (Nat.le_refl _)
  have mono0 := p.mono T (Nat.le_refl m) h1 (Nat.le_of_lt h2)
  have hiL : len st i ≤ Γ.H.length := by rw [hlenM]; exact Nat.le_trans mono1.1 monoM.1
  have hcutlen : (Γ.cut (len st i)).H.length = len st i := by simp [Ctx.cut]; omega
  have hlen' : Γ'.H.length = len st (i + 1) := by rw [hH]; rfl
  have hHM : ∀ id, id < len st (i + 1) → Γ.H[id]? = Γ'.H[id]? := fun id hid => by
    rw [p.H, monoM.2 id hid, hH]
  -- what the step leaves of what there was
  have F1 : ∀ id, id < len st i → Γ'.ρ id = Γ.ρ id := fun id hid => by
    have := (hx.barrier id hid (by rw [hcutlen]; exact hid)).2.1
    rw [this]
    simp only [Ctx.cut, if_pos hid]
  have F1' : ∀ id b, id < len st i → Γ.ρ id = some b → Γ'.w.heap[b]? = Γ.w.heap[b]? := fun id b hid hr =>
    (hx.barrier id hid (by rw [hcutlen]; exact hid)).2.2 b (cut_rho.2 ⟨hid, hr⟩) (p.dom id b hr).2.1
  have Fkeep : ∀ b, b < Γ.w.heap.size → (∀ id, id < len st i → Γ.ρ id ≠ some b) → Γ'.w.heap[b]? = Γ.w.heap[b]? := fun b hb hn =>
    hx.keep b hb (fun id e => hn id (cut_rho.1 e).1 (cut_rho.1 e).2) (fun e => e)
  have F3 : ∀ id, len st i ≤ id → id < len st (i + 1) → Γ.ρ id = none := p.absent i h1 h2 hni
  have F4 : ∀ id b, len st i ≤ id → Γ'.ρ id = some b → Γ.w.heap.size ≤ b := fun id b hid hr => by
    rcases hx.fresh id b hr with ⟨id0, e⟩ | e
    · rw [cut_rho] at e
      have := hI.inj id id0 b hr (by rw [F1 id0 e.1]; exact e.2)
      omega
    · exact e
  have F5 : ∀ id b, Γ.ρ id = some b → Γ'.w.heap[b]? = Γ.w.heap[b]? := fun id b hr => by
    rcases Nat.lt_or_ge id (len st i) with h | h
    · exact F1' id b h hr
    · exact Fkeep b (p.dom id b hr).2.1 fun id' hid' e => by
        have := p.inj id id' b hr e; omega
  have FS : ∀ b, Γ'.S b → Γ.S b ∨ Γ.w.heap.size ≤ b := fun b hb => by
    rcases hx.stabN b hb with e | ⟨id, e⟩ | e
    · exact .inl e
    · rw [cut_rho] at e
      exact absurd hb (hI.dom id b (by rw [F1 id e.1]; exact e.2)).2.2.2
    · exact .inr e
  have FSt : ∀ b, Γ.S b → Γ'.S b ∧ Γ'.w.heap[b]? = Γ.w.heap[b]? := fun b hb =>
    ⟨hx.stab b hb, Fkeep b (p.stab b hb) fun id _ e => (p.dom id b e).2.2.2 hb⟩
  let Γ2 : Ctx := { H := Γ.H, ρ := fun id => if len st i ≤ id ∧ id < len st (i + 1) then Γ'.ρ id else Γ.ρ id, S := Γ'.S, w := Γ'.w }
  have R1 : ∀ id, len st i ≤ id → id < len st (i + 1) → Γ2.ρ id = Γ'.ρ id := fun id q1 q2 => if_pos ⟨q1, q2⟩
  have R2 : ∀ id, ¬ (len st i ≤ id ∧ id < len st (i + 1)) → Γ2.ρ id = Γ.ρ id := fun id q => if_neg q
  have ex : ∀ k, k ≤ Γ.H.length → Ext0 (Γ.cut k) (Γ2.cut k) := fun k hk =>
    Ext0.cut (Nat.le_refl _) (Nat.le_refl _) hk (fun _ _ => rfl) (fun id _ => by
      by_cases q : len st i ≤ id ∧ id < len st (i + 1)
      · exact .inr (F3 id q.1 q.2)
      · exact .inl (R2 id q)) hx.sizes FSt
  have ex' : ∀ k, i + 1 ≤ k → k ≤ M → Ext0 Γ' (Γ2.cut (len st k)) := fun k q1 q2 => by
    have hk := p.mono T (show m ≤ i + 1 by omega) q1 q2
    have hkM := p.mono T (show m ≤ k by omega) q2 (Nat.le_refl _)
    refine ⟨?_, fun id o hid h => ?_, fun id hid => .inl ?_, fun _ arr _ fr h => ⟨arr, fr, h, rfl⟩, fun _ h => ⟨h, rfl⟩⟩
    · simp only [Ctx.cut, List.length_take]; rw [hlen']; show _ ≤ min _ Γ.H.length; omega
    · rw [cut_get] at h
      rw [← hHM id (by omega)]; exact h.2
    · rw [hlen'] at hid
      show (if id < len st k then Γ2.ρ id else none) = _
      rw [if_pos (by omega)]
      rcases Nat.lt_or_ge id (len st i) with q | q
      · rw [R2 id (by omega), F1 id q]
      · exact R1 id q hid
  have hk0 : ∀ k, m ≤ k → k ≤ M → len st k ≤ Γ.H.length := fun k q1 q2 => by rw [hlenM]; exact (p.mono T q1 q2 (Nat.le_refl _)).1
  have hsz : Γ.w.heap.size ≤ Γ'.w.heap.size := hx.size
  -- who writes a slot that o writes stands ahead of it or behind it
  have hord : ∀ j o' t, isIn L j → i < j → ops[j]? = some o' → o'.dst = some t → o.dst ≠ some t := fun j o' t hj hij ho' hd hd' => by
    rcases drawOk_names hok ho' hi (by omega) hd' (List.mem_append_left _ (List.mem_append_left _ (by rw [hd]; exact Option.mem_toList.2 rfl))) with ⟨_, hb⟩ | ⟨q, _⟩
    · refine hni (closed_before hok hcl hL j o' ho' (hcl j o' ho' ?_) i hb)
      have hj' := hj
      unfold isIn at hj'
      rw [Array.getD_eq_getD_getElem?] at hj' ⊢
      cases hh : L[j]? with
      | none => rw [hh] at hj'; cases hj'
      | some w => rw [hh] at hj'; simpa using hj'
    · omega
  refine ⟨Γ2, rfl,
    { mM := p.mM, pre := fun j hj => (isIn_set (by omega)).2 (.inr (p.pre j hj)), bound := fun j hj => by
        rcases (isIn_set (by omega)).1 hj with e | e
        · omega
        · exact p.bound j e
      light := p.light, H := p.H
      dom := fun id b hr => ?_
      inj := fun id id' b hr hr' => ?_
      objs := fun k q1 q2 id b o2 hid hr ho2 => ?_
      stab := hI.stab
      absent := fun j q1 q2 hnj id r1 r2 => ?_
      env0 := fun t y hy hn => ?_
      envL := fun j o' t q1 q2 q3 q4 q5 => ?_
      sz := ⟨p.sz.1, Nat.le_trans p.sz.2 hsz⟩
      loc := fun d xs hxs => ?_
      linj := p.linj
      marks := ?_
      g0 := p.g0
      went := ?_
      asz := (put_size _ _ _).trans p.asz
      lo' := p.lo' }⟩
  · by_cases q : len st i ≤ id ∧ id < len st (i + 1)
    · rw [R1 id q.1 q.2] at hr
      obtain ⟨r1, r2, r3, r4⟩ := hI.dom id b hr
      exact ⟨by show id < Γ.H.length; rw [hlenM]; have := monoM.1; omega, r2, r3, r4⟩
    · rw [R2 id q] at hr
      obtain ⟨r1, r2, r3, r4⟩ := p.dom id b hr
      refine ⟨r1, by show b < Γ'.w.heap.size; omega, r3, fun hs => ?_⟩
      rcases FS b hs with e | e
      · exact r4 e
      · omega
  · by_cases q : len st i ≤ id ∧ id < len st (i + 1) <;> by_cases q' : len st i ≤ id' ∧ id' < len st (i + 1)
    · rw [R1 id q.1 q.2] at hr
      rw [R1 id' q'.1 q'.2] at hr'
      exact hI.inj id id' b hr hr'
    · rw [R1 id q.1 q.2] at hr
      rw [R2 id' q'] at hr'
      have := F4 id b q.1 hr
      have := (p.dom id' b hr').2.1
      omega
    · rw [R2 id q] at hr
      rw [R1 id' q'.1 q'.2] at hr'
      have := F4 id' b q'.1 hr'
      have := (p.dom id b hr).2.1
      omega
    · rw [R2 id q] at hr
      rw [R2 id' q'] at hr'
      exact p.inj id id' b hr hr'
  · by_cases q : len st i ≤ id ∧ id < len st (i + 1)
    · rw [R1 id q.1 q.2] at hr
      have hki : i + 1 ≤ k := by
        rcases Nat.lt_or_ge i k with h | h
        · exact h
        · have := (p.mono T q1 h (by omega)).1; omega
      have ho3 : Γ'.H[id]? = some o2 := by rw [← hHM id q.2]; exact ho2
      obtain ⟨ob, r1, r2⟩ := ObjOk.of hI hr ho3
      exact ⟨ob, r1, r2.ext0 (ex' k hki q2)⟩
    · rw [R2 id q] at hr
      obtain ⟨ob, r1, r2⟩ := p.objs k q1 q2 id b o2 hid hr ho2
      exact ⟨ob, (F5 id b hr).trans r1, r2.ext0 (ex _ (hk0 k q1 q2))⟩
  · have hji : j ≠ i := fun e => hnj ((isIn_set (by omega)).2 (.inl e))
    have hnj' : ¬ isIn L j := fun e => hnj ((isIn_set (by omega)).2 (.inr e))
    have hout : ¬ (len st i ≤ id ∧ id < len st (i + 1)) := by
      rcases Nat.lt_or_ge j i with h | h
      · have := (p.mono T (show m ≤ j + 1 by omega) h (by omega)).1; omega
      · have := (p.mono T (show m ≤ i + 1 by omega) (show i + 1 ≤ j by omega) (by omega)).1; omega
    rw [R2 id hout]
    exact p.absent j q1 q2 hnj' id r1 r2
  · have hd : o.dst ≠ some t := hn i o h1 ((isIn_set (by omega)).2 (.inl rfl)) hi
    obtain ⟨r1, r2⟩ := p.env0 t y hy (fun j o' q1 q2 q3 => hn j o' q1 ((isIn_set (by omega)).2 (.inr q2)) q3)
    rw [put_other hd]
    exact ⟨r1, r2.ext0 (ex _ (hk0 m (Nat.le_refl _) hM.1))⟩
  · rcases (isIn_set (by omega)).1 q2 with e | e
    · subst e
      rw [hi] at q3; injection q3 with q3; subst q3
      have ht := hdst t q4
      refine ⟨ht, x, hlook t q4, ?_⟩
      rw [q4, put_self (by rw [p.asz]; exact ht)]
      exact hv.ext0 (ex' (j + 1) (Nat.le_refl _) h2)
    · have hd : o.dst ≠ some t := by
        rcases Nat.lt_trichotomy i j with h | h | h
        · exact hord j o' t e h q3 q4
        · exact absurd (h ▸ e) hni
        · exact q5 i o h ((isIn_set (by omega)).2 (.inl rfl)) hi
      obtain ⟨r1, y, r2, r3⟩ := p.envL j o' t q1 e q3 q4 (fun j' o2 k1 k2 k3 => q5 j' o2 k1 ((isIn_set (by omega)).2 (.inr k2)) k3)
      have := p.bound j e
      refine ⟨r1, y, r2, ?_⟩
      rw [put_other hd]
      exact r3.ext0 (ex _ (hk0 (j + 1) (by omega) (by omega)))
  · obtain ⟨arr, T', r1, r2, r3, r4, r5, r6, r7⟩ := p.loc d xs hxs
    have hlt := heap_lt r1
    refine ⟨arr, T', (Fkeep _ hlt (fun id _ => r5 id)).trans r1, r2, r3, fun i x hi => (r4 i x hi).ext0 (ex _ (hk0 m (Nat.le_refl _) hM.1)), fun id e => ?_, fun e => ?_, r7⟩
    · by_cases q : len st i ≤ id ∧ id < len st (i + 1)
      · rw [R1 id q.1 q.2] at e
        have := F4 id _ q.1 e; omega
      · rw [R2 id q] at e; exact r5 id e
    · rcases FS _ e with e | e
      · exact r6 e
      · omega
  · obtain ⟨rs, k1, k2, k3⟩ := p.marks
    refine ⟨rs, ?_, k2, fun r hr => ?_⟩
    · rw [← k1]; cases o.dst <;> rfl
    · obtain ⟨r1, r5, r6, r7⟩ := k3 r hr
      have hlt := heap_lt r1
      refine ⟨(Fkeep _ hlt (fun id _ => r5 id)).trans r1, fun id e => ?_, fun e => ?_, r7⟩
      · by_cases q : len st i ≤ id ∧ id < len st (i + 1)
        · rw [R1 id q.1 q.2] at e
          have := F4 id _ q.1 e; omega
        · rw [R2 id q] at e; exact r5 id e
      · rcases FS _ e with e | e
        · exact r6 e
        · omega
  · have hout : ∀ id, id < Γ0.H.length → Γ2.ρ id = Γ.ρ id := fun id hid => R2 id (by have := p.g0; have := mono0.1; omega)
    have hw := p.went
    have hfr : ∀ b, (∃ id, Γ.ρ id = some b) → (∃ id0, Γ0.ρ id0 = some b) ∨ Γ0.w.heap.size ≤ b := fun b ⟨id, e⟩ => hw.fresh id b e
    exact
      { len := hw.len
        cells := fun id T2 xs' hid h => by
          obtain ⟨xs, r1, r2⟩ := hw.cells id T2 xs' hid h
          refine ⟨xs, r1, r2.imp (fun h => h) fun r2 => ⟨r2.1, ?_⟩⟩
          rw [hout id hid]; exact r2.2
        map := fun id es' hid h => by
          obtain ⟨es, r1, r2⟩ := hw.map id es' hid h
          exact ⟨es, r1, by rw [hout id hid]; exact r2⟩
        loop := fun id r' hid h => by
          obtain ⟨es, r1, r2⟩ := hw.loop id r' hid h
          exact ⟨es, r1, by rw [hout id hid]; exact r2⟩
        absent := fun id hid h => by rw [hout id hid]; exact hw.absent id hid h
        barrier := fun id hl hid => by
          obtain ⟨r1, r2, r3⟩ := hw.barrier id hl hid
          refine ⟨r1, by rw [hout id hid]; exact r2, fun b hb hlt => ?_⟩
          rw [← r3 b hb hlt]
          exact F5 id b (by rw [r2]; exact hb)
        sizes := fun b arr T2 fr h => by
          obtain ⟨a1, f1, r1, r2⟩ := hw.sizes b arr T2 fr h
          obtain ⟨a2, f2, r3, r4⟩ := hx.sizes b a1 T2 f1 r1
          exact ⟨a2, f2, r3, r4.trans r2⟩
        keep := fun b hb hr hn => by
          rw [← hw.keep b hb hr hn]
          refine Fkeep b (Nat.lt_of_lt_of_le hb hw.size) fun id _ e => ?_
          rcases hw.fresh id b e with ⟨id0, e0⟩ | e0
          · exact hr id0 e0
          · omega
        fresh := fun id b e => by
          by_cases q : len st i ≤ id ∧ id < len st (i + 1)
          · rw [R1 id q.1 q.2] at e
            have := F4 id b q.1 e; have := hw.size; right; omega
          · rw [R2 id q] at e; exact hw.fresh id b e
        stab := fun b hb => (FSt b (hw.stab b hb)).1
        stabN := fun b hb => by
          rcases FS b hb with e | e
          · exact hw.stabN b e
          · have := hw.size; right; right; omega
        size := Nat.le_trans hw.size hsz
        os := hx.os.trans hw.os
        tape := hx.tape.trans hw.tape
        output := hx.output.trans hw.output }

end Go.Ev
