/- Structs built; operations that make objects. -/
import Derived.Test.YtelobnllkhnpaaaEvOp4
namespace Go.Ev
set_option linter.unusedVariables false
set_option linter.unusedSimpArgs false

variable {P : Program} {C : Cfg} {Γ : Ctx} {t : Nat} {ti : TI} {base n0 f : Nat} {β : Nat → Nat} {s s' : St} {a : Act} {o : Oper} {K : Callee}

theorem run_mapM_list {α β : Type} {F : α → Sem β} {g : α → β} {w : World} : ∀ (l : List α), (∀ x, x ∈ l → (F x).run P w = .ok (g x) w) → (l.mapM F).run P w = .ok (l.map g) w
  | [], _ => rfl
  | x :: l, h => by
    rw [List.mapM_cons]
    simp only [Sem.run_bind, h x (List.mem_cons_self ..), Result.andThen_ok, run_mapM_list l (fun y hy => h y (List.mem_cons_of_mem _ hy)), Sem.run_pure, List.map_cons]
theorem run_mapM_array {α β : Type} {F : α → Sem β} {g : α → β} {w : World} (l : Array α) (h : ∀ x, x ∈ l.toList → (F x).run P w = .ok (g x) w) : (l.mapM F).run P w = .ok (l.map g) w := by
  rw [Array.mapM_eq_mapM_toList]
  simp only [Sem.run_map, run_mapM_list l.toList h, Result.andThen_ok]
  congr 1
  apply Array.ext'
  simp

theorem vals_parts (R : RelS base n0 Γ β s a) {parts : Array (Nat × Operand)} {vs : List AV} (h : s.vals (parts.toList.map (·.2)) = some vs) :
    ((parts.toList.map (·.1)).zip vs).map (·.1) = ((parts.map fun (i, x) => (i, a.eval x)).toList).map (·.1) ∧ RelVs Γ (((parts.toList.map (·.1)).zip vs).map (·.2)) (((parts.map fun (i, x) => (i, a.eval x)).toList).map (·.2)) := by
  have hr := R.vals h
  have hl := hr.len
  simp only [List.length_map, Array.length_toList] at hl
  constructor
  · rw [List.map_fst_zip (by simp only [List.length_map, Array.length_toList]; omega), Array.toList_map, List.map_map]
    rfl
  · rw [List.map_snd_zip (by simp only [List.length_map, Array.length_toList]; omega), Array.toList_map, List.map_map]
    rw [List.map_map] at hr
    exact hr

theorem pure_build (hT : TabOk P C.tab) (R : RelS base n0 Γ β s a) {t : TypeId} {parts : Array (Nat × Operand)} (ho : o.op = .build t parts) (h : oper C K f o s = some s') : PureOk P Γ β s a o s' := by
  unfold oper at h
  rw [ho] at h
  dsimp only at h
  split at h
  · rename_i fs sz by_ zr vs ht hv
    simp only [Option.map_eq_some_iff] at h
    obtain ⟨ys, hf, e⟩ := h
    obtain ⟨p1, p2⟩ := vals_parts R hv
    have hti := hT _ _ ht
    obtain ⟨gs, hg, hfs⟩ := hti.struct rfl
    obtain ⟨z, hz, hz1, hz2, hz3⟩ := hti.run_zero Γ.w
    have hsz : ∀ g, g ∈ gs.toList → (do pure (g.offset, ← sizeOf g.type) : Sem (Nat × Nat)).run P Γ.w = .ok (g.offset, ((P.info? g.type).map (·.size)).getD 0) Γ.w := fun g hgm => by
      obtain ⟨i, hi⟩ := hti.flds gs hg g hgm
      simp [sizeOf, typeInfo, hi]
    have hpl := run_mapM_array (P := P) (w := Γ.w) gs hsz
    obtain ⟨ds, hds, hrel⟩ := fill_sound (Γ := Γ) (place := fun i => (gs.map fun g => (g.offset, ((P.info? g.type).map (·.size)).getD 0))[i]?) (fun i p hp => by
      cases hi : fs[i]? with
      | none => rw [hi] at hp; cases hp
      | some q =>
        obtain ⟨off, ft⟩ := q
        rw [hi] at hp
        dsimp only at hp
        cases hft : look C.tab ft with
        | none => rw [hft] at hp; cases hp
        | some fi =>
          rw [hft] at hp
          injection hp with hp; subst hp
          obtain ⟨i', e1, e2, _⟩ := (hT _ _ hft).info
          rw [← hfs, List.getElem?_map] at hi
          cases hg2 : gs.toList[i]? with
          | none => rw [hg2] at hi; cases hi
          | some g =>
            rw [hg2] at hi
            injection hi with hi; injection hi with a1 a2
            rw [Array.getElem?_map, ← Array.getElem?_toList, hg2]
            simp [a1, a2, e1, e2]) _ _ zr ys z.cells hf p1 p2 (.of_zero hz2)
    refine ⟨.v (.agg ys), .agg ds, ?_, hrel.agg, e.symm⟩
    unfold execOp
    rw [ho]
    dsimp only
    have hb : (Instr.build t (parts.map fun (i, x) => (i, a.eval x))).run P Γ.w = .ok (.agg ds) Γ.w := by
      unfold Instr.build
      simp only [Sem.run_bind, hz, Result.andThen_ok, run_underlying hg, hpl, hds, Sem.run_pure]
    rw [Sem.run_bind, hb]
    rfl
  · cases h

end Go.Ev
