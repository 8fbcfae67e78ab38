/- awake as an oracle. -/
import Derived.Test.YtelobnllkhnpaaaEvT
open Go Go.Proofs Go.Ev
namespace Go.Proofs.Ytelobnllkhnpaaa.E
set_option linter.unusedVariables false
set_option linter.unusedSimpArgs false

theorem orc_sound : SoundK Try.prog orc := by
  intro lo g vs h r h' hk base Γ I hb hH args hargs
  unfold orc at hk
  split at hk
  · injection hk with hk; injection hk with e1 e2; subst e1 e2
    cases hh : args.toList with
    | cons v l => rw [hh] at hargs; cases hargs
    | nil =>
      have ha : args = #[] := by apply Array.ext'; simpa using hh
      subst ha
      refine ⟨⟨Try.f13, Try.func13, by decide, rfl⟩, callsIn_wide.2 ((awake Γ.w).mono fun e w' he => ?_)⟩
      cases e with
      | returned v =>
        obtain ⟨rfl, hbel⟩ := he
        have hx : Ext lo (fun _ => False) Γ { Γ with w := w' } :=
          { Ext.refl lo (fun _ => False) Γ with
            sizes := fun b arr T fr hb' => ⟨arr, fr, (hbel.block b (heap_lt hb')).trans hb', rfl⟩
            keep := fun b hb' _ _ => hbel.block b hb'
            barrier := fun id _ _ => ⟨rfl, rfl, fun b _ hlt => hbel.block b hlt⟩
            size := hbel.size, os := hbel.os, tape := hbel.tape, output := hbel.output }
        exact ⟨{ Γ with w := w' }, rfl, hH, hx, I.same hx (fun _ _ h => h) rfl rfl rfl (fun id b e => hbel.block b (I.dom id b e).2.1), .bool _⟩
      | panicked c => exact he.elim
      | outgrown => exact he.elim
  · cases hk

theorem sound : Sound Try.prog cfg := ⟨sound0.tab, cfg_ok, orc_sound⟩
end Go.Proofs.Ytelobnllkhnpaaa.E
