/- A round of a range over a function; every call, by its depth. -/
import Derived.Test.YtelobnllkhnpaaaEvCall
namespace Go.Ev
set_option linter.unusedVariables false
set_option linter.unusedSimpArgs false

variable {P : Program} {C : Cfg} {Γ : Ctx} {base n0 f : Nat} {β : Nat → Nat} {s s' : St} {a : Act} {o : Oper} {K : Callee}

theorem run_getLoop {b : Nat} {lp : Loop} {w : World} (h : w.heap[b]? = some (.loop lp)) : (Instr.getLoop b).run P w = .ok lp w := by
  unfold Instr.getLoop
  have hg : (getObj b).run P w = .ok (.loop lp) w := by
    simp only [getObj, Sem.run, h]
  simp only [Sem.run_bind, hg, Result.andThen_ok, Sem.run_pure]
theorem run_setLoop {b : Nat} {lp : Loop} {w : World} (h : w.heap[b]? = some (.loop lp)) (o : Obj) : (setObj b o).run P w = .ok () { w with heap := w.heap.setIfInBounds b o } := by
  simp only [setObj, Sem.run, h]

theorem call_yield (hT : TabOk P C.tab) (hE : ∀ t, t ∈ C.eqs → EqOk P t) {k : Nat} (ih : SoundK P (call P C k)) (hD : DrawsOk P C (call P C k)) {lo l : Nat} {vs : List AV} {r : AV} {h' : Heap}
    (h : call P C (k + 1) lo (.yield l) vs Γ.H = some (r, h')) (I : Inv base Γ) (hb0 : base ≤ Γ.w.heap.size) {args : Array Value} (hargs : RelVs Γ vs args.toList) :
    (∃ rec_, Γ.H[l]? = some (.loop rec_)) ∧ ∀ b, Γ.ρ l = some b → ∃ fid tmps assign body, (Instr.yield b args).run P Γ.w = .ok (.round b fid tmps assign body) Γ.w ∧ RoundIn Fence.wide 0 P b fid tmps assign body Γ.w (CallPost base lo Γ r h') := by
  have H : Hyp P C (call P C k) := ⟨hT, hE, ih⟩
  simp only [call] at h
  split at h
  · rename_i rc hrc
    refine ⟨⟨rc, hrc⟩, fun b hb => ?_⟩
    split at h
    · rename_i hc
      obtain ⟨c1, c2, c3⟩ := hc
      obtain ⟨lp, hl, hL⟩ := I.loop l b rc hb hrc
      have hal := hargs.len
      simp only [Array.length_toList] at hal
      have hps : lp.params.toList.length = args.toList.length := by
        rw [hL.params, Array.length_toList]; omega
      refine ⟨lp.fn, (lp.params.zip args).foldl (fun tmps (t, a) => tmps.setIfInBounds t a) lp.tmps, lp.assign, lp.body, ?_, ?_⟩
      · unfold Instr.yield
        simp only [Sem.run_bind, run_getLoop hl, Result.andThen_ok]
        rw [if_neg (by simp at hps; omega)]
        rfl
      · obtain ⟨ok1, ok2, ok3⟩ := hL.ok
        rw [← hL.assign] at ok1
        rw [← hL.body] at ok2
        rw [toList_zip_foldl]
        obtain ⟨p1, p2⟩ := setParams_rel (Γ := Γ) lp.params.toList vs args.toList rc.env lp.tmps hargs hps (fun t ht => ok3 t (hL.params ▸ ht)) (fun t x hx => by
          cases x with
          | v av => exact hL.env t av hx
          | p d off => exact absurd hx (hL.nop t d off)
          | junk => exact ⟨hL.lt t _ hx, trivial⟩)
        generalize hT2 : (lp.params.toList.zip args.toList).foldl (fun tmps (t, a) => tmps.setIfInBounds t a) lp.tmps = tmps2 at p1 p2
        refine roundIn_of_wpIn trivial ?_
        have hR : RelS base Γ.w.heap.size Γ (fun _ => 0) { env := setParams rc.env rc.params vs, loc := [], heap := Γ.H, inRound := true, lo := lo } { tmps := tmps2, defers := [] } :=
          { inv := I, sz := ⟨hb0, Nat.le_refl _⟩, heap := rfl, env := fun t x hx => by rw [← hL.params] at hx; rw [p1]; exact p2 t x hx, loc := fun d xs h => (by cases h), linj := fun d d' xs xs' h => (by cases h), marks := ⟨[], rfl, List.nodup_nil, fun r hr => by cases hr⟩ }
        split at h
        · rename_i s1 h1
          rw [← hL.assign] at h1
          refine exec_sound (ro := some b) H hD (ranges_sound H) lp.assign ok1 Γ _ _ s1 .normal _ _ hR p1 rfl h1 fun a1 w1 hp => ?_
          obtain ⟨Γ1, β1, e1, R1, g1, e2, e3, e4⟩ := hp
          subst e1
          show ∃ w₂, (Instr.beginRound b).run P Γ1.w = .ok () w₂ ∧ _
          split at h
          · rename_i r1 hr1
            split at h
            · rename_i hst
              rw [← R1.heap] at hr1
              have hllt : l < Γ.H.length := cells_lt hrc
              obtain ⟨_, _, hρ1⟩ := g1.loop l r1 hllt hr1
              have hb1 : Γ1.ρ l = some b := hρ1.trans hb
              obtain ⟨lp1, hl1, hL1⟩ := R1.inv.loop l b r1 hb1 hr1
              have hready : lp1.state = .ready := hL1.st0 hst
              have hx2 : Ext lo (fun _ => False) Γ1 (Γ1.upd l b (.loop { r1 with st := 1 }) (.loop { lp1 with state := .busy })) := Ext.updLoop R1.inv c1 hb1 hr1 hl1
              have hI2 := R1.inv.upd hb1 hx2 (o := .loop { r1 with st := 1 }) ⟨_, rfl, { hL1 with st0 := fun h => (by cases h), st1 := fun h => absurd rfl h, env := hL1.env }⟩
              have hR2 := R1.ext hx2 hI2
              refine ⟨(Γ1.upd l b (.loop { r1 with st := 1 }) (.loop { lp1 with state := .busy })).w, ?_, ?_⟩
              · unfold Instr.beginRound
                simp only [Sem.run_bind, run_getLoop hl1, Result.andThen_ok, run_setLoop hl1, hready]
                rfl
              · split at h
                · rename_i e s2 h2
                  rw [← hL.body] at h2
                  have hs1 : ({ s1 with heap := s1.heap.set l (.loop { r1 with st := 1 }) } : St) = { s1 with heap := (Γ1.upd l b (.loop { r1 with st := 1 }) (.loop { lp1 with state := .busy })).H } := by
                    show _ = ({ s1 with heap := Γ1.H.set l _ } : St)
                    rw [R1.heap]
                  rw [hs1] at h2
                  refine exec_sound (ro := some b) H hD (ranges_sound H) lp.body ok2 _ _ _ s2 e a1 _ hR2 (e2.trans rfl) (e4.trans rfl) h2 fun a3 w3 hp => ?_
                  obtain ⟨Γ3, β3, e5, R3, g3, e6, e7, e8⟩ := hp
                  subst e5
                  have gAll : Went lo Γ.w.heap.size Γ Γ3 := (Went.trans (lo' := lo) g1 (Went.of hx2) (Nat.le_refl _)).trans g3 (by show lo ≤ s1.lo; rw [e3]; exact Nat.le_refl _)
                  have hxAll := gAll.closed
                  split at h
                  · rename_i r3 hr3
                    rw [← R3.heap] at hr3
                    obtain ⟨_, _, hρ3⟩ := gAll.loop l r3 hllt hr3
                    have hb3 : Γ3.ρ l = some b := hρ3.trans hb
                    obtain ⟨lp3, hl3, hL3⟩ := R3.inv.loop l b r3 hb3 hr3
                    have fin : ∀ (st : Nat) (ls : LoopState) (pend : Option Code) (rb : Bool), (st = 0 → ls = .ready) → (ls ≠ .busy) → rb = pend.isNone → ls = (if pend.isNone then .ready else .done) →
                        r = .bool rb → h' = s2.heap.set l (.loop { r3 with st := st, pending := pend }) →
                        ∃ v w', (Instr.endRound b pend).run P Γ3.w = .ok v w' ∧ CallPost base lo Γ r h' (.returned v) w' := by
                      intro st ls pend rb hs0 hs1 hrb hls hr' hh'
                      have hx4 : Ext lo (fun _ => False) Γ3 (Γ3.upd l b (.loop { r3 with st := st, pending := pend }) (.loop { lp3 with state := ls, pending := pend })) := Ext.updLoop R3.inv c1 hb3 hr3 hl3
                      have hI4 := R3.inv.upd hb3 hx4 (o := .loop { r3 with st := st, pending := pend }) ⟨_, rfl, { hL3 with st0 := hs0, st1 := fun _ => hs1, pending := rfl, env := hL3.env }⟩
                      refine ⟨.bool rb, (Γ3.upd l b (.loop { r3 with st := st, pending := pend }) (.loop { lp3 with state := ls, pending := pend })).w, ?_, Γ3.upd l b (.loop { r3 with st := st, pending := pend }) (.loop { lp3 with state := ls, pending := pend }), rfl, ?_, hxAll.trans hx4 (Nat.le_refl _) (fun _ _ _ h => h.elim), hI4, ?_⟩
                      · unfold Instr.endRound
                        simp only [Sem.run_bind, run_getLoop hl3, Result.andThen_ok, run_setLoop hl3, Sem.run_pure]
                        rw [hls, hrb]
                        rfl
                      · show Γ3.H.set l _ = _
                        rw [hh', R3.heap]
                      · rw [hr']; exact .bool _
                    cases e with
                    | normal =>
                      injection h with h; injection h with q1 q2
                      exact fin 0 .ready none true (fun _ => rfl) (by simp) rfl rfl q1.symm q2.symm
                    | ret =>
                      injection h with h; injection h with q1 q2
                      exact fin 2 .done (some .ret) false (fun h => by cases h) (by simp) rfl rfl q1.symm q2.symm
                    | exit i =>
                      injection h with h; injection h with q1 q2
                      exact fin 2 .done (some (.exit i)) false (fun h => by cases h) (by simp) rfl rfl q1.symm q2.symm
                  · cases h
                · cases h
            · cases h
          · cases h
        · cases h
    · cases h
  · cases h

theorem call_sound (hO : SoundK P C.orc) (hT : TabOk P C.tab) (hE : ∀ t, t ∈ C.eqs → EqOk P t) (hP : progOk P = true) (hD : ∀ K, Hyp P C K → DrawsOk P C K) : ∀ k, SoundK P (call P C k)
  | 0 => fun lo g vs h r h' hk => by cases hk
  | k + 1 => fun lo g vs h r h' hk base Γ I hb0 hH args hargs => by
    have ih := call_sound hO hT hE hP hD k
    subst hH
    cases g with
    | func fid => exact call_func hO hT hE hP ih (hD _ ⟨hT, hE, ih⟩) hk I hb0 hargs
    | yield l => exact call_yield hT hE ih (hD _ ⟨hT, hE, ih⟩) hk I hb0 hargs
    | _ => trivial

end Go.Ev
