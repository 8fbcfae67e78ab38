/- A statement that ranges over a function. -/
import Derived.Test.YtelobnllkhnpaaaEvExec
namespace Go.Ev
set_option linter.unusedVariables false
set_option linter.unusedSimpArgs false

variable {P : Program} {C : Cfg} {Γ : Ctx} {base n0 f : Nat} {β : Nat → Nat} {s s' : St} {a : Act} {o : Oper} {K : Callee}

/-- A loop's record is put away. -/
theorem Ext.kill (I : Inv base Γ) {lo : Nat} {id b : Nat} {ob : Obj} {r : LoopA} {l : Loop} (hlo : lo ≤ id) (hρ : Γ.ρ id = some b) (ha : Γ.w.heap[b]? = some (.loop l)) :
    Ext lo (fun _ => False) Γ (Γ.upd id b .dead ob) where
  len := by simp [Ctx.upd]
  cells id' T' ys _ hy := by
    rcases set_get hy with ⟨rfl, e⟩ | ⟨_, e⟩
    · cases e
    · exact ⟨ys, e, .inr ⟨rfl, rfl⟩⟩
  map id' es2 _ hy := by
    rcases set_get hy with ⟨rfl, e⟩ | ⟨_, e⟩
    · cases e
    · exact ⟨es2, e, rfl⟩
  loop id' r2 _ hy := by
    rcases set_get hy with ⟨rfl, e⟩ | ⟨_, e⟩
    · cases e
    · exact ⟨r2, e, rfl⟩
  absent _ _ h := h
  barrier id' hl hid := ⟨List.getElem?_set_ne (by omega), rfl, fun b' hb' _ => heap_set_other fun e => by
    have := I.inj id id' b hρ (by rw [e]; exact hb')
    omega⟩
  sizes b' a T' fr h := by
    by_cases e : b = b'
    · subst e; rw [ha] at h; cases h
    · exact ⟨a, fr, (heap_set_other e).trans h, rfl⟩
  keep b' hb hn _ := heap_set_other (fun e => hn id (e ▸ hρ))
  fresh id' b' h := .inl ⟨id', h⟩
  stab _ h := h
  stabN _ h := .inl h
  size := by simp [Ctx.upd]
  os := rfl
  tape := rfl
  output := rfl

theorem marks_inj : ∀ (l m : List Nat), l.map (fun r => ({ target := .collected r, args := #[] } : Deferred)) = m.map (fun r => ({ target := .collected r, args := #[] } : Deferred)) → l = m
  | [], [], _ => rfl
  | [], _ :: _, h => by cases h
  | _ :: _, [], h => by cases h
  | x :: l, y :: m, h => by
    simp only [List.map_cons, List.cons.injEq] at h
    obtain ⟨h1, h2⟩ := h
    injection h1 with h1 _
    injection h1 with h1
    rw [h1, marks_inj l m h2]

theorem look_map_env (g : Slot → Slot) (t : Nat) : ∀ l : List (Nat × Slot), look (l.map fun x => (x.1, g x.2)) t = (look l t).map g
  | [] => rfl
  | (k, x) :: l => by
    simp only [List.map_cons, look_cons]
    split
    · rfl
    · exact look_map_env g t l

theorem ranges_sound (H : Hyp P C K) : RangesOk P C K := by
  intro base n0 f n fuel g ps assign body hok Γ β s s' e a Q R hn h hq
  simp only [codeOk, Bool.and_eq_true] at hok
  simp only [exec] at h
  split at h
  · rename_i fid caps hg hin
    split at h
    · rename_i hlo
      split at h
      · rename_i rv heap' hk
        refine wpIn_rangeFunc fun fnn _ => ?_
        -- the record
        let Γ0 : Ctx := { Γ with w := Γ.w.alloc (.deferred (some [])) }
        let rec_ : LoopA := { fn := f, env := s.env.map fun x => (x.1, match x.2 with | .v a => Slot.v a | _ => Slot.junk), params := ps.toList, assign, body, st := 0, pending := none }
        let lp : Loop := { state := .ready, pending := none, fn := fnn, tmps := a.tmps, params := ps, assign, body, defers := Γ.w.heap.size }
        have hx0 : Ext s.lo (fun _ => False) Γ Γ0 := Ext.alloc s.lo Γ _
        have hI0 : Inv base Γ0 := R.inv.alloc _
        have hB : ∀ b, Γ.S b → ¬ (fun _ : Nat => False) b := fun _ _ h => h
        have henv : ∀ t (av : AV), look rec_.env t = some (.v av) → look s.env t = some (.v av) := fun t av h => by
          have h1 := look_map_env (fun x => match x with | .v a => Slot.v a | _ => Slot.junk) t s.env
          rw [h1] at h
          cases hh : look s.env t with
          | none => rw [hh] at h; cases h
          | some x =>
            rw [hh] at h
            cases x with
            | v a => exact h
            | p d off => cases h
            | junk => cases h
        have hL : RelL Γ0 rec_ lp :=
          { params := rfl, assign := rfl, body := rfl, pending := rfl, st0 := fun _ => rfl, st1 := fun _ h => by cases h
            env := fun t av hav => by
              obtain ⟨h1, h2⟩ := R.env t _ (henv t av hav)
              exact ⟨h1, RelV.ext hx0 R.inv hB h2⟩
            nop := fun t d o hh => by
              have h1 := look_map_env (fun x => match x with | .v a => Slot.v a | _ => Slot.junk) t s.env
              rw [h1] at hh
              cases hz : look s.env t with
              | none => rw [hz] at hh; cases hh
              | some x => rw [hz] at hh; cases x <;> cases hh
            lt := fun t x hh => by
              have h1 := look_map_env (fun x => match x with | .v a => Slot.v a | _ => Slot.junk) t s.env
              rw [h1] at hh
              cases hz : look s.env t with
              | none => rw [hz] at hh; cases hh
              | some x => exact (R.env t x hz).1
            ok := ⟨by rw [hn]; exact hok.1.2, by rw [hn]; exact hok.2, fun t ht => by
              have := hok.1.1
              rw [← Array.all_toList, List.all_eq_true] at this
              rw [hn]
              simpa using this t ht⟩ }
        have hbase0 : base ≤ Γ0.w.heap.size := by
          show base ≤ (Γ.w.alloc _).heap.size
          rw [alloc_size]; have := R.sz; omega
        have hx1 : Ext s.lo (fun _ => False) Γ0 (Γ0.push (.loop rec_) (.loop lp)) := Ext.push _ _ _
        have hI1 : Inv base (Γ0.push (.loop rec_) (.loop lp)) := hI0.push ⟨lp, rfl, hL⟩ hbase0
        -- the function called
        have hfn := R.val hg
        obtain ⟨us, hu1, hu2, hu3⟩ : ∃ us, a.eval g = .func (.func fid) #[] us ∧ us.size = caps.length ∧ ∀ i x, caps[i]? = some x → RelV Γ x (us.getD i undef) := by
          generalize a.eval g = u at hfn
          cases hfn with
          | fn h1 h2 => exact ⟨_, rfl, h1, h2⟩
        have hsz0 : Γ0.w.heap.size = Γ.w.heap.size + 1 := alloc_size _ _
        have hlen0 : Γ0.H.length = s.heap.length := by show Γ.H.length = _; rw [R.heap]
        have hyv : RelV (Γ0.push (.loop rec_) (.loop lp)) (.fn (.yield s.heap.length) []) (.func (.yield (Γ.w.heap.size + 1)) #[] #[]) := by
          rw [← hlen0]
          refine .yield (by simp [Ctx.push]) ⟨_, rfl⟩ fun r _ => ⟨_, push_self.2, by rw [hsz0]⟩
        have hargs : RelVs (Γ0.push (.loop rec_) (.loop lp)) ([.fn (.yield s.heap.length) []] ++ caps) (#[Value.func (.yield (Γ.w.heap.size + 1)) #[] #[]] ++ us).toList := by
          rw [Array.toList_append]
          refine RelVs.append (.cons hyv .nil) ?_
          have : RelVs Γ caps us.toList := RelVs.of_array (by simpa using hu2) fun i x hx => by
            have := hu3 i x hx
            rw [Array.getD_eq_getD_getElem?] at this
            rw [List.getD_eq_getElem?_getD, Array.getElem?_toList]
            exact this
          exact (this.ext hx0 R.inv hB).ext hx1 hI0 (fun _ _ h => h)
        have hH1 : (Γ0.push (.loop rec_) (.loop lp)).H = s.heap ++ [.loop rec_] := by
          show Γ.H ++ _ = _
          rw [R.heap]
        obtain ⟨⟨fn, q1, q2, q3⟩, hcalls⟩ := H.sound s.lo (.func fid) _ _ rv heap' hk base _ hI1 (Nat.le_trans hbase0 hx1.size) hH1 _ hargs
        refine ⟨Γ.w.heap.size + 1, [{ target := .collected Γ.w.heap.size, args := #[] }], (Γ0.push (.loop rec_) (.loop lp)).w, { target := .fn (.func fid) us, args := #[Value.func (.yield (Γ.w.heap.size + 1)) #[] #[]] }, (Γ0.push (.loop rec_) (.loop lp)).w, fid, _, _, ?_, ?_, fun _ _ => trivial, ?_, fun h => (by cases h), CallsIn.mono hcalls fun en w3 he => ?_⟩
        · show (Instr.enterLoop fnn a.tmps ps assign body none).run P Γ.w = _
          unfold Instr.enterLoop
          simp only [Sem.run_bind, run_newObj, Result.andThen_ok, Sem.run_pure]
          simp [Ctx.push, Γ0, lp, -World.alloc_eq, World.alloc]
        · unfold resolve
          simp only [rangeCall, hu1, Deferred.ofValue]
          simp [Act.eval]
        · unfold invoke
          exact callFunc_enter q1 q2 q3 _ _
        · cases en with
          | panicked c => exact he.elim
          | outgrown => exact he.elim
          | returned v =>
            obtain ⟨Γ2, e1, e2, hx2, hI2, hrv⟩ := he
            subst e1
            have hxA := (hx0.trans hx1 (Nat.le_refl _) (fun _ _ _ h => h.elim)).trans hx2 (Nat.le_refl _) (fun _ _ _ h => h.elim)
            rw [← e2] at h
            split at h
            · rename_i r' hr'
              split at h
              · cases h
              · rename_i hst
                obtain ⟨r0, hr0, hρ⟩ := hx2.loop s.heap.length r' (by rw [hH1]; simp) hr'
                have hρ2 : Γ2.ρ s.heap.length = some (Γ.w.heap.size + 1) := by
                  rw [hρ, ← hlen0, push_self.2, hsz0]
                obtain ⟨lp2, hl2, hL2⟩ := hI2.loop _ _ r' hρ2 hr'
                have hst2 : (lp2.state == .busy) = false := by
                  have := hL2.st1 hst
                  simpa using this
                have hx3 : Ext s.lo (fun _ => False) Γ2 (Γ2.upd s.heap.length (Γ.w.heap.size + 1) .dead (.loop { lp2 with state := .exhausted })) := Ext.kill hI2 (r := r') hlo hρ2 hl2
                have hI3 := hI2.upd hρ2 hx3 (o := .dead) trivial
                have hxB := hxA.trans hx3 (Nat.le_refl _) (fun _ _ _ h => h.elim)
                have hend : (Instr.endLoop (Γ.w.heap.size + 1)).run P Γ2.w = .ok r'.pending (Γ2.upd s.heap.length (Γ.w.heap.size + 1) .dead (.loop { lp2 with state := .exhausted })).w := by
                  rw [← hL2.pending]
                  unfold Instr.endLoop Instr.getLoop
                  have hgt : (getObj (Γ.w.heap.size + 1)).run P Γ2.w = .ok (.loop lp2) Γ2.w := by
                    simp only [getObj, Sem.run, hl2]
                  have hst' : (setObj (Γ.w.heap.size + 1) (.loop { lp2 with state := .exhausted })).run P Γ2.w = .ok () { Γ2.w with heap := Γ2.w.heap.setIfInBounds (Γ.w.heap.size + 1) (.loop { lp2 with state := .exhausted }) } := by
                    simp only [setObj, Sem.run, hl2]
                  simp only [Sem.run_bind, hgt, Result.andThen_ok, Sem.run_pure, hst2, Bool.false_eq_true, if_false, hst']
                  rfl
                -- the activation behind it
                have hR3 := R.ext hxB hI3
                have hmark : RelS base n0 (Γ2.upd s.heap.length (Γ.w.heap.size + 1) .dead (.loop { lp2 with state := .exhausted })) β { s with heap := (Γ2.upd s.heap.length (Γ.w.heap.size + 1) .dead (.loop { lp2 with state := .exhausted })).H }
                    { a with defers := [{ target := .collected Γ.w.heap.size, args := #[] }] ++ a.defers } := by
                  refine { hR3 with marks := ?_ }
                  obtain ⟨rs, m1, m2, m3⟩ := hR3.marks
                  have hnot1 : ∀ id, (Γ0.push (.loop rec_) (.loop lp)).ρ id ≠ some Γ.w.heap.size := fun id he => by
                    simp only [Ctx.push] at he
                    split at he
                    · injection he with he; omega
                    · have := (R.inv.dom id _ he).2.1; omega
                  have hlt1 : Γ.w.heap.size < (Γ0.push (.loop rec_) (.loop lp)).w.heap.size := by
                    have := hx1.size; omega
                  have hb1 : (Γ0.push (.loop rec_) (.loop lp)).w.heap[Γ.w.heap.size]? = some (.deferred (some [])) := by
                    have h1 : Γ0.w.heap[Γ.w.heap.size]? = some (.deferred (some [])) := heap_push_new _ _
                    exact (heap_push_old (by omega)).trans h1
                  have hx23 := hx2.trans hx3 (Nat.le_refl _) (fun _ _ _ h => h.elim)
                  refine ⟨Γ.w.heap.size :: rs, by rw [m1]; rfl, List.nodup_cons.2 ⟨fun hm => ?_, m2⟩, fun r hr => ?_⟩
                  · obtain ⟨rs0, k1, k2, k3⟩ := R.marks
                    have : rs = rs0 := by
                      have h1 := m1.symm.trans k1
                      exact marks_inj _ _ h1
                    subst this
                    have := heap_lt (k3 _ hm).1
                    omega
                  · rcases List.mem_cons.1 hr with rfl | hr
                    · refine ⟨(hx23.keep _ hlt1 hnot1 (fun e => e)).trans hb1, fun id he => ?_, fun he => ?_, R.sz.2⟩
                      · rcases hx23.fresh id _ he with ⟨id0, e0⟩ | e0
                        · exact hnot1 id0 e0
                        · omega
                      · rcases hxB.stabN _ he with e | ⟨id, e⟩ | e
                        · exact absurd (R.inv.stab _ e) (by omega)
                        · have := (R.inv.dom id _ e).2.1; omega
                        · rcases hx23.stabN _ he with e | ⟨id, e⟩ | e
                          · exact absurd (R.inv.stab _ e) (by omega)
                          · exact hnot1 id e
                          · omega
                    · exact m3 r hr
                have hpost : ∀ (e : Ex) (s' : St), s' = { s with heap := Γ2.H.set s.heap.length .dead } → (∀ a' w', OpPost base n0 Γ s s' n a' w' → Q e.out a' w') → Q e.out { a with defers := [{ target := .collected Γ.w.heap.size, args := #[] }] ++ a.defers } (Γ2.upd s.heap.length (Γ.w.heap.size + 1) .dead (.loop { lp2 with state := .exhausted })).w := by
                  intro e s' hs' hq
                  subst hs'
                  exact hq _ _ ⟨_, β, rfl, hmark, Went.of hxB, hn, rfl, rfl⟩
                refine ⟨r'.pending, _, hend, ?_⟩
                split at h
                · rename_i hp
                  injection h with h; injection h with h1 h2
                  subst h1
                  rw [hp]
                  exact hpost .normal s' h2.symm hq
                · rename_i hp
                  injection h with h; injection h with h1 h2
                  subst h1
                  rw [hp]
                  exact wpIn_ret (hpost .ret s' h2.symm hq)
                · rename_i id hp
                  injection h with h; injection h with h1 h2
                  subst h1
                  rw [hp]
                  exact wpIn_exit (hpost (.exit id) s' h2.symm hq)
                · cases h
            · cases h
      · cases h
    · cases h
  · cases h

end Go.Ev
