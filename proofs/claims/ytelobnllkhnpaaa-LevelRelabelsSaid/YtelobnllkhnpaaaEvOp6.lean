/- Operations that make objects or write them. -/
import Derived.Test.YtelobnllkhnpaaaEvOp5
namespace Go.Ev
set_option linter.unusedVariables false
set_option linter.unusedSimpArgs false

variable {P : Program} {C : Cfg} {Γ : Ctx} {t : Nat} {ti : TI} {base n0 f : Nat} {β : Nat → Nat} {s s' : St} {a : Act} {o : Oper} {K : Callee}

/-- What an operation leaves that makes or writes objects, and nothing of the activation's own but the slot it writes. -/
def HeapPost (base : Nat) (Γ : Ctx) (β : Nat → Nat) (s : St) (d : Option Tmp) (s' : St) (v : Value) (w' : World) : Prop :=
  ∃ Γ' x, Γ'.w = w' ∧ Ext s.lo (fun _ => False) Γ Γ' ∧ Inv base Γ' ∧ RelX Γ' β x v ∧ s' = ({ s with heap := Γ'.H } : St).put d x

/-- It yields a value, or nothing. -/
def Runs (P : Program) (o : Oper) (a : Act) (w w' : World) (v : Value) : Prop :=
  (execOp a.eval o).run P w = .ok (.value v) w' ∨ ((execOp a.eval o).run P w = .ok .skip w' ∧ v = undef)

theorem PureOk.post (R : RelS base n0 Γ β s a) (h : PureOk P Γ β s a o s') : ∃ v w', Runs P o a Γ.w w' v ∧ HeapPost base Γ β s o.dst s' v w' := by
  obtain ⟨x, v, h1, h2, h3⟩ := h
  refine ⟨v, Γ.w, .inl h1, Γ, x, rfl, Ext.refl _ _ _, R.inv, h2, ?_⟩
  rw [h3, R.heap]

theorem put_heap (s : St) (d : Option Tmp) (x : Slot) (h : Heap) : { s.put d x with heap := h } = ({ s with heap := h } : St).put d x := by
  cases d <;> rfl

theorem push_post (R : RelS base n0 Γ β s a) {ob : HObj} {o' : Obj} (hob : ObjOk Γ ob o') {x : Slot} {v : Value} {d : Option Tmp} (hx : RelX (Γ.push ob o') β x v) (e : s' = ({ s with heap := s.heap ++ [ob] } : St).put d x) :
    HeapPost base Γ β s d s' v (Γ.w.alloc o') := by
  refine ⟨Γ.push ob o', x, rfl, Ext.push _ _ _, R.inv.push hob (Nat.le_trans R.sz.1 R.sz.2), hx, ?_⟩
  rw [e, ← R.heap]
  rfl

theorem push_self {ob : HObj} {o' : Obj} : (Γ.push ob o').H[Γ.H.length]? = some ob ∧ (Γ.push ob o').ρ Γ.H.length = some Γ.w.heap.size := by
  simp [Ctx.push]

theorem hp_new {T : Nat} {xs : List AV} {o' : Obj} : RelV (Γ.push (.cells T xs) o') (.hp Γ.H.length xs.length 0) (.pointer (some ⟨Γ.w.heap.size, 0, none⟩)) := by
  refine .hp (by simp [Ctx.push]) ⟨_, rfl⟩ fun T2 ys hy => ?_
  rw [push_self.1] at hy
  injection hy with hy; injection hy with _ hy; subst hy
  exact ⟨Nat.le_refl _, fun _ => ⟨_, push_self.2, rfl⟩⟩

theorem sl_new {T sz len c : Nat} {xs : List AV} {arr : Array Value} (hl : xs.length = len * sz) (hc : len ≤ c) (ha : c * sz ≤ arr.size) :
    RelV (Γ.push (.cells T xs) (.cells arr T (0, 0))) (.sl Γ.H.length sz 0 len) (.slice (some ⟨Γ.w.heap.size, 0, none⟩) len c) := by
  refine .sl (by simp [Ctx.push]) ⟨_, _, rfl⟩ fun T2 ys hy => ?_
  rw [push_self.1] at hy
  injection hy with hy; injection hy with _ hy; subst hy
  exact ⟨by omega, fun _ => ⟨_, c, arr, T, (0, 0), push_self.2, rfl, hc, heap_push_new _ _, by omega⟩⟩

theorem post_alloc (hT : TabOk P C.tab) (R : RelS base n0 Γ β s a) {t : TypeId} (ho : o.op = .alloc t) {d : Tmp} (hd : o.dst = some d) (hesc : d ∈ C.esc f) (h : oper C K f o s = some s') :
    ∃ v w', Runs P o a Γ.w w' v ∧ HeapPost base Γ β s o.dst s' v w' := by
  unfold oper at h
  rw [ho, hd] at h
  dsimp only at h
  split at h
  · rename_i ti d' ht hd'
    injection hd' with hd'; subst hd'
    rw [if_pos hesc] at h
    injection h with h
    obtain ⟨z, hz, h1, h2, h3⟩ := (hT _ _ ht).run_zero Γ.w
    have hc : RelC Γ ti.zero z.cells := .of_zero h2
    have hlen : ti.zero.length = ti.sz := by have := hc.1; omega
    refine ⟨.pointer (some ⟨Γ.w.heap.size, 0, none⟩), Γ.w.alloc (.cells z.cells t (0, 0)), .inl ?_, push_post R (ob := .cells t ti.zero) ⟨_, rfl, Nat.le_of_eq hc.1.symm, hc.2.1, hc.2.2⟩ (x := .v (.hp Γ.H.length ti.zero.length 0)) hp_new ?_⟩
    · unfold execOp
      rw [ho]
      dsimp only
      have : (Instr.alloc t true (.tuple #[])).run P Γ.w = .ok (.pointer (some ⟨Γ.w.heap.size, 0, none⟩)) (Γ.w.alloc (.cells z.cells t (0, 0))) := by
        unfold Instr.alloc
        simp only [Sem.run_bind, hz, Result.andThen_ok]
        rfl
      rw [Sem.run_bind, this]
      rfl
    · rw [← h, hd, hlen, R.heap]; rfl
  · cases h

theorem post_box (R : RelS base n0 Γ β s a) {t : TypeId} {x : Operand} (ho : o.op = .box t x) {d : Tmp} (hd : o.dst = some d) (hesc : d ∈ C.esc f) (h : oper C K f o s = some s') :
    ∃ v w', Runs P o a Γ.w w' v ∧ HeapPost base Γ β s o.dst s' v w' := by
  unfold oper at h
  rw [ho, hd] at h
  dsimp only at h
  split at h
  · rename_i d' ys hd' hx
    injection hd' with hd'; subst hd'
    rw [if_pos hesc] at h
    injection h with h
    obtain ⟨v, hv, hc⟩ := Option.bind_eq_some_iff.1 hx
    obtain ⟨c1, c2, c3⟩ := cells_rel (R.val hv) hc
    refine ⟨.pointer (some ⟨Γ.w.heap.size, 0, none⟩), Γ.w.alloc (.cells (a.eval x).cells t (0, 0)), .inl ?_, push_post R (ob := .cells t ys) ⟨_, rfl, Nat.le_of_eq c1.symm, c2, c3⟩ (x := .v (.hp Γ.H.length ys.length 0)) hp_new ?_⟩
    · unfold execOp
      rw [ho]
      rfl
    · rw [← h, hd, R.heap]; rfl
  · cases h

theorem post_buildSlice (hT : TabOk P C.tab) (R : RelS base n0 Γ β s a) {t : TypeId} {len : Nat} {parts : Array (Nat × Operand)} (ho : o.op = .buildSlice t len parts) (h : oper C K f o s = some s') :
    ∃ v w', Runs P o a Γ.w w' v ∧ HeapPost base Γ β s o.dst s' v w' := by
  unfold oper at h
  rw [ho] at h
  dsimp only at h
  split at h
  · rename_i e sz0 by_ zr vs ht hv
    split at h
    · rename_i ti he
      split at h
      · rename_i hle
        split at h
        case h_2 => cases h
        rename_i cs hf
        obtain ⟨p1, p2⟩ := vals_parts R hv
        obtain ⟨z, hz, h1, h2, h3⟩ := (hT _ _ he).run_zero Γ.w
        have hc : RelC Γ ti.zero z.cells := .of_zero h2
        have hlen : ti.zero.length = ti.sz := by have := hc.1; omega
        have hrep := hc.rep (by omega) len
        rw [hlen] at hrep
        obtain ⟨ds, hds, hrel⟩ := fill_sound (Γ := Γ) (fun i p hp => hp) _ _ _ cs _ hf p1 p2 hrep
        have hcs : cs.length = len * ti.sz := by
          have := fillA_length hf
          simp [hlen] at this
          exact this
        have hpost : HeapPost base Γ β s o.dst s' (.slice (some ⟨Γ.w.heap.size, 0, none⟩) len len) (Γ.w.alloc (.cells ds e (0, 0))) := by
          split at h
          · split at h
            · rename_i hst
              injection h with h
              refine ⟨Γ.stay (.cells ds e (0, 0)), .v (.vs ti.sz (chunks ti.sz len cs)), rfl, stay_ext _ _, stay_inv R.inv _, .vs ?_, ?_⟩
              · have hx := stay_ext (Γ := Γ) Γ.H.length (.cells ds e (0, 0))
                have := relT_chunks (S := (Γ.stay (.cells ds e (0, 0))).S) (w := (Γ.stay (.cells ds e (0, 0))).w) (b := Γ.w.heap.size) (off := 0) (len := len) (sz := ti.sz) (c := len) (xs := cs) (heap_push_new Γ.w _) (.inr rfl) (Nat.le_of_eq hrel.1.symm) hrel.2.1
                  (fun i x hi => RelV.toT (Γ := Γ.stay (.cells ds e (0, 0))) ((hrel.2.2 i x hi).ext hx R.inv (fun _ _ h => h)) (all_static hst (List.mem_of_getElem? hi))) (by omega) (Nat.le_refl _)
                rw [List.drop_zero] at this
                exact this
              · rw [← h]
                show s.putv o.dst _ = ({ s with heap := Γ.H } : St).put o.dst _
                rw [R.heap]; rfl
            · cases h
          · injection h with h
            refine push_post R (ob := .cells e cs) ⟨_, rfl, Nat.le_of_eq hrel.1.symm, hrel.2.1, hrel.2.2⟩ (x := .v (.sl Γ.H.length ti.sz 0 len)) (sl_new hcs (Nat.le_refl _) (by have := hrel.1; omega)) ?_
            rw [← h, R.heap]; exact put_heap _ _ _ _
        refine ⟨.slice (some ⟨Γ.w.heap.size, 0, none⟩) len len, Γ.w.alloc (.cells ds e (0, 0)), .inl ?_, hpost⟩
        · unfold execOp
          rw [ho]
          dsimp only
          have hb : (Instr.buildSlice t len (parts.map fun (i, x) => (i, a.eval x))).run P Γ.w = .ok (.slice (some ⟨Γ.w.heap.size, 0, none⟩) len len) (Γ.w.alloc (.cells ds e (0, 0))) := by
            unfold Instr.buildSlice
            have hn : ¬ len * ti.sz > 2 ^ 24 := by omega
            simp only [Sem.run_bind, run_underlying ((hT _ _ ht).slice rfl), Result.andThen_ok, (hT _ _ he).run_size, if_neg hn, Sem.run_pure]
            by_cases h0 : len * ti.sz = 0
            · have hl0 : len = 0 := by
                rcases Nat.eq_zero_or_pos len with h' | h'
                · exact h'
                · have := Nat.mul_pos h' hle.2; omega
              subst hl0
              simp only [h0, if_true, pure_bind]
              have e2 : (Array.range 0).map (fun x => (#[] : Array Value)[x % (#[] : Array Value).size]!) = (Array.range 0).map (fun x => z.cells[x % z.cells.size]!) := by simp
              rw [e2]
              rw [h0] at hds
              rw [hds]
              rfl
            · simp only [if_neg h0, Sem.run_bind, hz, Result.andThen_ok, Sem.run_pure, hds]
              rfl
          rw [Sem.run_bind, hb]
          rfl
      · cases h
    · cases h
  · cases h

end Go.Ev
