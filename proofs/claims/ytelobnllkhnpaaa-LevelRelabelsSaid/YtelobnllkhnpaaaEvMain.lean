/- The evaluator's word: what it computes, the model does. Tables computed from a program. -/
import Derived.Test.YtelobnllkhnpaaaEvDraw
namespace Go.Ev
set_option linter.unusedVariables false
set_option linter.unusedSimpArgs false

variable {P : Program} {C : Cfg}

/-! ### Tables -/

def kindOf : TypeDesc → Option TK
  | .int k => some (.int k)
  | .bool => some .bool
  | .string => some .str
  | .slice e => some (.slice e)
  | .struct gs => some (.struct (gs.toList.map fun f => (f.offset, f.type)))
  | .pointer _ => some .ptr
  | .map k e => some (.map k e)
  | .func _ _ _ => some .func
  | .interface _ => some .iface
  | _ => none

theorem kindOf_ok {d : TypeDesc} {k : TK} (h : kindOf d = some k) : KindOk k d := by
  cases d <;> simp only [kindOf, Option.some.injEq] at h <;> first | (subst h; simp [KindOk]; done) | (cases h; done) | (subst h; rfl)

def fieldsKnown (P : Program) : TypeDesc → Bool
  | .struct gs => gs.toList.all fun g => (P.info? g.type).isSome
  | _ => true

def tiOf (P : Program) (t : Nat) : Option TI :=
  match P.info? t, P.underlying t with
  | some i, some d => match i.zero, kindOf d with
    | some z, some k => match z.cells.toList.mapM simpleV with
      | some zs => if z.cells.size = i.size ∧ zShape z = some k.isAgg ∧ fieldsKnown P d = true then some { kind := k, sz := i.size, bytes := i.bytes, zero := zs } else none
      | none => none
    | _, _ => none
  | _, _ => none

def tabOf (P : Program) : List Nat → Tab
  | [] => []
  | t :: ts => match tiOf P t with
    | some ti => (t, ti) :: tabOf P ts
    | none => tabOf P ts

theorem tiOf_ok {t : Nat} {ti : TI} (h : tiOf P t = some ti) : TIOk P t ti := by
  unfold tiOf at h
  split at h
  · rename_i i d hi hd
    split at h
    · rename_i z k hz hk
      split at h
      · rename_i zs hm
        split at h
        · rename_i hc
          injection h with h; subst h
          obtain ⟨c1, c2, c3⟩ := hc
          refine ⟨⟨i, hi, rfl, rfl, z, hz, c1, hm, c2⟩, ⟨d, hd, kindOf_ok hk⟩, fun gs hg g hgm => ?_⟩
          rw [hd] at hg; injection hg with hg; subst hg
          have := List.all_eq_true.1 (show (gs.toList.all fun g => (P.info? g.type).isSome) = true from c3) g hgm
          exact Option.isSome_iff_exists.1 this
        · cases h
      · cases h
    · cases h
  · cases h

theorem tabOf_ok : ∀ (ts : List Nat), TabOk P (tabOf P ts)
  | [], t, ti, h => by cases h
  | t0 :: ts, t, ti, h => by
    simp only [tabOf] at h
    split at h
    · rename_i ti0 h0
      rw [look_cons] at h
      split at h
      · rename_i e; subst e
        injection h with h; subst h
        exact tiOf_ok h0
      · exact tabOf_ok ts t ti h
    · exact tabOf_ok ts t ti h

def eqOkB (P : Program) (t : Nat) : Bool :=
  (match P.underlying t with | some (.struct _) => true | _ => false) && !P.eqGuardType P.depth t && !P.stoodInHeld t &&
  (P.fieldsOf t).toList.zipIdx.all fun (f, i) => f.name != "_" && f.offset == i && (match P.underlying f.type with | some (.int _) | some .bool | some .string => true | _ => false)

theorem eqOkB_ok {t : Nat} (h : eqOkB P t = true) : EqOk P t := by
  unfold eqOkB at h
  simp only [Bool.and_eq_true, Bool.not_eq_true'] at h
  obtain ⟨⟨⟨h1, h2⟩, h3⟩, h4⟩ := h
  refine ⟨?_, h2, h3, fun i f hf => ?_⟩
  · unfold Program.fieldsOf
    split at h1
    · rename_i gs hg; rw [hg]
    · cases h1
  · have hm : (f, i) ∈ (P.fieldsOf t).toList.zipIdx := by
      rw [List.mem_zipIdx_iff_getElem?]
      simpa using hf
    have := List.all_eq_true.1 h4 (f, i) hm
    simp only [Bool.and_eq_true, bne_iff_ne, ne_eq, beq_iff_eq] at this
    obtain ⟨⟨k1, k2⟩, k3⟩ := this
    refine ⟨k1, k2, ?_⟩
    split at k3
    · rename_i k hk; exact ⟨_, hk, .inl ⟨k, rfl⟩⟩
    · rename_i hk; exact ⟨_, hk, .inr (.inl rfl)⟩
    · rename_i hk; exact ⟨_, hk, .inr (.inr rfl)⟩
    · cases k3

/-- All that is asked of a program, computed. -/
def cfgOk (P : Program) (C : Cfg) : Bool := progOk P && P.follows .mixedOrders && C.eqs.all (eqOkB P)

structure Sound (P : Program) (C : Cfg) : Prop where
  tab : TabOk P C.tab
  ok : cfgOk P C = true
  orc : SoundK P C.orc

theorem Sound.all (h : Sound P C) (k : Nat) : SoundK P (call P C k) := by
  have := h.ok
  unfold cfgOk at this
  simp only [Bool.and_eq_true] at this
  obtain ⟨⟨h1, h2⟩, h3⟩ := this
  exact call_sound h.orc h.tab (fun t ht => eqOkB_ok (List.all_eq_true.1 h3 t ht)) h1 (fun K H => draws_sound h2 H) k

/-- A call: what the evaluator says of it holds of the model. -/
theorem Sound.calls (h : Sound P C) {k : Nat} {f : FuncId} {vs : List AV} {r : AV} {h' : Heap} {lo base : Nat} {Γ : Ctx} {args : Array Value} (hc : call P C k lo (.func f) vs Γ.H = some (r, h')) (I : Inv base Γ) (hb : base ≤ Γ.w.heap.size) (hr : RelVs Γ vs args.toList) :
    Calls P f args Γ.w (CallPost base lo Γ r h') :=
  callsIn_wide.1 ((h.all k) lo (.func f) vs Γ.H r h' hc base Γ I hb rfl args hr).2

theorem soundK_none : SoundK P (fun _ _ _ _ => none) := fun _ _ _ _ _ _ h => by cases h

/-- The context of a world in which the evaluator owns nothing; S: blocks whose cells are read. -/
def Ctx.start (w : World) (S : Nat → Prop) : Ctx := { H := [], ρ := fun _ => none, S := S, w := w }
theorem inv_start {w : World} {S : Nat → Prop} (hS : ∀ b, S b → b < w.heap.size) : Inv w.heap.size (Ctx.start w S) :=
  { dom := fun _ _ h => (by cases h), inj := fun _ _ _ h => (by cases h), cells := fun _ _ _ _ h => (by cases h), map := fun _ _ _ h => (by cases h), loop := fun _ _ _ h => (by cases h), stab := hS }

/-- What is left of the world's old blocks: all of them. -/
theorem ext_below {w : World} {S : Nat → Prop} {lo : Nat} {Γ' : Ctx} (h : Ext lo (fun _ => False) (Ctx.start w S) Γ') : RowKit.Below w.heap.size w Γ'.w :=
  ⟨h.os, h.tape, h.output, h.size, fun k hk => h.keep k hk (fun _ e => by cases e) (fun e => e)⟩

/-- A closed call of one simple value. -/
theorem Sound.closed (h : Sound P C) {k : Nat} {f : FuncId} {b : Bool} {h' : Heap} (hc : call P C k 0 (.func f) [] [] = some (.bool b, h')) (w : World) :
    Calls P f #[] w (fun | .returned v, w' => v = .bool b ∧ RowKit.Below w.heap.size w w' | _, _ => False) := by
  have := h.calls (Γ := Ctx.start w fun _ => False) (lo := 0) (args := #[]) hc (inv_start fun _ e => e.elim) (Nat.le_refl _) .nil
  refine this.mono fun e w' he => ?_
  cases e with
  | returned v =>
    obtain ⟨Γ', e1, _, hx, _, hv⟩ := he
    subst e1
    cases hv
    exact ⟨rfl, ext_below hx⟩
  | panicked c => exact he.elim
  | outgrown => exact he.elim

end Go.Ev
