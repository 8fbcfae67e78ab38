/- Every operation: what it leaves. -/
import Derived.Test.YtelobnllkhnpaaaEvOp8
namespace Go.Ev
set_option linter.unusedVariables false
set_option linter.unusedSimpArgs false

variable {P : Program} {C : Cfg} {Γ : Ctx} {t : Nat} {ti : TI} {base n0 f : Nat} {β : Nat → Nat} {s s' : St} {a : Act} {o : Oper} {K : Callee}

def Fw (ro : Option Nat) : Fence := { fn := fun _ => True, depth := none, alive := false, round := ro }

/-- What is asked of a call: it returns r, the heap becomes h'. -/
def CallPost (base lo : Nat) (Γ : Ctx) (r : AV) (h' : Heap) : Ending → World → Prop
  | .returned v, w' => BiPost base lo Γ r h' v w'
  | _, _ => False

def SoundK (P : Program) (K : Callee) : Prop := ∀ (lo : Nat) (g : Fn) (vs : List AV) (h : Heap) (r : AV) (h' : Heap), K lo g vs h = some (r, h') →
  ∀ (base : Nat) (Γ : Ctx), Inv base Γ → base ≤ Γ.w.heap.size → Γ.H = h → ∀ args : Array Value, RelVs Γ vs args.toList →
  match g with
  | .func f => (∃ fn, P.funcs[f]? = some fn ∧ fn.name ≠ "runtime.NumGoroutine" ∧ fn.body.isSome = true) ∧ CallsIn Fence.wide 0 P f args Γ.w (CallPost base lo Γ r h')
  | .yield l => (∃ rec_, Γ.H[l]? = some (.loop rec_)) ∧ ∀ b, Γ.ρ l = some b → ∃ fid tmps assign body, (Instr.yield b args).run P Γ.w = .ok (.round b fid tmps assign body) Γ.w ∧ RoundIn Fence.wide 0 P b fid tmps assign body Γ.w (CallPost base lo Γ r h')
  | _ => True

structure Hyp (P : Program) (C : Cfg) (K : Callee) : Prop where
  tab : TabOk P C.tab
  eqs : ∀ t, t ∈ C.eqs → EqOk P t
  sound : SoundK P K

theorem runs_wp {ro : Option Nat} {w w' : World} {v : Value} {next : Act → World → Prop} {Q : Exit → Act → World → Prop} (hnd : ∀ c, o.op ≠ .defer c) (h : Runs P o a w w' v) (hn : next (a.put o.dst v) w') : o.wpIn (Fw ro) 0 P a w next Q := by
  refine ⟨fun _ _ => trivial, ?_⟩
  rw [Oper.semAt_eq _ _ _ hnd]
  rcases h with h | ⟨h, rfl⟩
  · rw [h]; exact hn
  · rw [h]; exact hn

theorem callFunc_enter {f : FuncId} {fn : Func} (h1 : P.funcs[f]? = some fn) (h2 : fn.name ≠ "runtime.NumGoroutine") (h3 : fn.body.isSome = true) (args : Array Value) (w : World) : (callFunc f args).run P w = .ok (.enter f args) w := by
  unfold callFunc
  have h4 : (fn.name == "runtime.NumGoroutine") = false := by simpa using h2
  have h5 : fn.body.isNone = false := by
    cases hb : fn.body with
    | none => rw [hb] at h3; cases h3
    | some b => rfl
  simp only [Sem.run_bind, run_program, Result.andThen_ok, h1, h4, h5, Bool.false_eq_true, if_false, Sem.run_pure]

theorem call_wp (H : Hyp P C K) (R : RelS base n0 Γ β s a) {ro : Option Nat} {next : Act → World → Prop} {Q : Exit → Act → World → Prop} {c : Call} {x : Operand} (ho : o.op = .call c) (hc : c.callee = .value x) (h : oper C K f o s = some s')
    (hn : ∀ v w', HeapPost base Γ β s o.dst s' v w' → next (a.put o.dst v) w') : o.wpIn (Fw ro) 0 P a Γ.w next Q := by
  unfold oper at h
  rw [ho] at h
  dsimp only at h
  split at h
  · rename_i vs hvs
    rw [hc] at h
    dsimp only at h
    split at h
    · rename_i g caps hx
      simp only [Option.map_eq_some_iff] at h
      obtain ⟨⟨r, h'⟩, hk, e⟩ := h
      have hr := R.vals hvs
      have hfn := R.val hx
      have hback : ∀ v w', BiPost base s.lo Γ r h' v w' → next (a.put o.dst v) w' := fun v w' ⟨Γ', e1, e2, hext, hI, hrv⟩ =>
        hn v w' ⟨Γ', .v r, e1, hext, hI, hrv, by rw [← e, e2]; exact put_heap _ _ _ _⟩
      refine ⟨fun _ _ => trivial, ?_⟩
      rw [Oper.semAt_eq _ _ _ (fun c' hc' => by rw [ho] at hc'; cases hc')]
      have hex : execOp a.eval o = (do let d ← resolve a.eval c o.type; invoke d.target d.args) := by unfold execOp; rw [ho]
      have hres : ∀ fv, a.eval x = fv → resolve a.eval c o.type = Deferred.ofValue fv (c.args.map a.eval) := fun fv hfv => by
        unfold resolve; rw [hc, ← hfv]
      generalize hv : a.eval x = u at hfn
      cases hfn with
      | fn hcn hcr =>
        rename_i fid us
        have hargs : RelVs Γ (vs ++ caps) ((c.args.map a.eval) ++ us).toList := by
          rw [Array.toList_append]
          exact RelVs.append (by simpa using hr) (RelVs.of_array (by simpa using hcn) fun i x hx => by
            have := hcr i x hx
            rw [Array.getD_eq_getD_getElem?] at this
            rw [List.getD_eq_getElem?_getD, Array.getElem?_toList]
            exact this)
        obtain ⟨⟨fn, q1, q2, q3⟩, hcalls⟩ := H.sound s.lo (.func fid) (vs ++ caps) s.heap r h' hk base Γ R.inv (Nat.le_trans R.sz.1 R.sz.2) R.heap _ hargs
        have hrun : (execOp a.eval o).run P Γ.w = .ok (.enter fid ((c.args.map a.eval) ++ us)) Γ.w := by
          rw [hex, hres _ hv]
          simp only [Deferred.ofValue, Array.empty_append, pure_bind, invoke]
          exact callFunc_enter q1 q2 q3 _ _
        rw [hrun, Oper.uponIn_enter]
        refine ⟨fun h => (by cases h), CallsIn.mono hcalls fun e w'' he => ?_⟩
        cases e with
        | returned v => exact hback v w'' he
        | panicked chain => exact he.elim
        | outgrown => exact he.elim
      | yield hin h1 hh =>
        rename_i id
        have hargs : RelVs Γ (vs ++ []) (c.args.map a.eval).toList := by
          rw [List.append_nil]; simpa using hr
        obtain ⟨⟨rec_, hrec⟩, hround⟩ := H.sound s.lo (.yield id) (vs ++ []) s.heap r h' hk base Γ R.inv (Nat.le_trans R.sz.1 R.sz.2) R.heap _ hargs
        obtain ⟨b, hb, rfl⟩ := hh rec_ hrec
        obtain ⟨fid, tmps, assign, body, hy, hR⟩ := hround b hb
        have hrun : (execOp a.eval o).run P Γ.w = .ok (.round b fid tmps assign body) Γ.w := by
          rw [hex, hres _ hv]
          simp only [Deferred.ofValue, Array.empty_append, pure_bind, invoke]
          exact hy
        rw [hrun, Oper.uponIn_round]
        refine ⟨fun h => (by cases h), RoundIn.mono hR fun e w'' he => ?_⟩
        cases e with
        | returned v => exact hback v w'' he
        | panicked chain => exact he.elim
        | outgrown => exact he.elim
    · cases h
  · cases h

/-- Does it make or write a variable of the activation's own? -/
def ofLocal (C : Cfg) (f : Nat) (s : St) (o : Oper) : Prop :=
  match o.op with
  | .alloc _ | .box .. => ∃ d, o.dst = some d ∧ d ∉ C.esc f
  | .store _ x _ => ∃ d off, s.slot x = some (.p d off)
  | _ => False

theorem oper_heap (H : Hyp P C K) (R : RelS base n0 Γ β s a) {ro : Option Nat} {next : Act → World → Prop} {Q : Exit → Act → World → Prop} (hl : ¬ ofLocal C f s o) (h : oper C K f o s = some s')
    (hn : ∀ v w', HeapPost base Γ β s o.dst s' v w' → next (a.put o.dst v) w') : o.wpIn (Fw ro) 0 P a Γ.w next Q := by
  have fin : (∃ v w', Runs P o a Γ.w w' v ∧ HeapPost base Γ β s o.dst s' v w') → (∀ c, o.op ≠ .defer c) → o.wpIn (Fw ro) 0 P a Γ.w next Q := fun ⟨v, w', h1, h2⟩ hnd => runs_wp hnd h1 (hn v w' h2)
  cases ho : o.op
  case move x => exact fin ((pure_move R (.inl ho) h).post R) (fun c e => by rw [ho] at e; cases e)
  case assign x => exact fin ((pure_move R (.inr ho) h).post R) (fun c e => by rw [ho] at e; cases e)
  case pick => exact fin ((pure_pick R ho h).post R) (fun c e => by rw [ho] at e; cases e)
  case load => exact fin ((pure_load H.tab R ho h).post R) (fun c e => by rw [ho] at e; cases e)
  case nilCheck => exact fin ((pure_nilCheck R ho h).post R) (fun c e => by rw [ho] at e; cases e)
  case fieldAddr => exact fin ((pure_fieldAddr H.tab R ho h).post R) (fun c e => by rw [ho] at e; cases e)
  case field => exact fin ((pure_field H.tab R ho h).post R) (fun c e => by rw [ho] at e; cases e)
  case indexAddr => exact fin ((pure_indexAddr H.tab R ho h).post R) (fun c e => by rw [ho] at e; cases e)
  case index => exact fin ((pure_index H.tab R ho h).post R) (fun c e => by rw [ho] at e; cases e)
  case binOp => exact fin ((pure_binOp H.tab H.eqs R ho h).post R) (fun c e => by rw [ho] at e; cases e)
  case unOp => exact fin ((pure_unOp R ho h).post R) (fun c e => by rw [ho] at e; cases e)
  case convert => exact fin ((pure_convert H.tab R ho h).post R) (fun c e => by rw [ho] at e; cases e)
  case extract => exact fin ((pure_extract R ho h).post R) (fun c e => by rw [ho] at e; cases e)
  case makeInterface => exact fin ((pure_makeInterface H.tab R ho h).post R) (fun c e => by rw [ho] at e; cases e)
  case lookup => exact fin ((pure_lookup H.tab R ho h).post R) (fun c e => by rw [ho] at e; cases e)
  case build => exact fin ((pure_build H.tab R ho h).post R) (fun c e => by rw [ho] at e; cases e)
  case buildSlice => exact fin (post_buildSlice H.tab R ho h) (fun c e => by rw [ho] at e; cases e)
  case mapUpdate => exact fin (post_mapUpdate H.tab R ho h) (fun c e => by rw [ho] at e; cases e)
  case makeFunc g first caps =>
    cases g with
    | func n => exact fin ((pure_makeFunc R ho h).post R) (fun c e => by rw [ho] at e; cases e)
    | _ => unfold oper at h; rw [ho] at h; cases h
  case makeMap t r =>
    cases r with
    | none => exact fin (post_makeMap R ho h) (fun c e => by rw [ho] at e; cases e)
    | some x => unfold oper at h; rw [ho] at h; cases h
  case alloc t =>
    cases hd : o.dst with
    | none => unfold oper at h; rw [ho, hd] at h; dsimp only at h; cases hh : look C.tab t <;> rw [hh] at h <;> cases h
    | some d =>
      by_cases hesc : d ∈ C.esc f
      · exact fin (post_alloc H.tab R ho hd hesc h) (fun c e => by rw [ho] at e; cases e)
      · exact absurd (by unfold ofLocal; rw [ho]; exact ⟨d, hd, hesc⟩) hl
  case box t x =>
    cases hd : o.dst with
    | none => unfold oper at h; rw [ho, hd] at h; cases h
    | some d =>
      by_cases hesc : d ∈ C.esc f
      · exact fin (post_box R ho hd hesc h) (fun c e => by rw [ho] at e; cases e)
      · exact absurd (by unfold ofLocal; rw [ho]; exact ⟨d, hd, hesc⟩) hl
  case store t x y => exact fin (post_store H.tab R ho (fun d off e => hl (by unfold ofLocal; rw [ho]; exact ⟨d, off, e⟩)) h) (fun c e => by rw [ho] at e; cases e)
  case call c =>
    cases hc : c.callee with
    | builtin b => exact fin (post_builtin H.tab R ho hc h) (fun c e => by rw [ho] at e; cases e)
    | value x => exact call_wp H R ho hc h hn
    | invoke r m =>
      unfold oper at h
      rw [ho] at h
      dsimp only at h
      split at h
      · rw [hc] at h; cases h
      · cases h
  all_goals (unfold oper at h; rw [ho] at h; cases h)

end Go.Ev
