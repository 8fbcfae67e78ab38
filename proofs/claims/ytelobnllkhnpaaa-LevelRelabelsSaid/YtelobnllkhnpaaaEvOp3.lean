/- More operations that change no memory: operators, maps read, values built. -/
import Derived.Test.YtelobnllkhnpaaaEvOp2
namespace Go.Ev
set_option linter.unusedVariables false
set_option linter.unusedSimpArgs false

variable {P : Program} {C : Cfg} {Γ : Ctx} {t : Nat} {ti : TI} {base n0 f : Nat} {β : Nat → Nat} {s s' : St} {a : Act} {o : Oper} {K : Callee}

theorem val_int (R : RelS base n0 Γ β s a) {x : Operand} {k : IntKind} {n : Int} (h : s.val x = some (.int k n)) : a.eval x = .int k n := by
  have := R.val h
  generalize a.eval x = u at this
  cases this; rfl
theorem val_str (R : RelS base n0 Γ β s a) {x : Operand} {b : ByteArray} (h : s.val x = some (.str b)) : a.eval x = .string b := by
  have := R.val h
  generalize a.eval x = u at this
  cases this; rfl
theorem val_bool (R : RelS base n0 Γ β s a) {x : Operand} {b : Bool} (h : s.val x = some (.bool b)) : a.eval x = .bool b := by
  have := R.val h
  generalize a.eval x = u at this
  cases this; rfl

theorem pure_index (hT : TabOk P C.tab) (R : RelS base n0 Γ β s a) {t : TypeId} {x i : Operand} (ho : o.op = .index t x i) (h : oper C K f o s = some s') : PureOk P Γ β s a o s' := by
  unfold oper at h
  rw [ho] at h
  dsimp only at h
  split at h
  · rename_i sz by_ zr b k iv ht hx hi
    split at h
    · rename_i h0
      cases hb : b[iv.toNat]? with
      | none => rw [hb] at h; cases h
      | some c =>
        rw [hb] at h
        injection h with h
        refine ⟨.v (.int .u8 c.toNat), .int .u8 c.toNat, ?_, .int _ _, h.symm⟩
        unfold execOp
        rw [ho]
        simp [val_int R hi, val_str R hx, Instr.index, asIntOf, run_underlying ((hT _ _ ht).str rfl), h0, hb]
    · cases h
  · cases h

theorem pure_binOp (hT : TabOk P C.tab) (hE : ∀ t, t ∈ C.eqs → EqOk P t) (R : RelS base n0 Γ β s a) {op : BinOp} {t t' : TypeId} {x y : Operand} (ho : o.op = .binOp op t x y t') (h : oper C K f o s = some s') : PureOk P Γ β s a o s' := by
  unfold oper at h
  rw [ho] at h
  dsimp only at h
  split at h
  · rename_i av bv hx hy
    obtain ⟨r, hr, e⟩ := putv_of_map h
    obtain ⟨z, hz, hrel⟩ := binop_sound (w := Γ.w) hT hE hr (R.val hx) (R.val hy) x y
    refine ⟨.v r, z, ?_, hrel, e⟩
    unfold execOp
    rw [ho]
    dsimp only
    rw [Sem.run_bind, hz]
    rfl
  · cases h

theorem pure_unOp (R : RelS base n0 Γ β s a) {op : UnOp} {t : TypeId} {x : Operand} (ho : o.op = .unOp op t x) (h : oper C K f o s = some s') : PureOk P Γ β s a o s' := by
  unfold oper at h
  rw [ho] at h
  dsimp only at h
  split at h
  · rename_i av hx
    obtain ⟨r, hr, e⟩ := putv_of_map h
    obtain ⟨z, hz, hrel⟩ := unop_sound (P := P) (w := Γ.w) hr (R.val hx)
    refine ⟨.v r, z, ?_, hrel, e⟩
    unfold execOp
    rw [ho]
    dsimp only
    rw [Sem.run_bind, hz]
    rfl
  · cases h

theorem underlying_of (h : TIOk P t ti) : ∃ d, P.underlying t = some d := let ⟨d, h1, _⟩ := h.kind; ⟨d, h1⟩

theorem pure_convert (hT : TabOk P C.tab) (R : RelS base n0 Γ β s a) {u t : TypeId} {x : Operand} (ho : o.op = .convert u t x) (h : oper C K f o s = some s') : PureOk P Γ β s a o s' := by
  unfold oper at h
  rw [ho] at h
  dsimp only at h
  have hex : execOp a.eval o = (do pure (.value (← convert u t (a.eval x)))) := by unfold execOp; rw [ho]
  split at h
  · rename_i tu k sz by_ zr k' n hu ht hx
    injection h with h
    obtain ⟨d, hd⟩ := underlying_of (hT _ _ hu)
    refine ⟨.v (.int k (k.wrap n)), .int k (k.wrap n), ?_, .int _ _, h.symm⟩
    rw [hex]
    have hr : (convert u t (.int k' n)).run P Γ.w = .ok (.int k (k.wrap n)) Γ.w := by
      unfold convert
      simp only [Sem.run_bind, run_underlying hd, run_underlying ((hT _ _ ht).int rfl), Result.andThen_ok]
      cases d <;> rfl
    rw [val_int R hx, Sem.run_bind, hr]
    rfl
  · rename_i tu sz by_ zr b hu ht hx
    injection h with h
    obtain ⟨d, hd⟩ := underlying_of (hT _ _ hu)
    refine ⟨.v (.str b), .string b, ?_, .str _, h.symm⟩
    rw [hex]
    have hr : (convert u t (.string b)).run P Γ.w = .ok (.string b) Γ.w := by
      unfold convert
      simp only [Sem.run_bind, run_underlying hd, run_underlying ((hT _ _ ht).str rfl), Result.andThen_ok]
      cases d <;> rfl
    rw [val_str R hx, Sem.run_bind, hr]
    rfl
  · cases h

theorem pure_makeFunc (R : RelS base n0 Γ β s a) {n : Nat} {first caps : Array Operand} (ho : o.op = .makeFunc (.func n) first caps) (h : oper C K f o s = some s') : PureOk P Γ β s a o s' := by
  unfold oper at h
  rw [ho] at h
  dsimp only at h
  split at h
  · rename_i vs hvs
    split at h
    · rename_i hf
      injection h with h
      have hr := R.vals hvs
      refine ⟨.v (.fn (.func n) vs), .func (.func n) #[] (caps.map a.eval), ?_, ?_, h.symm⟩
      · unfold execOp
        rw [ho]
        have : first = #[] := by simpa using hf
        subst this
        simp [Instr.makeFunc]
      · refine .fn ?_ fun i x hx => ?_
        · have := hr.len; simpa using this
        · obtain ⟨v, hv, hrel⟩ := hr.get i x hx
          have e : (caps.map a.eval).getD i undef = v := by
            rw [Array.getD_eq_getD_getElem?, ← Array.getElem?_toList, Array.toList_map, hv]; rfl
          rw [e]; exact hrel
    · cases h
  · cases h

theorem pure_extract (R : RelS base n0 Γ β s a) {x : Operand} {i : Nat} (ho : o.op = .extract x i) (h : oper C K f o s = some s') : PureOk P Γ β s a o s' := by
  unfold oper at h
  rw [ho] at h
  dsimp only at h
  split at h
  · rename_i vs hx
    obtain ⟨r, hr, e⟩ := putv_of_map h
    have hv := R.val hx
    generalize hv' : a.eval x = u at hv
    cases hv with
    | tup hn hrel =>
      rename_i us
      have hlt : i < us.size := by
        rcases Nat.lt_or_ge i vs.length with h' | h'
        · omega
        · rw [List.getElem?_eq_none h'] at hr; cases hr
      refine ⟨.v r, us.getD i undef, ?_, hrel i r hr, e⟩
      unfold execOp
      rw [ho]
      simp [hv', Instr.extract, hlt, Array.getD_eq_getD_getElem?]
  · cases h

theorem pure_makeInterface (hT : TabOk P C.tab) (R : RelS base n0 Γ β s a) {t : TypeId} {x : Operand} (ho : o.op = .makeInterface t x) (h : oper C K f o s = some s') : PureOk P Γ β s a o s' := by
  unfold oper at h
  rw [ho] at h
  dsimp only at h
  split at h
  · cases h
  · rename_i ti v hne ht hx
    injection h with h
    refine ⟨.v (.iface t v), .iface t (a.eval x), ?_, .iface (R.val hx), h.symm⟩
    obtain ⟨d, hd, hk⟩ := (hT _ _ ht).kind
    unfold execOp
    rw [ho]
    dsimp only
    have hr : (Instr.makeInterface t (a.eval x)).run P Γ.w = .ok (.iface t (a.eval x)) Γ.w := by
      unfold Instr.makeInterface
      simp only [Sem.run_bind, run_underlying hd, Result.andThen_ok]
      cases d <;> first | rfl | skip
      rename_i ms
      exfalso
      obtain ⟨kind, sz, by_, zr⟩ := ti
      cases kind <;> first | exact hk | exact hne _ _ _ rfl
    rw [Sem.run_bind, hr]
    rfl
  · cases h

end Go.Ev
