/- The evaluator run on symbols: a rule for each form of code. -/
import Derived.Test.YtelobnllkhnpaaaEvMain
namespace Go.Ev
set_option linter.unusedVariables false
set_option linter.unusedSimpArgs false

variable {P : Program} {C : Cfg} {K : Callee} {f fuel : Nat} {s s1 s2 : St} {r : Option (Ex × St)}

theorem S_seq {a b : Code} (h1 : exec C K f fuel a s = some (.normal, s1)) (h2 : exec C K f fuel b s1 = r) : exec C K f fuel (.seq a b) s = r := by
  simp only [exec, h1, h2]
theorem S_seq_out {a b : Code} {e : Ex} (h1 : exec C K f fuel a s = some (e, s1)) (he : e ≠ .normal) : exec C K f fuel (.seq a b) s = some (e, s1) := by
  simp only [exec, h1]
  cases e <;> first | exact absurd rfl he | rfl
theorem S_cond {c : Operand} {x y : Code} {b : Bool} (h : s.val c = some (.bool b)) (ht : b = true → exec C K f fuel x s = r) (hf : b = false → exec C K f fuel y s = r) : exec C K f fuel (.cond c x y) s = r := by
  simp only [exec, h]
  cases b
  · exact hf rfl
  · exact ht rfl
theorem S_true {c : Operand} {x y : Code} {b : Bool} (h : s.val c = some (.bool b)) (hb : b = true) (ht : exec C K f fuel x s = r) : exec C K f fuel (.cond c x y) s = r :=
  S_cond h (fun _ => ht) (fun e => by rw [hb] at e; cases e)
theorem S_false {c : Operand} {x y : Code} {b : Bool} (h : s.val c = some (.bool b)) (hb : b = false) (hf : exec C K f fuel y s = r) : exec C K f fuel (.cond c x y) s = r :=
  S_cond h (fun e => by rw [hb] at e; cases e) (fun _ => hf)
theorem S_region {id : Nat} {ops : Array Oper} (h : opers C K f ops ops.toList s = some s1) : exec C K f fuel (.region id ops false) s = some (.normal, s1) := by
  simp only [exec, Bool.false_eq_true, if_false, h, Option.map_some]
theorem S_nil {ops : Array Oper} : opers C K f ops [] s = some s := rfl
theorem S_op {ops : Array Oper} {o : Oper} {l : List Oper} (hg : guardOn ops o s = some true) (h : oper C K f o s = some s1) (k : opers C K f ops l s1 = some s2) : opers C K f ops (o :: l) s = some s2 := by
  simp only [opers, hg, h, k]
theorem S_skip {ops : Array Oper} {o : Oper} {l : List Oper} (hg : guardOn ops o s = some false) (k : opers C K f ops l (s.putv o.dst (.tup [])) = some s2) : opers C K f ops (o :: l) s = some s2 := by
  simp only [opers, hg, k]
theorem S_block {id : Nat} {b : Code} {e : Ex} (h : exec C K f fuel b s = some (e, s1)) (he : e ≠ .exit id) : exec C K f fuel (.block id b) s = some (e, s1) := by
  simp only [exec, h]
  cases e with
  | normal => rfl
  | ret => rfl
  | exit i =>
    have : (i == id) = false := by simpa using fun h => he (by rw [h])
    simp only [this, Bool.false_eq_true, if_false]
theorem S_block_exit {id : Nat} {b : Code} (h : exec C K f fuel b s = some (.exit id, s1)) : exec C K f fuel (.block id b) s = some (.normal, s1) := by
  simp only [exec, h, beq_self_eq_true, if_true]

/-- A loop of n whole rounds; S i: what holds at the head of round i. -/
theorem S_loop {b : Code} {S : Nat → St} {n : Nat} {e : Ex} {s' : St} (h0 : prune (C.live f (firstRegion b)) s = S 0) (hn : n < fuel)
    (hS : ∀ i, i < n → ∃ t, exec C K f fuel b (S i) = some (.normal, t) ∧ prune (C.live f (firstRegion b)) t = S (i + 1)) (hlast : exec C K f fuel b (S n) = some (e, s')) (he : e ≠ .normal) :
    exec C K f fuel (.loop b) s = some (e, s') := by
  have key : ∀ (d j : Nat) (m : Nat) (s : St), j + d = n → d < m → prune (C.live f (firstRegion b)) s = S j → rounds (exec C K f fuel b) (C.live f (firstRegion b)) m s = some (e, s') := by
    intro d
    induction d with
    | zero =>
      intro j m s hj hm hs
      cases m with
      | zero => omega
      | succ m =>
        simp only [rounds, hs]
        have : j = n := by omega
        subst this
        rw [hlast]
        cases e <;> first | exact absurd rfl he | rfl
    | succ d ih =>
      intro j m s hj hm hs
      cases m with
      | zero => omega
      | succ m =>
        obtain ⟨t, h1, h2⟩ := hS j (by omega)
        simp only [rounds, hs, h1]
        exact ih (j + 1) m t (by omega) (by omega) h2
  simp only [exec]
  exact key n 0 fuel s (by omega) hn h0

theorem S_rounds {b : Code} (h : rounds (exec C K f fuel b) (C.live f (firstRegion b)) fuel s = r) : exec C K f fuel (.loop b) s = r := by
  simp only [exec]; exact h
theorem R_next {step : St → Option (Ex × St)} {l : Option (List Nat)} {m : Nat} {S t : St} (h0 : prune l s = S) (h : step S = some (.normal, t)) (k : rounds step l m t = r) : rounds step l (m + 1) s = r := by
  simp only [rounds, h0, h]; exact k
theorem R_last {step : St → Option (Ex × St)} {l : Option (List Nat)} {m : Nat} {S s' : St} {e : Ex} (h0 : prune l s = S) (h : step S = some (e, s')) (he : e ≠ .normal) : rounds step l (m + 1) s = some (e, s') := by
  simp only [rounds, h0, h]
  cases e <;> first | exact absurd rfl he | rfl

/-- What a function hands back. -/
def finish (C : Cfg) (fn : Func) (fid : Nat) (h : Heap) (s : St) : Option (AV × Heap) :=
  match resultsOf C s fn.results.toList with
  | some [a] => handF (C.nz fid) (C.cut fid) h a s.heap
  | some l => handF (C.nz fid) (C.cut fid) h (.tup l) s.heap
  | none => none

/-- A function is called. -/
theorem S_call {k lo : Nat} {fid : FuncId} {fn : Func} {b : Code} {args : List AV} {h : Heap} {e : Ex} {out : AV × Heap} (hf : P.funcs[fid]? = some fn) (hb : fn.body = some b) (hl : args.length ≤ fn.ntmps) (ho : C.orc lo (.func fid) args h = none)
    (hx : exec C (call P C k) fid k b { env := number 0 args, loc := [], heap := h, inRound := false, lo := if C.cut fid then h.length else lo } = some (e, s1)) (he : e = .ret ∨ e = .normal) (hr : finish C fn fid h s1 = some out) :
    call P C (k + 1) lo (.func fid) args h = some out := by
  unfold finish at hr
  rcases he with rfl | rfl <;> (simp only [call, ho, hf, hb, if_pos hl, hx]; exact hr)

/-- An operation that calls a function of the program. -/
theorem O_call {o : Oper} {c : Call} {g : Operand} {vs caps : List AV} {fn : Fn} {a : AV} {h' : Heap} (ho : o.op = .call c) (hc : c.callee = .value g) (hv : s.vals c.args.toList = some vs) (hg : s.val g = some (.fn fn caps))
    (hk : K s.lo fn (vs ++ caps) s.heap = some (a, h')) : oper C K f o s = some (({ s with heap := h' } : St).putv o.dst a) := by
  unfold oper
  rw [ho]
  dsimp only
  rw [hv]
  dsimp only
  rw [hc]
  dsimp only
  rw [hg]
  dsimp only
  rw [hk]
  show some _ = some _
  congr 1
  exact put_heap _ _ _ _

/-- An element of a row that is only read. -/
theorem O_index {o : Oper} {t e sz by_ : Nat} {zr : List AV} {ti : TI} {x i : Operand} {xs : List (List AV)} {j : Nat} {k : IntKind} {row : List AV} (ho : o.op = .indexAddr t x i) (ht : look C.tab t = some ⟨.slice e, sz, by_, zr⟩) (he : look C.tab e = some ti)
    (hx : s.val x = some (.vs ti.sz xs)) (hi : s.val i = some (.int k j)) (hr : xs[j]? = some row) : oper C K f o s = some (s.putv o.dst (.rp row)) := by
  unfold oper
  rw [ho]
  dsimp only
  rw [ht, hx, hi]
  dsimp only
  rw [he]
  dsimp only
  rw [if_pos (Int.natCast_nonneg j), if_pos rfl, Int.toNat_natCast, hr]
  rfl

theorem O_indexI {o : Oper} {t e sz by_ : Nat} {zr : List AV} {ti : TI} {x i : Operand} {xs : List (List AV)} {j : Int} {k : IntKind} {row : List AV} (ho : o.op = .indexAddr t x i) (ht : look C.tab t = some ⟨.slice e, sz, by_, zr⟩) (he : look C.tab e = some ti)
    (hx : s.val x = some (.vs ti.sz xs)) (hi : s.val i = some (.int k j)) (hr : 0 ≤ j ∧ xs[j.toNat]? = some row) : oper C K f o s = some (s.putv o.dst (.rp row)) := by
  obtain ⟨m, rfl⟩ := Int.eq_ofNat_of_zero_le hr.1
  exact O_index ho ht he hx hi (by simpa using hr.2)

/-- An element of a slice of the evaluator's own heap; a cell behind a pointer into it. -/
theorem O_indexH {o : Oper} {t e sz by_ T id off len : Nat} {zr : List AV} {ti : TI} {x i : Operand} {xs : List AV} {j : Nat} {k : IntKind} (ho : o.op = .indexAddr t x i) (ht : look C.tab t = some ⟨.slice e, sz, by_, zr⟩) (he : look C.tab e = some ti)
    (hx : s.val x = some (.sl id ti.sz off len)) (hi : s.val i = some (.int k j)) (hH : s.heap[id]? = some (.cells T xs)) (hj : j < len) (hl : off + len * ti.sz = xs.length) : oper C K f o s = some (s.putv o.dst (.hp id xs.length (off + j * ti.sz))) := by
  unfold oper
  rw [ho]
  dsimp only
  rw [ht, hx, hi]
  dsimp only
  rw [he]
  dsimp only
  rw [if_pos (Int.natCast_nonneg j), hH]
  dsimp only
  rw [if_pos ⟨rfl, by omega, hl⟩, Int.toNat_natCast]
theorem O_loadH {o : Oper} {t T id n off : Nat} {ti : TI} {x : Operand} {xs : List AV} {a : AV} (ho : o.op = .load t x) (ht : look C.tab t = some ti) (hx : s.slot x = some (.v (.hp id n off))) (hH : s.heap[id]? = some (.cells T xs)) (hn : n = xs.length)
    (hp : part ti xs off = some a) : oper C K f o s = some (s.putv o.dst a) := by
  unfold oper
  rw [ho]
  dsimp only
  rw [ht, hx]
  dsimp only
  rw [hH]
  dsimp only
  rw [if_pos hn, hp]
  rfl
theorem O_storeH {o : Oper} {t T id n off : Nat} {ti : TI} {x y : Operand} {xs ys : List AV} (ho : o.op = .store t x y) (ht : look C.tab t = some ti) (hx : s.slot x = some (.v (.hp id n off))) (hy : (s.val y).bind cellsOf = some ys) (hH : s.heap[id]? = some (.cells T xs))
    (hc : s.lo ≤ id ∧ n = xs.length ∧ ys.length = ti.sz ∧ off + ti.sz ≤ xs.length) : oper C K f o s = some (({ s with heap := s.heap.set id (.cells T (setCells xs off ys)) } : St).putv o.dst (.tup [])) := by
  unfold oper
  rw [ho]
  dsimp only
  rw [ht, hx, hy]
  dsimp only
  rw [hH]
  dsimp only
  rw [if_pos hc]

/-- append, by what it comes to. -/
theorem O_append {o : Oper} {c : Call} {t u : Nat} {e sz by_ : Nat} {zr : List AV} {s0 x a : AV} {h' : Heap} (ho : o.op = .call c) (hc : c.callee = .builtin .append) (ht : c.argTypes = #[t, u]) (hu : look C.tab u = some ⟨.slice e, sz, by_, zr⟩) (hv : s.vals c.args.toList = some [s0, x])
    (ha : append C.tab s.lo s.heap t s0 x = some (a, h')) : oper C K f o s = some (({ s with heap := h' } : St).putv o.dst a) := by
  unfold oper
  rw [ho]
  dsimp only
  rw [hv]
  dsimp only
  rw [hc, ht]
  simp only [builtin, hu, ha, Option.map_some]
  congr 1
  exact put_heap _ _ _ _

/-- Guarded operations; a choice. -/
theorem S_on {ops : Array Oper} {o : Oper} {l : List Oper} {b : Bool} (hg : guardOn ops o s = some b) (hb : b = true) (h : oper C K f o s = some s1) (k : opers C K f ops l s1 = some s2) : opers C K f ops (o :: l) s = some s2 := by
  subst hb; exact S_op hg h k
theorem S_off {ops : Array Oper} {o : Oper} {l : List Oper} {b : Bool} (hg : guardOn ops o s = some b) (hb : b = false) (k : opers C K f ops l (s.putv o.dst (.tup [])) = some s2) : opers C K f ops (o :: l) s = some s2 := by
  subst hb; exact S_skip hg k
theorem S_onT {ops : Array Oper} {o : Oper} {l : List Oper} {b : Bool} (hg : guardOn ops o s = some (b == true)) (hb : b = true) (h : oper C K f o s = some s1) (k : opers C K f ops l s1 = some s2) : opers C K f ops (o :: l) s = some s2 := by
  subst hb; exact S_op hg h k
theorem S_onF {ops : Array Oper} {o : Oper} {l : List Oper} {b : Bool} (hg : guardOn ops o s = some (b == false)) (hb : b = false) (h : oper C K f o s = some s1) (k : opers C K f ops l s1 = some s2) : opers C K f ops (o :: l) s = some s2 := by
  subst hb; exact S_op hg h k
theorem S_offT {ops : Array Oper} {o : Oper} {l : List Oper} {b : Bool} (hg : guardOn ops o s = some (b == true)) (hb : b = false) (k : opers C K f ops l (s.putv o.dst (.tup [])) = some s2) : opers C K f ops (o :: l) s = some s2 := by
  subst hb; exact S_skip hg k
theorem S_offF {ops : Array Oper} {o : Oper} {l : List Oper} {b : Bool} (hg : guardOn ops o s = some (b == false)) (hb : b = true) (k : opers C K f ops l (s.putv o.dst (.tup [])) = some s2) : opers C K f ops (o :: l) s = some s2 := by
  subst hb; exact S_skip hg k
theorem O_pick1 {o : Oper} {c x y : Operand} {b : Bool} {z : Slot} (ho : o.op = .pick c x y) (hc : s.val c = some (.bool b)) (hb : b = true) (hz : s.slot x = some z) : oper C K f o s = some (s.put o.dst z) := by
  subst hb
  unfold oper
  rw [ho]
  dsimp only
  rw [hc]
  dsimp only
  rw [hz]
  rfl
theorem O_pick0 {o : Oper} {c x y : Operand} {b : Bool} {z : Slot} (ho : o.op = .pick c x y) (hc : s.val c = some (.bool b)) (hb : b = false) (hz : s.slot y = some z) : oper C K f o s = some (s.put o.dst z) := by
  subst hb
  unfold oper
  rw [ho]
  dsimp only
  rw [hc]
  dsimp only
  rw [hz]
  rfl

/-! ### A fold that stops -/
section
variable {α σ : Type} (g : α → σ → σ) (c : σ → Bool)
def wfold : List α → σ → σ
  | [], s => s
  | a :: l, s => if c s then wfold l (g a s) else s
def wcnt : List α → σ → Nat
  | [], _ => 0
  | a :: l, s => if c s then wcnt l (g a s) + 1 else 0
def wst : List α → σ → Nat → σ
  | a :: l, s, i + 1 => wst l (g a s) i
  | _, s, _ => s
theorem wst_zero (l : List α) (s : σ) : wst g l s 0 = s := by cases l <;> rfl
theorem wcnt_le : ∀ (l : List α) (s : σ), wcnt g c l s ≤ l.length
  | [], s => Nat.le_refl _
  | a :: l, s => by
    simp only [wcnt]
    split
    · have := wcnt_le l (g a s); simp; omega
    · simp
theorem wcnt_on : ∀ (l : List α) (s : σ) (i : Nat), i < wcnt g c l s → c (wst g l s i) = true
  | [], s, i, h => by simp [wcnt] at h
  | a :: l, s, i, h => by
    simp only [wcnt] at h
    split at h
    · rename_i hc
      cases i with
      | zero => exact hc
      | succ i => exact wcnt_on l (g a s) i (by omega)
    · omega
theorem wcnt_end : ∀ (l : List α) (s : σ), wst g l s (wcnt g c l s) = wfold g c l s ∧ (wcnt g c l s = l.length ∨ c (wfold g c l s) = false)
  | [], s => ⟨rfl, .inl rfl⟩
  | a :: l, s => by
    simp only [wcnt, wfold]
    split
    · obtain ⟨h1, h2⟩ := wcnt_end l (g a s)
      exact ⟨h1, h2.imp (fun h => by simp [h]) id⟩
    · rename_i hc
      exact ⟨rfl, .inr (by simpa using hc)⟩
theorem wst_succ : ∀ (l : List α) (s : σ) (i : Nat) (a : α), l[i]? = some a → wst g l s (i + 1) = g a (wst g l s i)
  | [], s, i, a, h => by simp at h
  | b :: l, s, 0, a, h => by simp at h; subst h; simp [wst, wst_zero]
  | b :: l, s, i + 1, a, h => by simp at h; exact wst_succ l (g b s) i a h
end

/-! ### What is left behind some code: a calculus -/
structure W (C : Cfg) (K : Callee) (f fuel : Nat) (c : Code) (s : St) (Q : Ex → St → Prop) : Prop where
  out : ∃ e s', exec C K f fuel c s = some (e, s') ∧ Q e s'
def wThen (next : St → Prop) (Q : Ex → St → Prop) : Ex → St → Prop
  | .normal, s => next s
  | e, s => Q e s
def wBlock (id : Nat) (Q : Ex → St → Prop) : Ex → St → Prop
  | .exit i, s => if i = id then Q .normal s else Q (.exit i) s
  | e, s => Q e s
variable {Q : Ex → St → Prop}
theorem W_region {id : Nat} {ops : Array Oper} (h : opers C K f ops ops.toList s = some s1) (k : Q .normal s1) : W C K f fuel (.region id ops false) s Q := ⟨_, _, S_region h, k⟩
theorem W_draw {id : Nat} {ops : Array Oper} (h : opersD C K f ops (befs ops) ops.toList 0 s = some s1) (k : Q .normal s1) : W C K f fuel (.region id ops true) s Q :=
  ⟨.normal, s1, by simp only [exec, if_true, h, Option.map_some], k⟩
theorem W_seq {a b : Code} (h : W C K f fuel a s (wThen (fun s1 => W C K f fuel b s1 Q) Q)) : W C K f fuel (.seq a b) s Q := by
  obtain ⟨e, s1, h1, h2⟩ := h
  cases e with
  | normal =>
    obtain ⟨e2, s2, h3, h4⟩ := h2
    exact ⟨e2, s2, S_seq h1 h3, h4⟩
  | exit i => exact ⟨_, _, S_seq_out h1 (by simp), h2⟩
  | ret => exact ⟨_, _, S_seq_out h1 (by simp), h2⟩
theorem W_cond {c : Operand} {x y : Code} {b : Bool} (h : s.val c = some (.bool b)) (ht : b = true → W C K f fuel x s Q) (hf : b = false → W C K f fuel y s Q) : W C K f fuel (.cond c x y) s Q := by
  cases b with
  | true => obtain ⟨e, s', h1, h2⟩ := ht rfl; exact ⟨e, s', S_true h rfl h1, h2⟩
  | false => obtain ⟨e, s', h1, h2⟩ := hf rfl; exact ⟨e, s', S_false h rfl h1, h2⟩
theorem W_true {c : Operand} {x y : Code} {b : Bool} (h : s.val c = some (.bool b)) (hb : b = true) (ht : W C K f fuel x s Q) : W C K f fuel (.cond c x y) s Q :=
  W_cond h (fun _ => ht) (fun e => by rw [hb] at e; cases e)
theorem W_false {c : Operand} {x y : Code} {b : Bool} (h : s.val c = some (.bool b)) (hb : b = false) (hf : W C K f fuel y s Q) : W C K f fuel (.cond c x y) s Q :=
  W_cond h (fun e => by rw [hb] at e; cases e) (fun _ => hf)
theorem W_skip (h : Q .normal s) : W C K f fuel .skip s Q := ⟨_, _, rfl, h⟩
theorem W_exit {i : Nat} (h : Q (.exit i) s) : W C K f fuel (.exit i) s Q := ⟨_, _, rfl, h⟩
theorem W_ret (h : Q .ret s) : W C K f fuel .ret s Q := ⟨_, _, rfl, h⟩
theorem W_block {id : Nat} {b : Code} (h : W C K f fuel b s (wBlock id Q)) : W C K f fuel (.block id b) s Q := by
  obtain ⟨e, s1, h1, h2⟩ := h
  cases e with
  | normal => exact ⟨_, _, S_block h1 (by simp), h2⟩
  | ret => exact ⟨_, _, S_block h1 (by simp), h2⟩
  | exit i =>
    simp only [wBlock] at h2
    split at h2
    · rename_i e; subst e; exact ⟨_, _, S_block_exit h1, h2⟩
    · rename_i e; exact ⟨_, _, S_block h1 (by simpa using e), h2⟩
theorem W_loop {b : Code} {S : Nat → St} {n : Nat} (h0 : prune (C.live f (firstRegion b)) s = S 0) (hn : n < fuel)
    (hS : ∀ i, i < n → W C K f fuel b (S i) (fun e t => e = .normal ∧ prune (C.live f (firstRegion b)) t = S (i + 1))) (hlast : W C K f fuel b (S n) (fun e s' => e ≠ .normal ∧ Q e s')) : W C K f fuel (.loop b) s Q := by
  obtain ⟨e, s', h1, h2, h3⟩ := hlast
  refine ⟨e, s', S_loop h0 hn (fun i hi => ?_) h1 h2, h3⟩
  obtain ⟨e', t, k1, k2, k3⟩ := hS i hi
  subst k2
  exact ⟨t, k1, k3⟩
theorem W_call {k lo : Nat} {fid : FuncId} {fn : Func} {b : Code} {args : List AV} {h : Heap} {out : AV × Heap} (hf : P.funcs[fid]? = some fn) (hb : fn.body = some b) (hl : args.length ≤ fn.ntmps) (ho : C.orc lo (.func fid) args h = none)
    (hx : W C (call P C k) fid k b { env := number 0 args, loc := [], heap := h, inRound := false, lo := if C.cut fid then h.length else lo } (fun e s' => (e = .ret ∨ e = .normal) ∧ finish C fn fid h s' = some out)) : call P C (k + 1) lo (.func fid) args h = some out := by
  obtain ⟨e, s', h1, h2, h3⟩ := hx
  exact S_call hf hb hl ho h1 h2 h3

/-! ### Loops over rows -/
def stepQ (l : Option (List Nat)) (next : St → Prop) (Q : Ex → St → Prop) : Ex → St → Prop
  | .normal, t => next (prune l t)
  | e, t => Q e t
theorem wrap_i64 {n : Int} (h1 : -9223372036854775808 ≤ n) (h2 : n < 9223372036854775808) : IntKind.i64.wrap n = n := by
  have e1 : IntKind.i64.bits = 64 := rfl
  have e2 : IntKind.i64.signed = true := rfl
  simp only [IntKind.wrap, e1, e2, Bool.true_and, decide_eq_true_eq]
  split <;> omega
theorem W_iterI {X A : Type} {b : Code} (J : Nat → List X → A → Prop) (S : Int → A → St) {l : List X} {a0 : A} (hl : l.length < 9223372036854775808) (hfuel : l.length < fuel) (h0 : prune (C.live f (firstRegion b)) s = S 0 a0) (hJ : J 0 l a0)
    (step : ∀ (i : Nat) (x : X) (rest : List X) (a : A), l[i]? = some x → l.drop i = x :: rest → i < l.length → J i (x :: rest) a →
      W C K f fuel b (S i a) (stepQ (C.live f (firstRegion b)) (fun t => ∃ a', t = S (IntKind.i64.wrap ((i : Int) + 1)) a' ∧ J (i + 1) rest a') Q))
    (last : ∀ a, J l.length [] a → W C K f fuel b (S l.length a) (stepQ none (fun _ => False) Q)) : W C K f fuel (.loop b) s Q := by
  have key : ∀ (rest : List X) (i m : Nat) (s : St) (a : A), l.drop i = rest → i + rest.length = l.length → rest.length < m → prune (C.live f (firstRegion b)) s = S i a → J i rest a →
      ∃ e s', rounds (exec C K f fuel b) (C.live f (firstRegion b)) m s = some (e, s') ∧ Q e s' := by
    intro rest
    induction rest with
    | nil =>
      intro i m s a hd hi hm hs hj
      cases m with
      | zero => omega
      | succ m =>
        have hil : i = l.length := by simpa using hi
        subst hil
        obtain ⟨e, s', h1, h2⟩ := last a hj
        cases e with
        | normal => exact h2.elim
        | exit j => exact ⟨_, _, by simp only [rounds, hs, h1], h2⟩
        | ret => exact ⟨_, _, by simp only [rounds, hs, h1], h2⟩
    | cons x rest ih =>
      intro i m s a hd hi hm hs hj
      simp only [List.length_cons] at hi hm
      cases m with
      | zero => omega
      | succ m =>
        have hx : l[i]? = some x := by
          have := congrArg (fun z => z[0]?) hd
          simpa using this
        obtain ⟨e, s', h1, h2⟩ := step i x rest a hx hd (by omega) hj
        cases e with
        | normal =>
          obtain ⟨a', h3, h4⟩ := h2
          have hw : IntKind.i64.wrap ((i : Int) + 1) = ((i + 1 : Nat) : Int) := by rw [wrap_i64 (n := (i : Int) + 1) (by omega) (by omega)]; omega
          rw [hw] at h3
          have hd' : l.drop (i + 1) = rest := by rw [← List.drop_drop, hd]; rfl
          obtain ⟨e2, s2, h5, h6⟩ := ih (i + 1) m s' a' hd' (by omega) (by omega) h3 h4
          exact ⟨e2, s2, by simp only [rounds, hs, h1]; exact h5, h6⟩
        | exit j => exact ⟨_, _, by simp only [rounds, hs, h1], h2⟩
        | ret => exact ⟨_, _, by simp only [rounds, hs, h1], h2⟩
  obtain ⟨e, s', h1, h2⟩ := key l 0 fuel s a0 rfl (by simp) hfuel h0 hJ
  exact ⟨e, s', by simp only [exec]; exact h1, h2⟩

theorem W_iter {X A : Type} {b : Code} (J : List X → A → Prop) (S : Int → A → St) {l : List X} {a0 : A} (hl : l.length < 9223372036854775808) (hfuel : l.length < fuel) (h0 : prune (C.live f (firstRegion b)) s = S 0 a0) (hJ : J l a0)
    (step : ∀ (i : Nat) (x : X) (rest : List X) (a : A), l[i]? = some x → l.drop i = x :: rest → i < l.length → J (x :: rest) a →
      W C K f fuel b (S i a) (stepQ (C.live f (firstRegion b)) (fun t => ∃ a', t = S (IntKind.i64.wrap ((i : Int) + 1)) a' ∧ J rest a') Q))
    (last : ∀ a, J [] a → W C K f fuel b (S l.length a) (stepQ none (fun _ => False) Q)) : W C K f fuel (.loop b) s Q :=
  W_iterI (fun _ => J) S hl hfuel h0 hJ step last

/-- A loop that goes on as long as something gets smaller. -/
theorem W_while {A : Type} {b : Code} (J : A → Prop) (S : A → St) (μ : A → Nat) {a0 : A} (hfuel : μ a0 < fuel) (h0 : prune (C.live f (firstRegion b)) s = S a0) (hJ : J a0)
    (step : ∀ a, J a → W C K f fuel b (S a) (stepQ (C.live f (firstRegion b)) (fun t => ∃ a', t = S a' ∧ J a' ∧ μ a' < μ a) Q)) : W C K f fuel (.loop b) s Q := by
  have key : ∀ (m : Nat) (s : St) (a : A), μ a < m → prune (C.live f (firstRegion b)) s = S a → J a →
      ∃ e s', rounds (exec C K f fuel b) (C.live f (firstRegion b)) m s = some (e, s') ∧ Q e s' := by
    intro m
    induction m with
    | zero => intro s a hm; omega
    | succ m ih =>
      intro s a hm hs hj
      obtain ⟨e, s', h1, h2⟩ := step a hj
      cases e with
      | normal =>
        obtain ⟨a', h3, h4, h5⟩ := h2
        obtain ⟨e2, s2, h6, h7⟩ := ih s' a' (by omega) h3 h4
        exact ⟨e2, s2, by simp only [rounds, hs, h1]; exact h6, h7⟩
      | exit j => exact ⟨_, _, by simp only [rounds, hs, h1], h2⟩
      | ret => exact ⟨_, _, by simp only [rounds, hs, h1], h2⟩
  obtain ⟨e, s', h1, h2⟩ := key fuel s a0 hfuel h0 hJ
  exact ⟨e, s', by simp only [exec]; exact h1, h2⟩

/-! ### Regions that draw their order -/
theorem D_nil {ops : Array Oper} {bs : List Nat} {i : Nat} : opersD C K f ops bs [] i s = some s := rfl
theorem D_op {ops : Array Oper} {bs : List Nat} {i : Nat} {o : Oper} {l : List Oper} (hg : guardOn ops o s = some true) (ha : alone bs ops.size i = true) (h : oper C K f o s = some s1) (k : opersD C K f ops bs l (i + 1) s1 = some s2) : opersD C K f ops bs (o :: l) i s = some s2 := by
  simp only [opersD, hg, ha, if_true, h, k]
theorem D_skip {ops : Array Oper} {bs : List Nat} {i : Nat} {o : Oper} {l : List Oper} (hg : guardOn ops o s = some false) (k : opersD C K f ops bs l (i + 1) (s.putv o.dst (.tup [])) = some s2) : opersD C K f ops bs (o :: l) i s = some s2 := by
  simp only [opersD, hg, k]
/-- An operation that makes no object. -/
theorem D_free {ops : Array Oper} {bs : List Nat} {i d : Nat} {o : Oper} {l : List Oper} {x : Slot} (hg : guardOn ops o s = some true) (ha : alone bs ops.size i = false) (hl : isLocal C f o = false)
    (h : oper C K f o { s with env := restr (namesOf ops o) s.env, lo := s.heap.length } = some s1) (hd : o.dst = some d) (hh : s1.heap = s.heap) (hx : look s1.env d = some x)
    (k : opersD C K f ops bs l (i + 1) { s with env := (d, x) :: s.env } = some s2) : opersD C K f ops bs (o :: l) i s = some s2 := by
  have hs : stepD C K f ops o s = some { s with env := (d, x) :: s.env } := by
    unfold stepD
    rw [hl]
    simp only [Bool.false_eq_true, if_false, h, hd, hx, hh, List.drop_length, List.append_nil]
  simp only [opersD, hg, ha, Bool.false_eq_true, if_false, hs, k]
/-- An operation that makes some objects. -/
theorem D_make {ops : Array Oper} {bs : List Nat} {i d : Nat} {o : Oper} {l : List Oper} {x : Slot} {more : Heap} (hg : guardOn ops o s = some true) (ha : alone bs ops.size i = false) (hl : isLocal C f o = false)
    (h : oper C K f o { s with env := restr (namesOf ops o) s.env, lo := s.heap.length } = some s1) (hd : o.dst = some d) (hh : s1.heap = s.heap ++ more) (hx : look s1.env d = some x)
    (k : opersD C K f ops bs l (i + 1) { s with env := (d, x) :: s.env, heap := s.heap ++ more } = some s2) : opersD C K f ops bs (o :: l) i s = some s2 := by
  have hs : stepD C K f ops o s = some { s with env := (d, x) :: s.env, heap := s.heap ++ more } := by
    unfold stepD
    rw [hl]
    simp only [Bool.false_eq_true, if_false, h, hd, hx, hh, List.drop_left]
  simp only [opersD, hg, ha, Bool.false_eq_true, if_false, hs, k]

/-! ### Operations one by one, what follows behind them -/
structure WO (C : Cfg) (K : Callee) (f : Nat) (ops : Array Oper) (l : List Oper) (s : St) (Q : St → Prop) : Prop where
  out : ∃ s2, opers C K f ops l s = some s2 ∧ Q s2
/-- The guard is passed. -/
structure WG (C : Cfg) (K : Callee) (f : Nat) (ops : Array Oper) (o : Oper) (l : List Oper) (s : St) (Q : St → Prop) : Prop where
  out : ∃ s1, oper C K f o s = some s1 ∧ WO C K f ops l s1 Q
variable {ops : Array Oper} {o : Oper} {l : List Oper} {R : St → Prop}
theorem W_ops {id : Nat} (h : WO C K f ops ops.toList s (Q .normal)) : W C K f fuel (.region id ops false) s Q := by
  obtain ⟨s2, h1, h2⟩ := h
  exact ⟨_, _, S_region h1, h2⟩
theorem T_nil (h : R s) : WO C K f ops [] s R := ⟨s, rfl, h⟩
theorem T_go (hg : guardOn ops o s = some true) (k : WG C K f ops o l s R) : WO C K f ops (o :: l) s R := by
  obtain ⟨s1, h, s2, h1, h2⟩ := k
  exact ⟨s2, S_op hg h h1, h2⟩
theorem T_skip (hg : guardOn ops o s = some false) (k : WO C K f ops l (s.putv o.dst (.tup [])) R) : WO C K f ops (o :: l) s R := by
  obtain ⟨s2, h1, h2⟩ := k
  exact ⟨s2, S_skip hg h1, h2⟩
theorem T_onT {b : Bool} (hg : guardOn ops o s = some (b == true)) (hb : b = true) (k : WG C K f ops o l s R) : WO C K f ops (o :: l) s R := by
  subst hb; exact T_go hg k
theorem T_onF {b : Bool} (hg : guardOn ops o s = some (b == false)) (hb : b = false) (k : WG C K f ops o l s R) : WO C K f ops (o :: l) s R := by
  subst hb; exact T_go hg k
theorem T_offT {b : Bool} (hg : guardOn ops o s = some (b == true)) (hb : b = false) (k : WO C K f ops l (s.putv o.dst (.tup [])) R) : WO C K f ops (o :: l) s R := by
  subst hb; exact T_skip hg k
theorem T_offF {b : Bool} (hg : guardOn ops o s = some (b == false)) (hb : b = true) (k : WO C K f ops l (s.putv o.dst (.tup [])) R) : WO C K f ops (o :: l) s R := by
  subst hb; exact T_skip hg k
/-- A guard on what is not known: both ways. -/
theorem T_caseT {b : Bool} (hg : guardOn ops o s = some (b == true)) (hon : b = true → WG C K f ops o l s R) (hoff : b = false → WO C K f ops l (s.putv o.dst (.tup [])) R) : WO C K f ops (o :: l) s R := by
  cases b
  · exact T_skip hg (hoff rfl)
  · exact T_go hg (hon rfl)
theorem T_caseF {b : Bool} (hg : guardOn ops o s = some (b == false)) (hon : b = false → WG C K f ops o l s R) (hoff : b = true → WO C K f ops l (s.putv o.dst (.tup [])) R) : WO C K f ops (o :: l) s R := by
  cases b
  · exact T_go hg (hon rfl)
  · exact T_skip hg (hoff rfl)
theorem G_op (h : oper C K f o s = some s1) (k : WO C K f ops l s1 R) : WG C K f ops o l s R := ⟨s1, h, k⟩
theorem G_pick {c x y : Operand} {b : Bool} (ho : o.op = .pick c x y) (hc : s.val c = some (.bool b)) (ht : b = true → WG C K f ops o l s R) (hf : b = false → WG C K f ops o l s R) : WG C K f ops o l s R := by
  cases b
  · exact hf rfl
  · exact ht rfl

/-- Several operations at once. -/
theorem opers_append : ∀ (l m : List Oper) (s : St), opers C K f ops (l ++ m) s = (opers C K f ops l s).bind (opers C K f ops m)
  | [], m, s => rfl
  | o :: l, m, s => by
    simp only [List.cons_append, opers]
    split
    · split
      · exact opers_append l m _
      · rfl
    · exact opers_append l m _
    · rfl
theorem T_ch (n : Nat) (h : opers C K f ops (l.take n) s = some s1) (k : WO C K f ops (l.drop n) s1 R) : WO C K f ops l s R := by
  obtain ⟨s2, h1, h2⟩ := k
  refine ⟨s2, ?_, h2⟩
  conv => lhs; rw [← List.take_append_drop n l]
  rw [opers_append, h]
  exact h1
theorem G_split {s0 : St} {d : Option Tmp} {b : Bool} (h : oper C K f o s = some (s0.putv d (.bool b))) (ht : b = true → WO C K f ops l (s0.putv d (.bool true)) R) (hf : b = false → WO C K f ops l (s0.putv d (.bool false)) R) : WG C K f ops o l s R := by
  cases b
  · exact ⟨_, h, hf rfl⟩
  · exact ⟨_, h, ht rfl⟩
theorem G_true {s0 : St} {d : Option Tmp} {b : Bool} (h : oper C K f o s = some (s0.putv d (.bool b))) (hb : b = true) (k : WO C K f ops l (s0.putv d (.bool true)) R) : WG C K f ops o l s R := by
  subst hb; exact ⟨_, h, k⟩
theorem G_false {s0 : St} {d : Option Tmp} {b : Bool} (h : oper C K f o s = some (s0.putv d (.bool b))) (hb : b = false) (k : WO C K f ops l (s0.putv d (.bool false)) R) : WG C K f ops o l s R := by
  subst hb; exact ⟨_, h, k⟩

structure WD (C : Cfg) (K : Callee) (f : Nat) (ops : Array Oper) (bs : List Nat) (l : List Oper) (i : Nat) (s : St) (Q : St → Prop) : Prop where
  out : ∃ s2, opersD C K f ops (bs) l i s = some s2 ∧ Q s2
structure WH (C : Cfg) (K : Callee) (f : Nat) (ops : Array Oper) (bs : List Nat) (o : Oper) (l : List Oper) (i : Nat) (s : St) (Q : St → Prop) : Prop where
  out : ∃ s1, (if alone (bs) ops.size i then oper C K f o s else stepD C K f ops o s) = some s1 ∧ WD C K f ops bs l (i + 1) s1 Q
variable {bs : List Nat}
theorem W_dops {id : Nat} (hbs : befs ops = bs) (h : WD C K f ops bs ops.toList 0 s (Q .normal)) : W C K f fuel (.region id ops true) s Q := by
  obtain ⟨s2, h1, h2⟩ := h
  subst hbs
  exact W_draw h1 h2
theorem U_nil {i : Nat} (h : R s) : WD C K f ops bs [] i s R := ⟨s, rfl, h⟩
theorem U_go {i : Nat} (hg : guardOn ops o s = some true) (k : WH C K f ops bs o l i s R) : WD C K f ops bs (o :: l) i s R := by
  obtain ⟨s1, h, s2, h1, h2⟩ := k
  refine ⟨s2, ?_, h2⟩
  simp only [opersD, hg, h, h1]
theorem U_skip {i : Nat} (hg : guardOn ops o s = some false) (k : WD C K f ops bs l (i + 1) (s.putv o.dst (.tup [])) R) : WD C K f ops bs (o :: l) i s R := by
  obtain ⟨s2, h1, h2⟩ := k
  exact ⟨s2, D_skip hg h1, h2⟩
theorem U_onT {i : Nat} {b : Bool} (hg : guardOn ops o s = some (b == true)) (hb : b = true) (k : WH C K f ops bs o l i s R) : WD C K f ops bs (o :: l) i s R := by
  subst hb; exact U_go hg k
theorem U_onF {i : Nat} {b : Bool} (hg : guardOn ops o s = some (b == false)) (hb : b = false) (k : WH C K f ops bs o l i s R) : WD C K f ops bs (o :: l) i s R := by
  subst hb; exact U_go hg k
theorem U_offT {i : Nat} {b : Bool} (hg : guardOn ops o s = some (b == true)) (hb : b = false) (k : WD C K f ops bs l (i + 1) (s.putv o.dst (.tup [])) R) : WD C K f ops bs (o :: l) i s R := by
  subst hb; exact U_skip hg k
theorem U_offF {i : Nat} {b : Bool} (hg : guardOn ops o s = some (b == false)) (hb : b = true) (k : WD C K f ops bs l (i + 1) (s.putv o.dst (.tup [])) R) : WD C K f ops bs (o :: l) i s R := by
  subst hb; exact U_skip hg k
theorem U_caseT {i : Nat} {b : Bool} (hg : guardOn ops o s = some (b == true)) (hon : b = true → WH C K f ops bs o l i s R) (hoff : b = false → WD C K f ops bs l (i + 1) (s.putv o.dst (.tup [])) R) : WD C K f ops bs (o :: l) i s R := by
  cases b
  · exact U_skip hg (hoff rfl)
  · exact U_go hg (hon rfl)
theorem U_caseF {i : Nat} {b : Bool} (hg : guardOn ops o s = some (b == false)) (hon : b = false → WH C K f ops bs o l i s R) (hoff : b = true → WD C K f ops bs l (i + 1) (s.putv o.dst (.tup [])) R) : WD C K f ops bs (o :: l) i s R := by
  cases b
  · exact U_go hg (hon rfl)
  · exact U_skip hg (hoff rfl)
theorem H_op {i : Nat} (ha : alone (bs) ops.size i = true) (h : oper C K f o s = some s1) (k : WD C K f ops bs l (i + 1) s1 R) : WH C K f ops bs o l i s R := by
  refine ⟨s1, ?_, k⟩
  rw [ha]; exact h
theorem H_free {i d : Nat} {x : Slot} (ha : alone (bs) ops.size i = false) (hl : isLocal C f o = false)
    (h : oper C K f o { s with env := restr (namesOf ops o) s.env, lo := s.heap.length } = some s1) (hd : o.dst = some d) (hh : s1.heap = s.heap) (hx : look s1.env d = some x)
    (k : WD C K f ops bs l (i + 1) { s with env := (d, x) :: s.env } R) : WH C K f ops bs o l i s R := by
  have hs : stepD C K f ops o s = some { s with env := (d, x) :: s.env } := by
    unfold stepD
    rw [hl]
    simp only [Bool.false_eq_true, if_false, h, hd, hx, hh, List.drop_length, List.append_nil]
  exact ⟨_, by rw [ha]; exact hs, k⟩
theorem H_make {i d : Nat} {x : Slot} {more : Heap} (ha : alone (bs) ops.size i = false) (hl : isLocal C f o = false)
    (h : oper C K f o { s with env := restr (namesOf ops o) s.env, lo := s.heap.length } = some s1) (hd : o.dst = some d) (hh : s1.heap = s.heap ++ more) (hx : look s1.env d = some x)
    (k : WD C K f ops bs l (i + 1) { s with env := (d, x) :: s.env, heap := s.heap ++ more } R) : WH C K f ops bs o l i s R := by
  have hs : stepD C K f ops o s = some { s with env := (d, x) :: s.env, heap := s.heap ++ more } := by
    unfold stepD
    rw [hl]
    simp only [Bool.false_eq_true, if_false, h, hd, hx, hh, List.drop_left]
  exact ⟨_, by rw [ha]; exact hs, k⟩

theorem H_split {i : Nat} {s0 : St} {d : Option Tmp} {b : Bool} (ha : alone (bs) ops.size i = true) (h : oper C K f o s = some (s0.putv d (.bool b))) (ht : b = true → WD C K f ops bs l (i + 1) (s0.putv d (.bool true)) R) (hf : b = false → WD C K f ops bs l (i + 1) (s0.putv d (.bool false)) R) : WH C K f ops bs o l i s R := by
  cases b
  · exact H_op ha h (hf rfl)
  · exact H_op ha h (ht rfl)
theorem H_true {i : Nat} {s0 : St} {d : Option Tmp} {b : Bool} (ha : alone (bs) ops.size i = true) (h : oper C K f o s = some (s0.putv d (.bool b))) (hb : b = true) (k : WD C K f ops bs l (i + 1) (s0.putv d (.bool true)) R) : WH C K f ops bs o l i s R := by
  subst hb; exact H_op ha h k
theorem H_false {i : Nat} {s0 : St} {d : Option Tmp} {b : Bool} (ha : alone (bs) ops.size i = true) (h : oper C K f o s = some (s0.putv d (.bool b))) (hb : b = false) (k : WD C K f ops bs l (i + 1) (s0.putv d (.bool false)) R) : WH C K f ops bs o l i s R := by
  subst hb; exact H_op ha h k
theorem F_split {i d : Nat} {s0 : St} {d' : Option Tmp} {b : Bool} (ha : alone (bs) ops.size i = false) (hl : isLocal C f o = false)
    (h : oper C K f o { s with env := restr (namesOf ops o) s.env, lo := s.heap.length } = some (s0.putv d' (.bool b))) (hd : o.dst = some d) (hd' : d' = some d) (hh : s0.heap = s.heap)
    (ht : b = true → WD C K f ops bs l (i + 1) { s with env := (d, .v (.bool true)) :: s.env } R) (hf : b = false → WD C K f ops bs l (i + 1) { s with env := (d, .v (.bool false)) :: s.env } R) : WH C K f ops bs o l i s R := by
  subst hd'
  refine H_free ha hl h hd hh (x := .v (.bool b)) ?_ ?_
  · show look ((d, _) :: s0.env) d = _
    rw [look_cons, if_pos rfl]
  · cases b
    · exact hf rfl
    · exact ht rfl
theorem F_true {i d : Nat} {s0 : St} {d' : Option Tmp} {b : Bool} (ha : alone (bs) ops.size i = false) (hl : isLocal C f o = false)
    (h : oper C K f o { s with env := restr (namesOf ops o) s.env, lo := s.heap.length } = some (s0.putv d' (.bool b))) (hd : o.dst = some d) (hd' : d' = some d) (hh : s0.heap = s.heap) (hb : b = true)
    (k : WD C K f ops bs l (i + 1) { s with env := (d, .v (.bool true)) :: s.env } R) : WH C K f ops bs o l i s R :=
  F_split ha hl h hd hd' hh (fun _ => k) (fun e => by rw [hb] at e; cases e)
theorem F_false {i d : Nat} {s0 : St} {d' : Option Tmp} {b : Bool} (ha : alone (bs) ops.size i = false) (hl : isLocal C f o = false)
    (h : oper C K f o { s with env := restr (namesOf ops o) s.env, lo := s.heap.length } = some (s0.putv d' (.bool b))) (hd : o.dst = some d) (hd' : d' = some d) (hh : s0.heap = s.heap) (hb : b = false)
    (k : WD C K f ops bs l (i + 1) { s with env := (d, .v (.bool false)) :: s.env } R) : WH C K f ops bs o l i s R :=
  F_split ha hl h hd hd' hh (fun e => by rw [hb] at e; cases e) (fun _ => k)

/-! ### More operations -/
/-- A byte of a string. -/
theorem O_byte {t : Nat} {x i : Operand} {b : ByteArray} {sz by_ : Nat} {zr : List AV} {j : Int} {k : IntKind} {c : UInt8} (ho : o.op = .index t x i) (ht : look C.tab t = some ⟨.str, sz, by_, zr⟩) (hx : s.val x = some (.str b)) (hi : s.val i = some (.int k j))
    (hr : 0 ≤ j ∧ b[j.toNat]? = some c) : oper C K f o s = some (s.putv o.dst (.int .u8 c.toNat)) := by
  unfold oper
  rw [ho]
  dsimp only
  rw [ht, hx, hi]
  dsimp only
  rw [if_pos hr.1, hr.2]
  rfl
/-- A cell behind a pointer into an object that was put into the heap last. -/
theorem O_loadS {t T id n off : Nat} {ti : TI} {x : Operand} {xs : List AV} {a : AV} {h : Heap} (ho : o.op = .load t x) (ht : look C.tab t = some ti) (hx : s.slot x = some (.v (.hp id n off))) (hh : s.heap = h.set id (.cells T xs)) (hid : id < h.length) (hn : n = xs.length)
    (hp : part ti xs off = some a) : oper C K f o s = some (s.putv o.dst a) :=
  O_loadH ho ht hx (by rw [hh, List.getElem?_set_self hid]) hn hp
theorem O_storeS {t T id n off : Nat} {ti : TI} {x y : Operand} {xs ys : List AV} {h : Heap} (ho : o.op = .store t x y) (ht : look C.tab t = some ti) (hx : s.slot x = some (.v (.hp id n off))) (hy : (s.val y).bind cellsOf = some ys) (hh : s.heap = h.set id (.cells T xs)) (hid : id < h.length)
    (hlo : s.lo ≤ id) (hc : n = xs.length ∧ ys.length = ti.sz ∧ off + ti.sz ≤ xs.length) {zs : List AV} (hz : setCells xs off ys = zs) : oper C K f o s = some (({ s with heap := h.set id (.cells T zs) } : St).putv o.dst (.tup [])) := by
  rw [O_storeH ho ht hx hy (by rw [hh, List.getElem?_set_self hid]) ⟨hlo, hc⟩, hh, List.set_set, hz]
theorem set_last (h : Heap) (o : HObj) : h ++ [o] = (h ++ [HObj.dead]).set h.length o := by simp

/-- A round of a range over a function: where the loop stands. -/
theorem W_range {g : Operand} {ps : Array Nat} {asg body : Code} {h : FuncId} {caps : List AV} {a : AV} {heap' : Heap} {r : LoopA} (hg : s.val g = some (.fn (.func h) caps)) (hr : s.inRound = false) (hlo : s.lo ≤ s.heap.length)
    (hK : K s.lo (.func h) ([.fn (.yield s.heap.length) []] ++ caps) (s.heap ++ [.loop { fn := f, env := s.env.map fun x => (x.1, match x.2 with | .v a => Slot.v a | _ => Slot.junk), params := ps.toList, assign := asg, body := body, st := 0, pending := none }]) = some (a, heap'))
    (hl : heap'[s.heap.length]? = some (.loop r)) (hst : r.st ≠ 1)
    (k : match r.pending with | none => Q .normal { s with heap := heap'.set s.heap.length .dead } | some .ret => Q .ret { s with heap := heap'.set s.heap.length .dead } | some (.exit i) => Q (.exit i) { s with heap := heap'.set s.heap.length .dead } | _ => False) :
    W C K f fuel (.rangeFunc g ps asg body) s Q := by
  have base : exec C K f fuel (.rangeFunc g ps asg body) s = (match (some (HObj.loop r) : Option HObj) with
        | some (.loop r) => if r.st = 1 then none else match r.pending with
          | none => some (.normal, { s with heap := heap'.set s.heap.length .dead })
          | some .ret => some (.ret, { s with heap := heap'.set s.heap.length .dead })
          | some (.exit id) => some (.exit id, { s with heap := heap'.set s.heap.length .dead })
          | _ => none
        | _ => none) := by
    rw [← hl]
    unfold exec
    rw [hg, hr]
    dsimp only
    rw [if_pos hlo]
    generalize hz : K _ _ _ _ = z
    have hz' : z = some (a, heap') := hz.symm.trans hK
    subst hz'
    rfl
  dsimp only at base
  rw [if_neg hst] at base
  cases hp : r.pending with
  | none => rw [hp] at k base; exact ⟨_, _, base, k⟩
  | some c =>
    rw [hp] at k base
    cases c <;> first | exact k.elim | exact ⟨_, _, base, k⟩

/-- What a round of a range over a function hands back to the one who yields. -/
def yieldQ (l : Nat) (out : AV × Heap) : Ex → St → Prop
  | .normal, s => ∃ r', s.heap[l]? = some (.loop r') ∧ out = (.bool true, s.heap.set l (.loop { r' with st := 0, pending := none }))
  | .ret, s => ∃ r', s.heap[l]? = some (.loop r') ∧ out = (.bool false, s.heap.set l (.loop { r' with st := 2, pending := some .ret }))
  | .exit i, s => ∃ r', s.heap[l]? = some (.loop r') ∧ out = (.bool false, s.heap.set l (.loop { r' with st := 2, pending := some (.exit i) }))
theorem W_yield {k lo l : Nat} {r : LoopA} {args : List AV} {h : Heap} {out : AV × Heap} (hl : h[l]? = some (.loop r)) (hlo : lo ≤ l) (hst : r.st = 0) (hn : args.length = r.params.length)
    (ha : W C (call P C k) r.fn k r.assign { env := setParams r.env r.params args, loc := [], heap := h, inRound := true, lo := lo }
      (wThen (fun s => ∃ r1, s.heap[l]? = some (.loop r1) ∧ r1.st = 0 ∧ W C (call P C k) r.fn k r.body { s with heap := s.heap.set l (.loop { r1 with st := 1 }) } (yieldQ l out)) (fun _ _ => False))) :
    call P C (k + 1) lo (.yield l) args h = some out := by
  obtain ⟨e, s, h1, h2⟩ := ha
  cases e with
  | normal =>
    obtain ⟨r1, g1, g2, e', s', g3, g4⟩ := h2
    simp only [call, hl, if_pos (show lo ≤ l ∧ r.st = 0 ∧ args.length = r.params.length from ⟨hlo, hst, hn⟩), h1, g1, if_pos g2, g3]
    cases e' with
    | normal => obtain ⟨r', g5, g6⟩ := g4; simp only [g5, g6]
    | ret => obtain ⟨r', g5, g6⟩ := g4; simp only [g5, g6]
    | exit i => obtain ⟨r', g5, g6⟩ := g4; simp only [g5, g6]
  | exit i => exact h2.elim
  | ret => exact h2.elim

/-- A map of strings. -/
def namesM (l : List ByteArray) : List (AV × AV) := l.map fun n => (.str n, .bool true)
theorem mapFind_names (x : ByteArray) : ∀ l : List ByteArray, mapFind .str (namesM l) (.str x) = some (if l.contains x then some (.bool true) else none)
  | [] => by simp [namesM, mapFind]
  | a :: l => by
    have := mapFind_names x l
    simp only [namesM] at this
    simp only [namesM, List.map_cons, mapFind, keyEq, List.contains_cons]
    cases h : (x == a) <;> simp [this]
theorem mapPut_names (x : ByteArray) : ∀ l : List ByteArray, l.contains x = false → mapPut .str (namesM l) (.str x) (.bool true) = some (namesM (l ++ [x]))
  | [], _ => by simp [namesM, mapPut]
  | a :: l, h => by
    simp only [List.contains_cons, Bool.or_eq_false_iff] at h
    have := mapPut_names x l h.2
    simp only [namesM] at this
    simp only [namesM, List.map_cons, mapPut, keyEq, h.1, this, Option.map_some, List.cons_append, List.map_append]
theorem O_lookS {t kt e id sz by_ : Nat} {zr : List AV} {m k : Operand} {x : ByteArray} {l : List ByteArray} (ho : o.op = .lookup t m k false) (ht : look C.tab t = some ⟨.map kt e, sz, by_, zr⟩) (hk : ∃ a b c, look C.tab kt = some ⟨.str, a, b, c⟩) {ti : TI} (he : look C.tab e = some ti)
    (hz : part ti ti.zero 0 = some (.bool false)) (hm : s.val m = some (.mp id)) (hx : s.val k = some (.str x)) (hH : s.heap[id]? = some (.map (namesM l))) : oper C K f o s = some (s.putv o.dst (.bool (l.contains x))) := by
  obtain ⟨a, b, c, hk⟩ := hk
  unfold oper
  rw [ho]
  dsimp only
  rw [ht, hm, hx]
  dsimp only
  rw [hH, he]
  simp only [keyKind, hk, mapFind_names]
  cases l.contains x <;> simp [hz]
theorem O_putS {t kt e id sz by_ : Nat} {zr : List AV} {m k v : Operand} {x : ByteArray} {l : List ByteArray} (ho : o.op = .mapUpdate t m k v) (ht : look C.tab t = some ⟨.map kt e, sz, by_, zr⟩) (hk : ∃ a b c, look C.tab kt = some ⟨.str, a, b, c⟩)
    (hm : s.val m = some (.mp id)) (hx : s.val k = some (.str x)) (hv : s.val v = some (.bool true)) (hH : s.heap[id]? = some (.map (namesM l))) (hlo : s.lo ≤ id) (hn : l.contains x = false) :
    oper C K f o s = some (({ s with heap := s.heap.set id (.map (namesM (l ++ [x]))) } : St).putv o.dst (.tup [])) := by
  obtain ⟨a, b, c, hk⟩ := hk
  unfold oper
  rw [ho]
  dsimp only
  rw [hm, hx, hv, ht]
  dsimp only
  rw [hH]
  simp only [keyKind, hk, if_pos hlo, mapPut_names x l hn, Option.map_some]

theorem O_lookSS {t kt e id sz by_ : Nat} {zr : List AV} {m k : Operand} {x : ByteArray} {l : List ByteArray} {h : Heap} (ho : o.op = .lookup t m k false) (ht : look C.tab t = some ⟨.map kt e, sz, by_, zr⟩) (hk : ∃ a b c, look C.tab kt = some ⟨.str, a, b, c⟩) {ti : TI} (he : look C.tab e = some ti)
    (hz : part ti ti.zero 0 = some (.bool false)) (hm : s.val m = some (.mp id)) (hx : s.val k = some (.str x)) (hh : s.heap = h.set id (.map (namesM l))) (hid : id < h.length) : oper C K f o s = some (s.putv o.dst (.bool (l.contains x))) :=
  O_lookS ho ht hk he hz hm hx (by rw [hh, List.getElem?_set_self hid])
theorem O_putSS {t kt e id sz by_ : Nat} {zr : List AV} {m k v : Operand} {x : ByteArray} {l : List ByteArray} {h : Heap} (ho : o.op = .mapUpdate t m k v) (ht : look C.tab t = some ⟨.map kt e, sz, by_, zr⟩) (hk : ∃ a b c, look C.tab kt = some ⟨.str, a, b, c⟩)
    (hm : s.val m = some (.mp id)) (hx : s.val k = some (.str x)) (hv : s.val v = some (.bool true)) (hh : s.heap = h.set id (.map (namesM l))) (hid : id < h.length) (hlo : s.lo ≤ id) (hn : l.contains x = false) :
    oper C K f o s = some (({ s with heap := h.set id (.map (namesM (l ++ [x]))) } : St).putv o.dst (.tup [])) := by
  rw [O_putS ho ht hk hm hx hv (by rw [hh, List.getElem?_set_self hid]) hlo hn, hh, List.set_set]

theorem O_shl {t u : Nat} {x y : Operand} {k k' : IntKind} {a b : Int} (ho : o.op = .binOp .shl t x y u) (hx : s.val x = some (.int k a)) (hy : s.val y = some (.int k' b)) (hb : 0 ≤ b) : oper C K f o s = some (s.putv o.dst (.int k (k.wrap (a * 2 ^ (min b.toNat k.bits))))) := by
  unfold oper
  rw [ho]
  dsimp only
  rw [hx, hy]
  dsimp only
  have : binop C.tab C.eqs .shl t (.int k a) (.int k' b) = some (.int k (k.wrap (a * 2 ^ (min b.toNat k.bits)))) := by
    show shiftOp .shl k a b = _
    unfold shiftOp
    rw [if_neg (by omega)]
  rw [this]
  rfl

end Go.Ev
