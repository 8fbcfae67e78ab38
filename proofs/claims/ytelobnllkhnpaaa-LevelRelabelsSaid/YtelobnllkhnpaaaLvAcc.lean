/- Lists that grow. -/
import Derived.Test.YtelobnllkhnpaaaLvC
open Go Go.Proofs Go.Ev Go.Proofs.Ytelobnllkhnpaaa.E
namespace Go.Proofs.Ytelobnllkhnpaaa.L
set_option linter.unusedVariables false
set_option linter.unusedSimpArgs false
set_option maxRecDepth 100000

theorem O_bin {C : Cfg} {K : Ev.Callee} {f : Nat} {s : St} {o : Oper} {op : BinOp} {t u : Nat} {x y : Operand} {a b r : AV} (ho : o.op = .binOp op t x y u) (hx : s.val x = some a) (hy : s.val y = some b) (hb : Go.Ev.binop C.tab C.eqs op t a b = some r) : oper C K f o s = some (s.putv o.dst r) := by
  unfold oper
  rw [ho]
  dsimp only
  rw [hx, hy]
  dsimp only
  rw [hb]
  rfl

def accA (h : Heap) (sz : Nat) : List (List AV) → AV
  | [] => .nils
  | r :: l => .sl h.length sz 0 (l.length + 1)
def accH (h : Heap) (T : Nat) : List (List AV) → Heap
  | [] => h
  | r :: l => h ++ [.cells T (r :: l).flatten]
def accV (sz : Nat) : List (List AV) → AV
  | [] => .nils
  | r :: l => .vs sz (r :: l)
theorem flat_len {sz : Nat} : ∀ (l : List (List AV)), (∀ r, r ∈ l → r.length = sz) → l.flatten.length = l.length * sz
  | [], _ => by simp
  | r :: l, h => by rw [List.flatten_cons, List.length_append, flat_len l (fun r hr => h r (List.mem_cons_of_mem _ hr)), h r (List.mem_cons_self ..), List.length_cons, Nat.succ_mul]; omega
theorem acc_append {tab : Tab} {lo : Nat} {h : Heap} {t e : Nat} {ti : TI} {sz0 by_ : Nat} {zr : List AV} (ht : Go.Ev.look tab t = some ⟨.slice e, sz0, by_, zr⟩) (he : Go.Ev.look tab e = some ti) (hsz : 0 < ti.sz) (hlo : lo ≤ h.length) (rows more : List (List AV))
    (hr : ∀ r, r ∈ rows → r.length = ti.sz) (hroom : (rows.length + more.length) * ti.bytes ≤ room) (hroom2 : rows.length + more.length ≤ room) :
    append tab lo (accH h e rows) t (accA h ti.sz rows) (.vs ti.sz more) = some (accA h ti.sz (rows ++ more), accH h e (rows ++ more)) := by
  unfold append
  rw [ht]
  dsimp only
  rw [he]
  dsimp only
  have hrow : rowOf (accH h e rows) ti.sz (.vs ti.sz more) = some more.flatten := by simp [rowOf]
  rw [hrow]
  simp only [lenOf]
  cases rows with
  | nil =>
    cases more with
    | nil => simp [accA, accH]
    | cons m ms =>
      simp only [accA, accH, List.nil_append, List.length_cons]
      rw [if_neg (by omega), if_pos ⟨by simpa using hroom, hsz, by simpa using hroom2⟩]
  | cons r l =>
    simp only [accA, accH, List.cons_append]
    have hg : (h ++ [HObj.cells e (r :: l).flatten])[h.length]? = some (.cells e (r :: l).flatten) := by simp
    rw [hg]
    dsimp only
    rw [if_pos ⟨hlo, by trivial, by trivial, by trivial, by rw [flat_len _ hr]; rfl, hsz, by simpa using hroom, by simpa using hroom2⟩]
    simp [Nat.add_right_comm]
theorem chunks_flat {sz : Nat} : ∀ (l : List (List AV)), (∀ r, r ∈ l → r.length = sz) → chunks sz l.length l.flatten = l
  | [], _ => rfl
  | r :: l, h => by
    have hr := h r (List.mem_cons_self ..)
    rw [List.length_cons, chunks, List.flatten_cons, List.take_append_of_le_length (by omega), List.take_of_length_le (by omega), List.drop_append_of_le_length (by omega), List.drop_eq_nil_of_le (by omega), List.nil_append,
      chunks_flat l (fun r hr => h r (List.mem_cons_of_mem _ hr))]
theorem acc_frz {h : Heap} {e sz : Nat} (rows : List (List AV)) (hr : ∀ r, r ∈ rows → r.length = sz ∧ ∀ x, x ∈ r → static x = true) : hand true h (accA h sz rows) (accH h e rows) = some (accV sz rows, h) := by
  cases rows with
  | nil => rfl
  | cons r l =>
    have hlen : ∀ q, q ∈ r :: l → q.length = sz := fun q hq => (hr q hq).1
    have hst : (r :: l).flatten.all static = true := by
      rw [List.all_eq_true]
      intro x hx
      obtain ⟨q, h1, h2⟩ := List.mem_flatten.1 hx
      exact (hr q h1).2 x h2
    have hg : (accH h e (r :: l))[h.length]? = some (.cells e (r :: l).flatten) := by simp [accH]
    have h1 : frz1 (accH h e (r :: l)) h.length (accA h sz (r :: l)) = some (.vs sz (r :: l)) := by
      show frz1 (accH h e (r :: l)) h.length (.sl h.length sz 0 (l.length + 1)) = _
      unfold frz1
      dsimp only
      rw [hg]
      dsimp only
      rw [if_pos ⟨Nat.le_refl _, by rw [flat_len _ hlen]; simp, hst⟩, List.drop_zero]
      rw [show l.length + 1 = (r :: l).length from rfl, chunks_flat _ hlen]
    show (if true then match frz (accH h e (r :: l)) h.length (accA h sz (r :: l)) with | some b => some (b, h) | none => none else _) = _
    have h2 : frz (accH h e (r :: l)) h.length (accA h sz (r :: l)) = some (.vs sz (r :: l)) := h1
    rw [h2]
    rfl

end Go.Proofs.Ytelobnllkhnpaaa.L
