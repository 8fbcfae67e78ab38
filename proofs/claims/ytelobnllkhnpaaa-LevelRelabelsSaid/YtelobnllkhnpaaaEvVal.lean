/- Operands, cells loaded and stored. -/
import Derived.Test.YtelobnllkhnpaaaEvTab
namespace Go.Ev
set_option linter.unusedVariables false
set_option linter.unusedSimpArgs false

inductive RelVs (Γ : Ctx) : List AV → List Value → Prop
  | nil : RelVs Γ [] []
  | cons {a : AV} {v : Value} {l : List AV} {m : List Value} (h : RelV Γ a v) (t : RelVs Γ l m) : RelVs Γ (a :: l) (v :: m)

theorem RelVs.len {Γ : Ctx} {l : List AV} {m : List Value} (h : RelVs Γ l m) : m.length = l.length := by
  induction h with
  | nil => rfl
  | cons _ _ ih => simp [ih]
theorem RelVs.get {Γ : Ctx} {l : List AV} {m : List Value} (h : RelVs Γ l m) : ∀ (i : Nat) (x : AV), l[i]? = some x → ∃ v, m[i]? = some v ∧ RelV Γ x v := by
  induction h with
  | nil => intro i x hx; simp at hx
  | cons h _ ih =>
    intro i x hx
    cases i with
    | zero => simp at hx; subst hx; exact ⟨_, rfl, h⟩
    | succ i => simp at hx; simpa using ih i x hx
theorem RelVs.append {Γ : Ctx} {l l' : List AV} {m m' : List Value} (h : RelVs Γ l m) (h' : RelVs Γ l' m') : RelVs Γ (l ++ l') (m ++ m') := by
  induction h with
  | nil => exact h'
  | cons h _ ih => exact .cons h ih
theorem RelVs.ext {lo base : Nat} {B : Nat → Prop} {Γ Γ' : Ctx} {l : List AV} {m : List Value} (h : RelVs Γ l m) (e : Ext lo B Γ Γ') (I : Inv base Γ) (hB : ∀ b, Γ.S b → ¬ B b) : RelVs Γ' l m := by
  induction h with
  | nil => exact .nil
  | cons h _ ih => exact .cons (h.ext e I hB) ih
theorem RelVs.of_array {Γ : Ctx} : ∀ {l : List AV} {m : List Value}, m.length = l.length → (∀ (i : Nat) (x : AV), l[i]? = some x → RelV Γ x (m.getD i undef)) → RelVs Γ l m
  | [], [], _, _ => .nil
  | a :: l, v :: m, hn, h => .cons (by simpa using h 0 a rfl) (RelVs.of_array (by simpa using hn) fun i x hx => by simpa using h (i + 1) x (by simpa using hx))
  | [], _ :: _, hn, _ => by simp at hn
  | _ :: _, [], hn, _ => by simp at hn

theorem add_add (a : Addr) (m n : Nat) : (a.add m).add n = a.add (m + n) := by
  unfold Addr.add
  by_cases hm : m = 0 <;> by_cases hn : n = 0 <;> simp [hm, hn, Nat.add_assoc]

variable {P : Program} {Γ : Ctx} {w : World} {t : Nat} {ti : TI} {base n0 : Nat} {β : Nat → Nat} {s : St} {a : Act}

theorem RelS.slot (R : RelS base n0 Γ β s a) {x : Operand} {sl : Slot} (h : s.slot x = some sl) : RelX Γ β sl (a.eval x) := by
  cases x with
  | tmp t => exact (R.env t sl h).2
  | const v =>
    simp only [St.slot, Option.map_eq_some_iff] at h
    obtain ⟨c, hc, rfl⟩ := h
    exact constV_rel hc
  | global g => cases h
  | func f => injection h with h; subst h; exact .fn rfl (by simp)
theorem RelS.val (R : RelS base n0 Γ β s a) {x : Operand} {v : AV} (h : s.val x = some v) : RelV Γ v (a.eval x) := by
  unfold St.val at h
  split at h
  · rename_i c hs
    injection h with h; subst h
    exact R.slot hs
  · cases h
theorem RelS.vals (R : RelS base n0 Γ β s a) : ∀ {l : List Operand} {vs : List AV}, s.vals l = some vs → RelVs Γ vs (l.map a.eval)
  | [], vs, h => by injection h with h; subst h; exact .nil
  | x :: l, vs, h => by
    simp only [St.vals] at h
    split at h
    · rename_i c hc
      split at h
      · rename_i m hm
        injection h with h; subst h
        exact .cons (R.val hc) (R.vals hm)
      · cases h
    · cases h

theorem cells_rel {v : AV} {x : Value} {ys : List AV} (h : RelV Γ v x) (hc : cellsOf v = some ys) : x.cells.size = ys.length ∧ (∀ y, y ∈ ys → oneCell y = true) ∧ ∀ (i : Nat) (y : AV), ys[i]? = some y → RelV Γ y (x.cells.getD i undef) := by
  have one : ∀ {v : AV} {x : Value}, RelV Γ v x → oneCell v = true → x.cells.size = [v].length ∧ (∀ y, y ∈ [v] → oneCell y = true) ∧ ∀ (i : Nat) (y : AV), [v][i]? = some y → RelV Γ y (x.cells.getD i undef) := by
    intro v x hr h1
    have hx := hr.oneCell h1
    have hcx : x.cells = #[x] := by cases x <;> first | rfl | cases hx
    rw [hcx]
    refine ⟨rfl, by simpa using h1, fun i y hy => ?_⟩
    cases i with
    | zero => simp at hy; subst hy; simpa using hr
    | succ i => simp at hy
  cases v with
  | agg xs =>
    injection hc with hc; subst hc
    cases h with
    | agg hn h1 hrel => exact ⟨hn, h1, hrel⟩
  | tup xs => cases hc
  | _ => injection hc with hc; subst hc; exact one h rfl

theorem cells_one {v : AV} {x : Value} {ys : List AV} (h : RelV Γ v x) (hc : cellsOf v = some ys) : ∀ y, y ∈ x.cells.toList → y.oneCell' = true := by
  obtain ⟨h1, h2, h3⟩ := cells_rel h hc
  intro y hy
  obtain ⟨i, hi, rfl⟩ := List.mem_iff_getElem.1 hy
  have hi' : i < ys.length := by simpa [h1] using hi
  have := (h3 i ys[i] (List.getElem?_eq_getElem hi')).oneCell (h2 _ (List.getElem_mem hi'))
  simpa [Array.getD_eq_getD_getElem?, show i < x.cells.size by simpa using hi] using this

/-- Cells read. -/
theorem load_sound (h : TIOk P t ti) (ad : Addr) (g : Nat → Value) {xs : List AV} (h1 : ∀ x, x ∈ xs → oneCell x = true) (hc : ∀ (j : Nat) (x : AV), xs[j]? = some x → w.cell? (ad.add j) = some (g j) ∧ RelV Γ x (g j))
    (off : Nat) {r : AV} (hp : part ti xs off = some r) : ∃ v, (loadVar t (ad.add off)).run P w = .ok v w ∧ RelV Γ r v := by
  unfold part at hp
  split at hp
  · rename_i hk
    split at hp
    · rename_i hle
      injection hp with hp; subst hp
      have hget : ∀ j, j < ti.sz → ∃ x, xs[off + j]? = some x := fun j hj => ⟨_, List.getElem?_eq_getElem (by omega)⟩
      refine ⟨.agg ((List.range ti.sz).map fun j => g (off + j)).toArray, ?_, ?_⟩
      · unfold loadVar
        simp only [Sem.run_bind, h.run_agg, Result.andThen_ok, hk, if_true, h.run_size]
        rw [run_loadCells w (ad.add off) ti.sz (fun j => g (off + j)) (fun j hj => by
          obtain ⟨x, hx⟩ := hget j hj
          rw [add_add]; exact (hc _ x hx).1)]
        rfl
      · refine .agg (by simp; omega) (fun x hx => h1 x (List.mem_of_mem_drop (List.mem_of_mem_take hx))) fun i x hx => ?_
        have hi : i < ti.sz := by
          rcases Nat.lt_or_ge i ti.sz with h' | h'
          · exact h'
          · rw [List.getElem?_take_eq_none h'] at hx; cases hx
        rw [List.getElem?_take_of_lt hi, List.getElem?_drop] at hx
        have := (hc _ x hx).2
        simpa [Array.getD_eq_getD_getElem?, hi] using this
    · cases hp
  · rename_i hk
    have hx := hc off r hp
    refine ⟨g off, ?_, hx.2⟩
    unfold loadVar
    simp only [Sem.run_bind, h.run_agg, Result.andThen_ok, hk, Bool.false_eq_true, if_false, run_load, hx.1]

theorem setRow_eq {w : World} {b : Nat} {cur arr : Array Value} {T : TypeId} (h : w.heap[b]? = some (.cells cur T (0, 0))) : w.setRow b arr = { w with heap := w.heap.setIfInBounds b (.cells arr T (0, 0)) } := by
  unfold World.setRow
  congr 1
  apply Array.ext_getElem?
  intro i
  by_cases e : b = i
  · subst e
    have hlt : b < w.heap.size := by
      rcases Nat.lt_or_ge b w.heap.size with h' | h'
      · exact h'
      · rw [Array.getElem?_eq_none h'] at h; cases h
    rw [Array.getElem?_modify, if_pos rfl, h, Array.getElem?_setIfInBounds_self_of_lt hlt]
    rfl
  · rw [Array.getElem?_modify, if_neg e, Array.getElem?_setIfInBounds_ne e]

/-- Cells written. -/
theorem store_sound (h : TIOk P t ti) {b off : Nat} {cur : Array Value} {T : TypeId} {v : AV} {x : Value} {ys : List AV} (hg : w.heap[b]? = some (.cells cur T (0, 0))) (hr : RelV Γ v x) (hc : cellsOf v = some ys)
    (hsz : ys.length = ti.sz) (hfit : off + ti.sz ≤ cur.size) :
    (storeVar t ⟨b, off, none⟩ x).run P w = .ok () { w with heap := w.heap.setIfInBounds b (.cells (cur.toList.take off ++ x.cells.toList ++ cur.toList.drop (off + ys.length)).toArray T (0, 0)) } := by
  obtain ⟨h1, h2, h3⟩ := cells_rel hr hc
  unfold storeVar
  have hne : ¬ x.cells.size ≠ ti.sz := by omega
  simp only [Sem.run_bind, h.run_size, Result.andThen_ok, Sem.run_ite, hne, if_false, Sem.run_pure]
  have hl : x.cells.toList.length = ys.length := by simpa using h1
  have := run_storeCells_at (P := P) b off T x.cells.toList 0 cur w hg (by rw [hl]; omega) (cells_one hr hc)
  rw [Nat.add_zero, hl] at this
  rw [setRow_eq hg] at this
  exact this

theorem setCells_length (xs ys : List AV) (off : Nat) (h : off + ys.length ≤ xs.length) : (setCells xs off ys).length = xs.length := by
  unfold setCells; simp; omega
theorem setCells_mem {xs ys : List AV} {off : Nat} {x : AV} (h : x ∈ setCells xs off ys) : x ∈ xs ∨ x ∈ ys := by
  unfold setCells at h
  simp only [List.mem_append] at h
  rcases h with (h | h) | h
  · exact .inl (List.mem_of_mem_take h)
  · exact .inr h
  · exact .inl (List.mem_of_mem_drop h)
theorem splice_get {α β : Type} {xs ys : List α} {as bs : List β} {off : Nat} (hxy : off + ys.length ≤ xs.length) (hab : xs.length ≤ as.length) (hb : bs.length = ys.length) (i : Nat) (x : α)
    (h : (xs.take off ++ ys ++ xs.drop (off + ys.length))[i]? = some x) :
    (ys[i - off]? = some x ∧ (as.take off ++ bs ++ as.drop (off + ys.length))[i]? = bs[i - off]? ∧ off ≤ i ∧ i - off < bs.length) ∨ (xs[i]? = some x ∧ (as.take off ++ bs ++ as.drop (off + ys.length))[i]? = as[i]?) := by
  have l1 : (xs.take off).length = off := by simp; omega
  have l2 : (as.take off).length = off := by simp; omega
  rcases Nat.lt_or_ge i off with h1 | h1
  · right
    rw [List.append_assoc, List.getElem?_append_left (by omega), List.getElem?_take_of_lt h1] at h
    rw [List.append_assoc, List.getElem?_append_left (by omega), List.getElem?_take_of_lt h1]
    exact ⟨h, rfl⟩
  · rcases Nat.lt_or_ge i (off + ys.length) with h2 | h2
    · left
      rw [List.append_assoc, List.getElem?_append_right (by omega), List.getElem?_append_left (by omega), l1] at h
      rw [List.append_assoc, List.getElem?_append_right (by omega), List.getElem?_append_left (by omega), l2]
      exact ⟨h, rfl, h1, by omega⟩
    · right
      rw [List.append_assoc, List.getElem?_append_right (by omega), List.getElem?_append_right (by omega), l1, List.getElem?_drop] at h
      rw [List.append_assoc, List.getElem?_append_right (by omega), List.getElem?_append_right (by omega), l2, List.getElem?_drop, hb]
      have e : off + ys.length + (i - off - ys.length) = i := by omega
      rw [e] at h ⊢
      exact ⟨h, rfl⟩

theorem splice_rel {v : AV} {x : Value} {ys xs : List AV} {cur : Array Value} {off : Nat} (hr : RelV Γ v x) (hc : cellsOf v = some ys) (hfit : off + ys.length ≤ xs.length) (hcur : xs.length ≤ cur.size)
    (h : ∀ (i : Nat) (y : AV), xs[i]? = some y → RelV Γ y (cur.getD i undef)) (i : Nat) (y : AV) (hy : (setCells xs off ys)[i]? = some y) :
    RelV Γ y ((cur.toList.take off ++ x.cells.toList ++ cur.toList.drop (off + ys.length)).toArray.getD i undef) := by
  obtain ⟨h1, h2, h3⟩ := cells_rel hr hc
  rcases splice_get (as := cur.toList) (bs := x.cells.toList) hfit (by simpa using hcur) (by simpa using h1) i y hy with ⟨a, b, c, d⟩ | ⟨a, b⟩
  · have := h3 _ y a
    rw [Array.getD_eq_getD_getElem?] at this ⊢
    rw [List.getElem?_toArray, b, Array.getElem?_toList]
    exact this
  · have := h i y a
    rw [Array.getD_eq_getD_getElem?] at this ⊢
    rw [List.getElem?_toArray, b, Array.getElem?_toList]
    exact this

end Go.Ev
