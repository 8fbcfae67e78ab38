/- Values built out of parts. -/
import Derived.Test.YtelobnllkhnpaaaEvBin2
namespace Go.Ev
set_option linter.unusedVariables false
set_option linter.unusedSimpArgs false

variable {P : Program} {Γ : Ctx} {w : World} {t : Nat} {ti : TI} {T : Tab} {base : Nat}

/-- Cells, one by one. -/
def RelC (Γ : Ctx) (xs : List AV) (cs : Array Value) : Prop :=
  cs.size = xs.length ∧ (∀ x, x ∈ xs → oneCell x = true) ∧ ∀ (i : Nat) (x : AV), xs[i]? = some x → RelV Γ x (cs.getD i undef)

theorem RelC.agg {xs : List AV} {cs : Array Value} (h : RelC Γ xs cs) : RelV Γ (.agg xs) (.agg cs) := .agg h.1 h.2.1 h.2.2
theorem RelC.of_agg {xs : List AV} {cs : Array Value} (h : RelV Γ (.agg xs) (.agg cs)) : RelC Γ xs cs := by
  cases h with
  | agg a b c => exact ⟨a, b, c⟩

theorem RelC.of_zero {cs : Array Value} {xs : List AV} (h : cs.toList.mapM simpleV = some xs) : RelC Γ xs cs := by
  obtain ⟨h3, h4, _, h6⟩ := mapM_simple (Γ := Γ) h
  refine ⟨by simpa using h3.symm, h4, fun i x hx => ?_⟩
  obtain ⟨v, hv, hr⟩ := h6 i x hx
  have : cs.getD i undef = v := by rw [Array.getD_eq_getD_getElem?, ← Array.getElem?_toList, hv]; rfl
  rw [this]; exact hr

theorem foldl_set (off : Nat) : ∀ (l : List Value) (k : Nat) (cs : Array Value), off + k + l.length ≤ cs.size →
    ((l.zipIdx k).foldl (fun cs (c, j) => cs.setIfInBounds (off + j) c) cs).toList = cs.toList.take (off + k) ++ l ++ cs.toList.drop (off + k + l.length)
  | [], k, cs, h => by simp
  | v :: l, k, cs, h => by
    simp only [List.zipIdx_cons, List.foldl_cons]
    simp only [List.length_cons] at h
    rw [foldl_set off l (k + 1) _ (by simp; omega)]
    have hlt : off + k < cs.toList.length := by simp; omega
    rw [Array.toList_setIfInBounds]
    have e1 : (cs.toList.set (off + k) v).take (off + (k + 1)) = cs.toList.take (off + k) ++ [v] := by
      rw [show off + (k + 1) = off + k + 1 by omega, List.take_set, List.take_add_one, List.getElem?_eq_getElem hlt]
      rw [List.set_append_right _ _ (by simp; omega)]
      have e0 : off + k - (List.take (off + k) cs.toList).length = 0 := by
        rw [List.length_take, Nat.min_eq_left (Nat.le_of_lt hlt)]; omega
      rw [e0]; rfl
    have e2 : (cs.toList.set (off + k) v).drop (off + (k + 1) + l.length) = cs.toList.drop (off + k + (v :: l).length) := by
      rw [List.drop_set_of_lt (by omega)]
      congr 1; simp; omega
    rw [e1, e2]
    simp

theorem fill_sound {placeA place : Nat → Option (Nat × Nat)} (hp : ∀ i p, placeA i = some p → place i = some p) : ∀ (l : List (Nat × AV)) (m : List (Nat × Value)) (xs ys : List AV) (cs : Array Value),
    fillA xs placeA l = some ys → l.map (·.1) = m.map (·.1) → RelVs Γ (l.map (·.2)) (m.map (·.2)) → RelC Γ xs cs → ∃ ds, Instr.fill place cs m = some ds ∧ RelC Γ ys ds
  | [], [], xs, ys, cs, h, _, _, hc => by
    injection h with h; subst h
    exact ⟨cs, rfl, hc⟩
  | [], _ :: _, _, _, _, _, h, _, _ => by simp at h
  | _ :: _, [], _, _, _, _, h, _, _ => by simp at h
  | (i, v) :: l, (j, x) :: m, xs, ys, cs, h, he, hr, hc => by
    simp only [List.map_cons, List.cons.injEq] at he
    obtain ⟨rfl, he⟩ := he
    cases hr with
    | cons hv hr =>
      simp only [fillA] at h
      split at h
      · rename_i off sz hpl
        split at h
        · rename_i zs hz
          split at h
          · rename_i hle
            obtain ⟨c1, c2, c3⟩ := cells_rel hv hz
            have hlt : off + zs.length ≤ xs.length := by omega
            simp only [Instr.fill, hp _ _ hpl]
            have hn : ¬ ((x.cells.size ≠ sz || off + x.cells.size > cs.size) = true) := by
              have h5 := hc.1; simp only [c1]; simp; omega
            rw [if_neg hn]
            have hl : x.cells.toList.length = zs.length := by simpa using c1
            have e : (x.cells.zipIdx.foldl (fun cs (c, j) => cs.setIfInBounds (off + j) c) cs) = (cs.toList.take off ++ x.cells.toList ++ cs.toList.drop (off + zs.length)).toArray := by
              apply Array.ext'
              rw [← Array.foldl_toList, Array.toList_zipIdx, foldl_set off x.cells.toList 0 cs (by have := hc.1; omega)]
              simp [hl]
            rw [e]
            refine fill_sound hp l m _ ys _ h he hr ⟨?_, fun y hy => ?_, fun i y hy => ?_⟩
            · rw [setCells_length _ _ _ hlt]; have := hc.1; simp [c1]; omega
            · rcases setCells_mem hy with hy | hy
              · exact hc.2.1 y hy
              · exact c2 y hy
            · exact splice_rel hv hz hlt (by have := hc.1; omega) hc.2.2 i y hy
          · cases h
        · cases h
      · cases h

theorem fillA_length {place : Nat → Option (Nat × Nat)} : ∀ {l : List (Nat × AV)} {xs ys : List AV}, fillA xs place l = some ys → ys.length = xs.length
  | [], xs, ys, h => by injection h with h; subst h; rfl
  | (i, v) :: l, xs, ys, h => by
    simp only [fillA] at h
    split at h
    · split at h
      · split at h
        · rename_i hle
          rw [fillA_length h, setCells_length _ _ _ (by omega)]
        · cases h
      · cases h
    · cases h

theorem replicate_get {α : Type} (l : List α) (hl : 0 < l.length) : ∀ (n i : Nat), i < n * l.length → ((List.replicate n l).flatten)[i]? = l[i % l.length]?
  | 0, i, h => by omega
  | n + 1, i, h => by
    rw [List.replicate_succ, List.flatten_cons]
    rw [Nat.succ_mul] at h
    rcases Nat.lt_or_ge i l.length with h1 | h1
    · rw [List.getElem?_append_left h1, Nat.mod_eq_of_lt h1]
    · rw [List.getElem?_append_right h1, replicate_get l hl n (i - l.length) (by omega)]
      rw [Nat.mod_eq_sub_mod h1]

theorem flatten_replicate_length {α : Type} (l : List α) (n : Nat) : ((List.replicate n l).flatten).length = n * l.length := by simp

theorem RelC.rep {xs : List AV} {cs : Array Value} (h : RelC Γ xs cs) (h0 : 0 < xs.length) (n : Nat) : RelC Γ (List.replicate n xs).flatten ((Array.range (n * xs.length)).map (cs[· % cs.size]!)) := by
  refine ⟨by simp, fun x hx => ?_, fun i x hx => ?_⟩
  · obtain ⟨l, hl, hx⟩ := List.mem_flatten.1 hx
    rw [(List.mem_replicate.1 hl).2] at hx
    exact h.2.1 x hx
  · have hi : i < n * xs.length := by
      rcases Nat.lt_or_ge i (n * xs.length) with h' | h'
      · exact h'
      · rw [List.getElem?_eq_none (by simpa using h')] at hx; cases hx
    rw [replicate_get xs h0 n i hi] at hx
    have := h.2.2 _ x hx
    have hs := h.1
    have hm : i % cs.size < cs.size := Nat.mod_lt _ (by omega)
    have e : (Array.map (fun x => cs[x % cs.size]!) (Array.range (n * xs.length))).getD i undef = cs.getD (i % xs.length) undef := by
      rw [Array.getD_eq_getD_getElem?, Array.getElem?_map, Array.getElem?_range, if_pos hi]
      rw [← hs]
      simp [Array.getD_eq_getD_getElem?, hm]
    rw [e]; exact this

end Go.Ev
