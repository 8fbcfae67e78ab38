/- Objects that nobody writes any more: the values that lead to them become values that bear what they hold. -/
import Derived.Test.YtelobnllkhnpaaaEvOp1
namespace Go.Ev
set_option linter.unusedVariables false
set_option linter.unusedSimpArgs false

variable {base : Nat} {Γ : Ctx} {S : Nat → Prop} {w : World}

theorem chunks_len (sz : Nat) : ∀ (n : Nat) (xs : List AV), (chunks sz n xs).length = n
  | 0, _ => rfl
  | n + 1, xs => by simp [chunks, chunks_len sz n]
theorem chunks_get (sz : Nat) : ∀ (n : Nat) (xs : List AV) (i : Nat) (r : List AV), (chunks sz n xs)[i]? = some r → i < n ∧ r = (xs.drop (i * sz)).take sz
  | 0, xs, i, r, h => by simp [chunks] at h
  | n + 1, xs, 0, r, h => by simp [chunks] at h; subst h; simp
  | n + 1, xs, i + 1, r, h => by
    simp only [chunks, List.getElem?_cons_succ] at h
    obtain ⟨h1, h2⟩ := chunks_get sz n _ i r h
    refine ⟨by omega, ?_⟩
    rw [h2, List.drop_drop, Nat.succ_mul, Nat.add_comm sz]
theorem all_static {xs : List AV} (h : xs.all static = true) {x : AV} (hx : x ∈ xs) : static x = true := List.all_eq_true.1 h x hx

/-- A row of a block that stays. -/
theorem relT_chunks {b T off len sz c : Nat} {fr : Nat × Nat} {arr : Array Value} {xs : List AV} (hw : w.heap[b]? = some (.cells arr T fr)) (hS : S b) (hsz : xs.length ≤ arr.size) (h1 : ∀ x, x ∈ xs → oneCell x = true)
    (hr : ∀ (i : Nat) (x : AV), xs[i]? = some x → RelT S w x (arr.getD i undef)) (hl : off + len * sz = xs.length) (hc : len ≤ c) :
    RelT S w (.vs sz (chunks sz len (xs.drop off))) (.slice (some ⟨b, off, none⟩) len c) := by
  have hlen : ∀ i r, (chunks sz len (xs.drop off))[i]? = some r → r.length = sz ∧ i < len ∧ ∀ j x, r[j]? = some x → j < sz ∧ xs[off + (i * sz + j)]? = some x := fun i r hi => by
    obtain ⟨q1, q2⟩ := chunks_get _ _ _ _ _ hi
    have hle : i * sz + sz ≤ len * sz := by rw [← Nat.succ_mul]; exact Nat.mul_le_mul_right _ q1
    refine ⟨by rw [q2]; simp; omega, q1, fun j x hj => ?_⟩
    have hjl : j < sz := by
      rcases Nat.lt_or_ge j sz with h' | h'
      · exact h'
      · rw [q2, List.getElem?_take_eq_none h'] at hj; cases hj
    rw [q2, List.getElem?_take_of_lt hjl, List.drop_drop, List.getElem?_drop] at hj
    exact ⟨hjl, by rw [← hj]; congr 1; omega⟩
  refine .vs (fun i j => arr.getD (off + (i * sz + j)) undef) (by rw [chunks_len]) hc (fun r hr' => ?_) (fun _ => ⟨_, rfl⟩) (fun ad had i j hi hj => ?_) (fun i j r x hi hj => ?_)
  · obtain ⟨i, hi⟩ := List.mem_iff_getElem?.1 hr'
    obtain ⟨q1, _, q3⟩ := hlen i r hi
    refine ⟨q1, fun x hx => ?_⟩
    obtain ⟨j, hj⟩ := List.mem_iff_getElem?.1 hx
    exact h1 x (List.mem_of_getElem? (q3 j x hj).2)
  · injection had with had; subst had
    rw [add_off]
    have hle : i * sz + sz ≤ len * sz := by rw [← Nat.succ_mul]; exact Nat.mul_le_mul_right _ hi
    have := cell_at (w := w) (j := off + (i * sz + j)) hw (by omega)
    rw [add_zero'] at this
    exact ⟨this, hS⟩
  · exact hr _ x ((hlen i r hi).2.2 j x hj).2

/-- The context behind a call whose own objects are frozen. -/
def Ctx.frz (Γ Γ1 : Ctx) : Ctx := { H := Γ.H, ρ := Γ.ρ, S := fun b => Γ1.S b ∨ ∃ id, Γ.H.length ≤ id ∧ Γ1.ρ id = some b, w := Γ1.w }

variable {Γ1 : Ctx}

theorem frz0_sound (I1 : Inv base Γ1) {a a' : AV} {v : Value} (h : frz0 Γ1.H Γ.H.length a = some a') (hr : RelV Γ1 a v) : RelT (Γ.frz Γ1).S (Γ.frz Γ1).w a' v := by
  unfold frz0 at h
  split at h
  · rename_i id sz off len
    split at h
    · rename_i T xs hx
      split at h
      · rename_i hc
        injection h with h; subst h
        obtain ⟨c1, c2, c3⟩ := hc
        obtain ⟨b, c, arr, T', fr, hb, hv, hle, hh, hsz⟩ := sl_slice hr hx c2
        obtain ⟨arr2, k1, k2, k3, k4⟩ := I1.cells id b T xs hb hx
        rw [k1] at hh
        injection hh with hh; injection hh with e1 _ _; subst e1
        subst hv
        exact relT_chunks k1 (.inr ⟨id, c1, hb⟩) k2 k3 (fun i x hi => ((k4 i x hi).toT (all_static c3 (List.mem_of_getElem? hi))).mono fun b hs => ⟨.inl hs, rfl⟩) c2 hle
      · cases h
    · cases h
  · split at h
    · rename_i hs
      injection h with h; subst h
      exact (hr.toT hs).mono fun b hs => ⟨.inl hs, rfl⟩
    · cases h

theorem frz0_one {h : Heap} {lo : Nat} {a b : AV} (hf : frz0 h lo a = some b) : oneCell b = true := by
  unfold frz0 at hf
  split at hf
  · split at hf
    · split at hf
      · injection hf with hf; subst hf; rfl
      · cases hf
    · cases hf
  · split at hf
    · rename_i hs
      injection hf with hf; subst hf
      cases a <;> first | rfl | (cases hs; done)
    · cases hf

theorem frzL0_sound (I1 : Inv base Γ1) : ∀ {xs ys : List AV}, frzL0 Γ1.H Γ.H.length xs = some ys → ys.length = xs.length ∧ ∀ (i : Nat) (y : AV), ys[i]? = some y → ∃ x, xs[i]? = some x ∧ frz0 Γ1.H Γ.H.length x = some y
  | [], ys, h => by injection h with h; subst h; simp
  | a :: l, ys, h => by
    simp only [frzL0] at h
    split at h
    · rename_i b hb
      split at h
      · rename_i m hm
        injection h with h; subst h
        obtain ⟨h1, h2⟩ := frzL0_sound I1 hm
        refine ⟨by simp [h1], fun i y hi => ?_⟩
        cases i with
        | zero => simp at hi; subst hi; exact ⟨a, rfl, hb⟩
        | succ i => simp at hi; simpa using h2 i y hi
      · cases h
    · cases h

theorem frz1_sound (I1 : Inv base Γ1) {a a' : AV} {v : Value} (h : frz1 Γ1.H Γ.H.length a = some a') (hr : RelV Γ1 a v) : RelT (Γ.frz Γ1).S (Γ.frz Γ1).w a' v := by
  unfold frz1 at h
  split at h
  · rename_i id sz off len
    split at h
    · rename_i T xs hx
      split at h
      · rename_i hc
        refine frz0_sound I1 (a := .sl id sz off len) ?_ hr
        unfold frz0
        dsimp only
        rw [hx]
        dsimp only
        rw [if_pos hc]
        exact h
      · split at h
        · rename_i ys hy
          split at h
          · rename_i hc
            injection h with h; subst h
            obtain ⟨c1, c2⟩ := hc
            obtain ⟨l1, l2⟩ := frzL0_sound I1 hy
            obtain ⟨b, c, arr, T', fr, hb, hv, hle, hh, hsz⟩ := sl_slice hr hx c2
            obtain ⟨arr2, k1, k2, k3, k4⟩ := I1.cells id b T xs hb hx
            rw [k1] at hh
            injection hh with hh; injection hh with e1 _ _; subst e1
            subst hv
            refine relT_chunks k1 (.inr ⟨id, c1, hb⟩) (by rw [l1]; exact k2) (fun y hy' => ?_) (fun i y hi => ?_) (by rw [l1]; exact c2) hle
            · obtain ⟨i, hi⟩ := List.mem_iff_getElem?.1 hy'
              obtain ⟨x, _, q⟩ := l2 i y hi
              exact frz0_one q
            · obtain ⟨x, q1, q2⟩ := l2 i y hi
              exact frz0_sound I1 q2 (k4 i x q1)
          · cases h
        · cases h
    · cases h
  · split at h
    · rename_i hs
      injection h with h; subst h
      exact (hr.toT hs).mono fun b hs => ⟨.inl hs, rfl⟩
    · cases h

theorem frzL_sound (I1 : Inv base Γ1) : ∀ {xs ys : List AV}, frzL Γ1.H Γ.H.length xs = some ys → ys.length = xs.length ∧ ∀ (i : Nat) (y : AV), ys[i]? = some y → ∃ x, xs[i]? = some x ∧ frz1 Γ1.H Γ.H.length x = some y
  | [], ys, h => by injection h with h; subst h; simp
  | a :: l, ys, h => by
    simp only [frzL] at h
    split at h
    · rename_i b hb
      split at h
      · rename_i m hm
        injection h with h; subst h
        obtain ⟨h1, h2⟩ := frzL_sound I1 hm
        refine ⟨by simp [h1], fun i y hi => ?_⟩
        cases i with
        | zero => simp at hi; subst hi; exact ⟨a, rfl, hb⟩
        | succ i => simp at hi; simpa using h2 i y hi
      · cases h
    · cases h

theorem frz1_one {h : Heap} {lo : Nat} {a b : AV} (hf : frz1 h lo a = some b) : oneCell b = true := by
  unfold frz1 at hf
  split at hf
  · split at hf
    · split at hf
      · injection hf with hf; subst hf; rfl
      · split at hf
        · split at hf
          · injection hf with hf; subst hf; rfl
          · cases hf
        · cases hf
    · cases hf
  · split at hf
    · rename_i hs
      injection hf with hf; subst hf
      cases a <;> first | rfl | (cases hs; done)
    · cases hf

theorem frz2_sound (I1 : Inv base Γ1) {a a' : AV} {v : Value} (h : frz2 Γ1.H Γ.H.length a = some a') (hr : RelV Γ1 a v) : RelV (Γ.frz Γ1) a' v := by
  unfold frz2 at h
  split at h
  · rename_i xs
    split at h
    · rename_i ys hy
      injection h with h; subst h
      obtain ⟨h1, h2⟩ := frzL_sound I1 hy
      cases hr with
      | agg hn ho hrel =>
        refine .agg (by rw [h1]; exact hn) (fun y hy => ?_) (fun i y hi => ?_)
        · obtain ⟨i, hi⟩ := List.mem_iff_getElem?.1 hy
          obtain ⟨x, _, q⟩ := h2 i y hi
          exact frz1_one q
        · obtain ⟨x, q1, q2⟩ := h2 i y hi
          exact (frz1_sound I1 q2 (hrel i x q1)).toV
    · cases h
  · exact (frz1_sound I1 h hr).toV

theorem frzM_sound (I1 : Inv base Γ1) : ∀ {xs ys : List AV}, frzM Γ1.H Γ.H.length xs = some ys → ys.length = xs.length ∧ ∀ (i : Nat) (y : AV), ys[i]? = some y → ∃ x, xs[i]? = some x ∧ frz2 Γ1.H Γ.H.length x = some y
  | [], ys, h => by injection h with h; subst h; simp
  | a :: l, ys, h => by
    simp only [frzM] at h
    split at h
    · rename_i b hb
      split at h
      · rename_i m hm
        injection h with h; subst h
        obtain ⟨h1, h2⟩ := frzM_sound I1 hm
        refine ⟨by simp [h1], fun i y hi => ?_⟩
        cases i with
        | zero => simp at hi; subst hi; exact ⟨a, rfl, hb⟩
        | succ i => simp at hi; simpa using h2 i y hi
      · cases h
    · cases h

theorem frz_sound (I1 : Inv base Γ1) {a a' : AV} {v : Value} (h : frz Γ1.H Γ.H.length a = some a') (hr : RelV Γ1 a v) : RelV (Γ.frz Γ1) a' v := by
  unfold frz at h
  split at h
  · rename_i xs
    split at h
    · rename_i ys hy
      injection h with h; subst h
      obtain ⟨h1, h2⟩ := frzM_sound I1 hy
      cases hr with
      | tup hn hrel =>
        refine .tup (by rw [h1]; exact hn) (fun i y hi => ?_)
        obtain ⟨x, q1, q2⟩ := h2 i y hi
        exact frz2_sound I1 q2 (hrel i x q1)
    · cases h
  · exact frz2_sound I1 h hr

/-- Behind a call that could not write what there was, whose own objects are frozen. -/
theorem frz_ext {lo : Nat} (I : Inv base Γ) (I1 : Inv base Γ1) (h : Ext Γ.H.length (fun _ => False) Γ Γ1) : Ext lo (fun _ => False) Γ (Γ.frz Γ1) where
  len := Nat.le_refl _
  cells _ _ xs' _ h := ⟨xs', h, .inr ⟨rfl, rfl⟩⟩
  map _ es' _ h := ⟨es', h, rfl⟩
  loop _ r' _ h := ⟨r', h, rfl⟩
  absent _ _ h := h
  barrier id _ hid := ⟨rfl, rfl, (h.barrier id hid hid).2.2⟩
  sizes := h.sizes
  keep := h.keep
  fresh id b h := .inl ⟨id, h⟩
  stab b hb := .inl (h.stab b hb)
  stabN b hb := by
    rcases hb with hb | ⟨id, _, hb⟩
    · exact h.stabN b hb
    · rcases h.fresh id b hb with ⟨id0, e⟩ | e
      · exact .inr (.inl ⟨id0, e⟩)
      · exact .inr (.inr e)
  size := h.size
  os := h.os
  tape := h.tape
  output := h.output

theorem frz_inv (I : Inv base Γ) (I1 : Inv base Γ1) (h : Ext Γ.H.length (fun _ => False) Γ Γ1) : Inv base (Γ.frz Γ1) := by
  have hx := frz_ext (lo := Γ.H.length) I I1 h
  have hρ : ∀ id b, Γ.ρ id = some b → Γ1.ρ id = some b := fun id b e => (h.barrier id (I.dom id b e).1 (I.dom id b e).1).2.1.trans e
  have hB : ∀ b, Γ.S b → ¬ (fun _ : Nat => False) b := fun _ _ h => h
  refine ⟨fun id b e => ?_, I.inj, fun id b T xs e hh => ?_, fun id b es e hh => ?_, fun id b r e hh => ?_, fun b hb => ?_⟩
  · obtain ⟨q1, q2, q3, q4⟩ := I.dom id b e
    refine ⟨q1, Nat.lt_of_lt_of_le q2 h.size, q3, fun hs => ?_⟩
    rcases hs with hs | ⟨id', q5, q6⟩
    · exact (I1.dom id b (hρ id b e)).2.2.2 hs
    · have := I1.inj id id' b (hρ id b e) q6
      omega
  · obtain ⟨arr, k1, k2, k3, k4⟩ := I.cells id b T xs e hh
    have hd := I.dom id b e
    exact ⟨arr, ((h.barrier id hd.1 hd.1).2.2 b e hd.2.1).trans k1, k2, k3, fun i x hi => (k4 i x hi).ext hx I hB⟩
  · obtain ⟨ms, cl, k1, k2, k3⟩ := I.map id b es e hh
    have hd := I.dom id b e
    refine ⟨ms, cl, ((h.barrier id hd.1 hd.1).2.2 b e hd.2.1).trans k1, k2, fun i x hi => ?_⟩
    obtain ⟨m, q1, q2, q3⟩ := k3 i x hi
    exact ⟨m, q1, q2.ext hx I hB, q3.ext hx I hB⟩
  · obtain ⟨l, k1, k2⟩ := I.loop id b r e hh
    have hd := I.dom id b e
    exact ⟨l, ((h.barrier id hd.1 hd.1).2.2 b e hd.2.1).trans k1, { k2 with env := fun t a ha => let ⟨x, y⟩ := k2.env t a ha; ⟨x, y.ext hx I hB⟩ }⟩
  · rcases hb with hb | ⟨id, _, hb⟩
    · exact I1.stab b hb
    · exact (I1.dom id b hb).2.1

/-- A new block that is only read. -/
def Ctx.stay (Γ : Ctx) (o : Obj) : Ctx := { Γ with w := Γ.w.alloc o, S := fun b => Γ.S b ∨ b = Γ.w.heap.size }

theorem stay_ext (lo : Nat) (o : Obj) : Ext lo (fun _ => False) Γ (Γ.stay o) :=
  { Ext.alloc lo Γ o with
    stab := fun b hb => .inl hb
    stabN := fun b hb => hb.elim .inl fun e => .inr (.inr (by omega)) }

theorem stay_inv (I : Inv base Γ) (o : Obj) : Inv base (Γ.stay o) := by
  have hx := stay_ext (Γ := Γ) Γ.H.length o
  have hB : ∀ b, Γ.S b → ¬ (fun _ : Nat => False) b := fun _ _ h => h
  refine ⟨fun id b e => ?_, I.inj, fun id b T xs e hh => ?_, fun id b es e hh => ?_, fun id b r e hh => ?_, fun b hb => ?_⟩
  · obtain ⟨q1, q2, q3, q4⟩ := I.dom id b e
    refine ⟨q1, Nat.lt_of_lt_of_le q2 hx.size, q3, fun hs => ?_⟩
    rcases hs with hs | hs
    · exact q4 hs
    · omega
  · obtain ⟨arr, k1, k2, k3, k4⟩ := I.cells id b T xs e hh
    exact ⟨arr, (heap_push_old (I.dom id b e).2.1).trans k1, k2, k3, fun i x hi => (k4 i x hi).ext hx I hB⟩
  · obtain ⟨ms, cl, k1, k2, k3⟩ := I.map id b es e hh
    refine ⟨ms, cl, (heap_push_old (I.dom id b e).2.1).trans k1, k2, fun i x hi => ?_⟩
    obtain ⟨m, q1, q2, q3⟩ := k3 i x hi
    exact ⟨m, q1, q2.ext hx I hB, q3.ext hx I hB⟩
  · obtain ⟨l, k1, k2⟩ := I.loop id b r e hh
    exact ⟨l, (heap_push_old (I.dom id b e).2.1).trans k1, { k2 with env := fun t a ha => let ⟨x, y⟩ := k2.env t a ha; ⟨x, y.ext hx I hB⟩ }⟩
  · rcases hb with hb | hb
    · exact Nat.lt_of_lt_of_le (I.stab b hb) hx.size
    · subst hb; simp [Ctx.stay, -World.alloc_eq, World.alloc]

/-- Nil slices shown as rows. -/
theorem nilz_one {n : Nat} {a : AV} (h : oneCell a = true) : oneCell (nilz n a) = true := by
  cases a <;> simp only [nilz] <;> first | exact h | (split <;> rfl)
theorem nilz_T {S : Nat → Prop} {w : World} {n : Nat} {a : AV} {v : Value} (h : RelT S w a v) : RelT S w (nilz n a) v := by
  cases h with
  | nils =>
    simp only [nilz]
    split
    · exact .nils
    · exact .vs (fun _ _ => undef) rfl (Nat.le_refl _) (fun r hr => by cases hr) (fun h => by cases h) (fun ad h => by cases h) (fun i j r x hi => by cases hi)
  | vs g hn hc hsz hA hmem hrel => exact .vs g hn hc hsz hA hmem hrel
  | _ => simp only [nilz]; constructor
theorem nilz_V {n : Nat} {a : AV} {v : Value} (h : RelV Γ a v) : RelV Γ (nilz n a) v := by
  by_cases hs : a = .nils
  · subst hs
    exact (nilz_T (h.toT rfl)).toV
  · have : nilz n a = a := by cases a <;> first | rfl | exact absurd rfl hs
    rw [this]; exact h
theorem nilzL_len : ∀ (ns : List Nat) (l : List AV), (nilzL ns l).length = l.length
  | [], l => by simp [nilzL]
  | n :: ns, [] => rfl
  | n :: ns, a :: l => by simp [nilzL, nilzL_len ns l]
theorem nilzL_get : ∀ (ns : List Nat) (l : List AV) (i : Nat) (y : AV), (nilzL ns l)[i]? = some y → ∃ n x, l[i]? = some x ∧ (y = nilz n x ∨ y = x)
  | [], l, i, y, h => ⟨0, y, by simpa [nilzL] using h, .inr rfl⟩
  | n :: ns, [], i, y, h => by simp [nilzL] at h
  | n :: ns, a :: l, 0, y, h => by simp [nilzL] at h; exact ⟨n, a, rfl, .inl h.symm⟩
  | n :: ns, a :: l, i + 1, y, h => by
    simp only [nilzL, List.getElem?_cons_succ] at h
    exact nilzL_get ns l i y h
theorem nilzL_one {ns : List Nat} {l : List AV} (h : ∀ x, x ∈ l → oneCell x = true) : ∀ y, y ∈ nilzL ns l → oneCell y = true := fun y hy => by
  obtain ⟨i, hi⟩ := List.mem_iff_getElem?.1 hy
  obtain ⟨n, x, hx, e⟩ := nilzL_get ns l i y hi
  have := h x (List.mem_of_getElem? hx)
  rcases e with rfl | rfl
  · exact nilz_one this
  · exact this
theorem nzA_sound {z : Nz} {a : AV} {v : Value} (h : RelV Γ a v) : RelV Γ (nzA z a) v := by
  cases a with
  | nils => exact nilz_V h
  | vs sz xs =>
    have hT := h.toT rfl
    simp only [nzA]
    refine RelV.vs ?_
    cases hT with
    | vs g hn hc hsz hA hmem hrel =>
      refine .vs g (by rw [List.length_map]; exact hn) hc (fun r hr => ?_) hA hmem (fun i j r x hi hj => ?_)
      · obtain ⟨q, q1, rfl⟩ := List.mem_map.1 hr
        exact ⟨by rw [nilzL_len]; exact (hsz q q1).1, nilzL_one (hsz q q1).2⟩
      · rw [List.getElem?_map] at hi
        cases hq : xs[i]? with
        | none => rw [hq] at hi; cases hi
        | some q =>
          rw [hq] at hi
          injection hi with hi; subst hi
          obtain ⟨n, y, hy, e⟩ := nilzL_get _ _ _ _ hj
          have := hrel i j q y hq hy
          rcases e with rfl | rfl
          · exact nilz_T this
          · exact this
  | agg xs =>
    simp only [nzA]
    cases h with
    | agg hn h1 hrel =>
      refine .agg (by rw [nilzL_len]; exact hn) (nilzL_one h1) (fun i y hi => ?_)
      obtain ⟨n, x, hx, e⟩ := nilzL_get _ _ _ _ hi
      have := hrel i x hx
      rcases e with rfl | rfl
      · exact nilz_V this
      · exact this
  | _ => exact h

end Go.Ev
