/- What the steps on memory make of the relation: a new object, a row written, a row that grows or moves, a map written. -/
import Derived.Test.YtelobnllkhnpaaaEvRel
import Derived.Laws.CopyRow
import Derived.Laws.Cells
namespace Go.Ev
set_option linter.unusedVariables false
set_option linter.unusedSimpArgs false

variable {lo base n0 : Nat} {Γ : Ctx}

theorem set_get {H : Heap} {i j : Nat} {o x : HObj} (h : (H.set i o)[j]? = some x) : (i = j ∧ x = o) ∨ (i ≠ j ∧ H[j]? = some x) := by
  by_cases e : i = j
  · subst e
    have hl : i < H.length := by have := cells_lt h; simpa using this
    rw [List.getElem?_set_self hl] at h
    exact .inl ⟨rfl, (Option.some.inj h).symm⟩
  · rw [List.getElem?_set_ne e] at h
    exact .inr ⟨e, h⟩

theorem heap_push_old {w : World} {o : Obj} {b : Nat} (h : b < w.heap.size) : (w.alloc o).heap[b]? = w.heap[b]? := by
  simp [-World.alloc_eq, World.alloc, Array.getElem?_push, Nat.ne_of_lt h]
theorem heap_push_new (w : World) (o : Obj) : (w.alloc o).heap[w.heap.size]? = some o := by
  simp [-World.alloc_eq, World.alloc]
theorem alloc_size (w : World) (o : Obj) : (w.alloc o).heap.size = w.heap.size + 1 := by simp [-World.alloc_eq, World.alloc]

/-- A block of its own, led to by nobody: what a new variable of an activation is. -/
theorem Ext.alloc (lo : Nat) (Γ : Ctx) (o : Obj) : Ext lo (fun _ => False) Γ { Γ with w := Γ.w.alloc o } where
  len := Nat.le_refl _
  cells _ _ xs' _ h := ⟨xs', h, .inr ⟨rfl, rfl⟩⟩
  map _ es' _ h := ⟨es', h, rfl⟩
  loop _ r' _ h := ⟨r', h, rfl⟩
  absent _ _ h := h
  barrier _ _ _ := ⟨rfl, rfl, fun _ _ hb => heap_push_old hb⟩
  sizes b arr T fr h := by
    have hlt : b < Γ.w.heap.size := by
      rcases Nat.lt_or_ge b Γ.w.heap.size with h' | h'
      · exact h'
      · rw [Array.getElem?_eq_none h'] at h; cases h
    exact ⟨arr, fr, (heap_push_old hlt).trans h, rfl⟩
  keep b hb _ _ := heap_push_old hb
  fresh id b h := .inl ⟨id, h⟩
  stab _ h := h
  stabN _ h := .inl h
  size := by simp [-World.alloc_eq, World.alloc]
  os := rfl
  tape := rfl
  output := rfl

/-- The objects stay as they are where their blocks do. -/
theorem Inv.same {lo : Nat} {B : Nat → Prop} {Γ' : Ctx} (I : Inv base Γ) (h : Ext lo B Γ Γ') (hB : ∀ b, Γ.S b → ¬ B b) (hH : Γ'.H = Γ.H) (hρ : Γ'.ρ = Γ.ρ) (hS : Γ'.S = Γ.S)
    (hb : ∀ id b, Γ.ρ id = some b → Γ'.w.heap[b]? = Γ.w.heap[b]?) : Inv base Γ' where
  dom id b e := by
    rw [hρ] at e
    obtain ⟨h1, h2, h3, h4⟩ := I.dom id b e
    exact ⟨hH ▸ h1, Nat.lt_of_lt_of_le h2 h.size, h3, hS ▸ h4⟩
  inj id id' b e e' := by rw [hρ] at e e'; exact I.inj id id' b e e'
  cells id b T xs e hx := by
    rw [hρ] at e; rw [hH] at hx
    obtain ⟨arr, h1, h2, h3, h4⟩ := I.cells id b T xs e hx
    exact ⟨arr, (hb id b e).trans h1, h2, h3, fun i x hi => (h4 i x hi).ext h I hB⟩
  map id b es e hx := by
    rw [hρ] at e; rw [hH] at hx
    obtain ⟨ms, cl, h1, h2, h3⟩ := I.map id b es e hx
    exact ⟨ms, cl, (hb id b e).trans h1, h2, fun i x hi => let ⟨m, a, b, c⟩ := h3 i x hi; ⟨m, a, b.ext h I hB, c.ext h I hB⟩⟩
  loop id b r e hx := by
    rw [hρ] at e; rw [hH] at hx
    obtain ⟨l, h1, h2⟩ := I.loop id b r e hx
    exact ⟨l, (hb id b e).trans h1, { h2 with env := fun t a ha => let ⟨x, y⟩ := h2.env t a ha; ⟨x, y.ext h I hB⟩ }⟩
  stab b hs := Nat.lt_of_lt_of_le (I.stab b (hS ▸ hs)) h.size

theorem Inv.alloc (I : Inv base Γ) (o : Obj) : Inv base { Γ with w := Γ.w.alloc o } :=
  I.same (Ext.alloc 0 Γ o) (fun _ _ e => e) rfl rfl rfl fun id b e => heap_push_old (I.dom id b e).2.1

/-- Only the count of draws moves. -/
theorem Ext.drawn (lo : Nat) (Γ : Ctx) (n : Nat) : Ext lo (fun _ => False) Γ { Γ with w := { Γ.w with drawn := n } } :=
  { Ext.refl lo (fun _ => False) Γ with }
theorem Inv.drawn (I : Inv base Γ) (n : Nat) : Inv base { Γ with w := { Γ.w with drawn := n } } :=
  I.same (Ext.drawn 0 Γ n) (fun _ _ e => e) rfl rfl rfl fun _ _ _ => rfl

/-- The context with one object more, in a new block. -/
def Ctx.push (Γ : Ctx) (o : HObj) (ob : Obj) : Ctx :=
  { H := Γ.H ++ [o], ρ := fun i => if i = Γ.H.length then some Γ.w.heap.size else Γ.ρ i, S := Γ.S, w := Γ.w.alloc ob }

theorem Ctx.push_old {o : HObj} {ob : Obj} {id : Nat} (h : id < Γ.H.length) : (Γ.push o ob).H[id]? = Γ.H[id]? ∧ (Γ.push o ob).ρ id = Γ.ρ id := by
  simp [Ctx.push, List.getElem?_append_left h, Nat.ne_of_lt h]

theorem Ext.push (lo : Nat) (o : HObj) (ob : Obj) : Ext lo (fun _ => False) Γ (Γ.push o ob) where
  len := by simp [Ctx.push]
  cells id T xs' hid h := ⟨xs', (Ctx.push_old hid).1 ▸ h, .inr ⟨rfl, (Ctx.push_old hid).2⟩⟩
  map id es' hid h := ⟨es', (Ctx.push_old hid).1 ▸ h, (Ctx.push_old hid).2⟩
  loop id r' hid h := ⟨r', (Ctx.push_old hid).1 ▸ h, (Ctx.push_old hid).2⟩
  absent id hid h := (Ctx.push_old hid).2.trans h
  barrier id _ hid := ⟨(Ctx.push_old hid).1, (Ctx.push_old hid).2, fun _ _ hb => heap_push_old hb⟩
  sizes := (Ext.alloc lo Γ ob).sizes
  keep := (Ext.alloc lo Γ ob).keep
  fresh id b h := by
    simp only [Ctx.push] at h
    split at h
    · injection h with h; right; omega
    · exact .inl ⟨id, h⟩
  stab _ h := h
  stabN _ h := .inl h
  size := by simp [-World.alloc_eq, Ctx.push, World.alloc]
  os := rfl
  tape := rfl
  output := rfl

/-- What must hold of a new object. -/
def ObjOk (Γ : Ctx) : HObj → Obj → Prop
  | .cells T xs, o => ∃ arr, o = .cells arr T (0, 0) ∧ xs.length ≤ arr.size ∧ (∀ x, x ∈ xs → oneCell x = true) ∧ ∀ (i : Nat) (x : AV), xs[i]? = some x → RelV Γ x (arr.getD i undef)
  | .map es, o => ∃ (ms : Array MapEntry) (clock : Nat), o = .map ms clock ∧ ms.size = es.length ∧ ∀ (i : Nat) (e : AV × AV), es[i]? = some e → ∃ m : MapEntry, ms[i]? = some m ∧ RelV Γ e.1 m.key ∧ RelV Γ e.2 m.val
  | .loop r, o => ∃ l, o = .loop l ∧ RelL Γ r l
  | .dead, _ => True

theorem RelL.ext {lo : Nat} {B : Nat → Prop} {Γ' : Ctx} {r : LoopA} {l : Loop} (h : RelL Γ r l) (e : Ext lo B Γ Γ') (I : Inv base Γ) (hB : ∀ b, Γ.S b → ¬ B b) : RelL Γ' r l :=
  { h with env := fun t a ha => let ⟨x, y⟩ := h.env t a ha; ⟨x, y.ext e I hB⟩ }

theorem ObjOk.ext {lo : Nat} {B : Nat → Prop} {Γ' : Ctx} {o : HObj} {ob : Obj} (h : ObjOk Γ o ob) (e : Ext lo B Γ Γ') (I : Inv base Γ) (hB : ∀ b, Γ.S b → ¬ B b) : ObjOk Γ' o ob := by
  cases o with
  | cells T xs => obtain ⟨arr, h1, h2, h3, h4⟩ := h; exact ⟨arr, h1, h2, h3, fun i x hi => (h4 i x hi).ext e I hB⟩
  | map es => obtain ⟨ms, cl, h1, h2, h3⟩ := h; exact ⟨ms, cl, h1, h2, fun i x hi => let ⟨m, a, b, c⟩ := h3 i x hi; ⟨m, a, b.ext e I hB, c.ext e I hB⟩⟩
  | loop r => obtain ⟨l, h1, h2⟩ := h; exact ⟨l, h1, h2.ext e I hB⟩
  | dead => trivial

theorem ObjOk.of (I : Inv base Γ) {id b : Nat} {o : HObj} (hρ : Γ.ρ id = some b) (ho : Γ.H[id]? = some o) : ∃ ob, Γ.w.heap[b]? = some ob ∧ ObjOk Γ o ob := by
  have hlt := (I.dom id b hρ).2.1
  cases o with
  | cells T xs => obtain ⟨arr, h1, h2⟩ := I.cells id b T xs hρ ho; exact ⟨_, h1, arr, rfl, h2⟩
  | map es => obtain ⟨ms, cl, h1, h2⟩ := I.map id b es hρ ho; exact ⟨_, h1, ms, cl, rfl, h2⟩
  | loop r => obtain ⟨l, h1, h2⟩ := I.loop id b r hρ ho; exact ⟨_, h1, l, rfl, h2⟩
  | dead => exact ⟨_, Array.getElem?_eq_getElem hlt, trivial⟩

theorem Inv.of_objs {Γ' : Ctx} (hdom : ∀ id b, Γ'.ρ id = some b → id < Γ'.H.length ∧ b < Γ'.w.heap.size ∧ base ≤ b ∧ ¬ Γ'.S b)
    (hinj : ∀ id id' b, Γ'.ρ id = some b → Γ'.ρ id' = some b → id = id') (hst : ∀ b, Γ'.S b → b < Γ'.w.heap.size)
    (h : ∀ id b o, Γ'.ρ id = some b → Γ'.H[id]? = some o → ∃ ob, Γ'.w.heap[b]? = some ob ∧ ObjOk Γ' o ob) : Inv base Γ' where
  dom := hdom
  inj := hinj
  cells id b T xs e hx := by obtain ⟨ob, h1, arr, rfl, h2⟩ := h id b _ e hx; exact ⟨arr, h1, h2⟩
  map id b es e hx := by obtain ⟨ob, h1, ms, cl, rfl, h2⟩ := h id b _ e hx; exact ⟨ms, cl, h1, h2⟩
  loop id b r e hx := by obtain ⟨ob, h1, l, rfl, h2⟩ := h id b _ e hx; exact ⟨l, h1, h2⟩
  stab := hst

theorem Inv.push (I : Inv base Γ) {o : HObj} {ob : Obj} (ho : ObjOk Γ o ob) (hbase : base ≤ Γ.w.heap.size) : Inv base (Γ.push o ob) := by
  have e := Ext.push (Γ := Γ) 0 o ob
  have hB : ∀ b, Γ.S b → ¬ (fun _ : Nat => False) b := fun _ _ h => h
  refine Inv.of_objs (fun id b hρ => ?_) (fun id id' b h1 h2 => ?_) (fun b hs => Nat.lt_of_lt_of_le (I.stab b hs) e.size) (fun id b o' hρ hx => ?_)
  · simp only [Ctx.push] at hρ ⊢
    split at hρ
    · rename_i h
      injection hρ with hρ
      subst hρ h
      refine ⟨by simp, by simp [-World.alloc_eq, World.alloc], hbase, fun hs => absurd (I.stab _ hs) (by omega)⟩
    · obtain ⟨a, b, c, d⟩ := I.dom id b hρ
      exact ⟨by simp; omega, by simp [-World.alloc_eq, World.alloc]; omega, c, d⟩
  · simp only [Ctx.push] at h1 h2
    split at h1 <;> split at h2
    · rename_i a b; rw [a, b]
    · injection h1 with h1; have := (I.dom id' b h2).2.1; omega
    · injection h2 with h2; have := (I.dom id b h1).2.1; omega
    · exact I.inj id id' b h1 h2
  · simp only [Ctx.push] at hρ hx ⊢
    split at hρ
    · rename_i h
      injection hρ with hρ
      subst hρ h
      simp at hx
      subst hx
      exact ⟨ob, heap_push_new _ _, ho.ext e I hB⟩
    · obtain ⟨hlt, hb, _⟩ := I.dom id b hρ
      rw [List.getElem?_append_left hlt] at hx
      obtain ⟨ob', h1, h2⟩ := ObjOk.of I hρ hx
      exact ⟨ob', (heap_push_old hb).trans h1, h2.ext e I hB⟩

/-- The context in which one object, and its block, are written anew. -/
def Ctx.upd (Γ : Ctx) (id b : Nat) (o : HObj) (ob : Obj) : Ctx := { Γ with H := Γ.H.set id o, w := { Γ.w with heap := Γ.w.heap.setIfInBounds b ob } }

theorem heap_set_other {w : World} {b b' : Nat} {ob : Obj} (h : b ≠ b') : ({ w with heap := w.heap.setIfInBounds b ob } : World).heap[b']? = w.heap[b']? := by
  simp [h]
theorem heap_set_same {w : World} {b : Nat} {ob : Obj} (h : b < w.heap.size) : ({ w with heap := w.heap.setIfInBounds b ob } : World).heap[b]? = some ob := by
  simp [h]

/-- A row's cells are written, or it grows within its block. -/
theorem Ext.updCells (I : Inv base Γ) {lo id b T : Nat} {xs xs' : List AV} {arr arr' : Array Value} (hlo : lo ≤ id) (hρ : Γ.ρ id = some b) (hx : Γ.H[id]? = some (.cells T xs))
    (ha : Γ.w.heap[b]? = some (.cells arr T (0, 0))) (hsz : arr'.size = arr.size) (hlen : xs.length ≤ xs'.length) :
    Ext lo (fun _ => False) Γ (Γ.upd id b (.cells T xs') (.cells arr' T (0, 0))) where
  len := by simp [Ctx.upd]
  cells id' T' ys _ hy := by
    rcases set_get hy with ⟨rfl, e⟩ | ⟨_, e⟩
    · injection e with h1 h2; subst h1 h2
      exact ⟨xs, hx, (Nat.lt_or_ge xs.length ys.length).elim (fun h => .inl h) (fun h => .inr ⟨by omega, rfl⟩)⟩
    · exact ⟨ys, e, .inr ⟨rfl, rfl⟩⟩
  map id' es _ hy := by
    rcases set_get hy with ⟨rfl, e⟩ | ⟨_, e⟩
    · cases e
    · exact ⟨es, e, rfl⟩
  loop id' r _ hy := by
    rcases set_get hy with ⟨rfl, e⟩ | ⟨_, e⟩
    · cases e
    · exact ⟨r, e, rfl⟩
  absent _ _ h := h
  barrier id' hl hid := ⟨List.getElem?_set_ne (by omega), rfl, fun b' hb' _ => heap_set_other fun e => by
    have := I.inj id id' b hρ (by rw [e]; exact hb')
    omega⟩
  sizes b' a T' fr h := by
    by_cases e : b = b'
    · subst e
      rw [ha] at h; injection h with h; injection h with h1 h2 h3; subst h1 h2 h3
      exact ⟨arr', (0, 0), heap_set_same (I.dom id b hρ).2.1, hsz⟩
    · exact ⟨a, fr, (heap_set_other e).trans h, rfl⟩
  keep b' hb hn _ := heap_set_other (fun e => hn id (e ▸ hρ))
  fresh id' b' h := .inl ⟨id', h⟩
  stab _ h := h
  stabN _ h := .inl h
  size := by simp [Ctx.upd]
  os := rfl
  tape := rfl
  output := rfl

/-- A map is written. -/
theorem Ext.updMap (I : Inv base Γ) {lo id b : Nat} {es es' : List (AV × AV)} {ms ms' : Array MapEntry} {cl cl' : Nat} (hlo : lo ≤ id) (hρ : Γ.ρ id = some b) (hx : Γ.H[id]? = some (.map es))
    (ha : Γ.w.heap[b]? = some (.map ms cl)) : Ext lo (fun _ => False) Γ (Γ.upd id b (.map es') (.map ms' cl')) where
  len := by simp [Ctx.upd]
  cells id' T' ys _ hy := by
    rcases set_get hy with ⟨rfl, e⟩ | ⟨_, e⟩
    · cases e
    · exact ⟨ys, e, .inr ⟨rfl, rfl⟩⟩
  map id' es2 _ hy := by
    rcases set_get hy with ⟨rfl, e⟩ | ⟨_, e⟩
    · exact ⟨es, hx, rfl⟩
    · exact ⟨es2, e, rfl⟩
  loop id' r _ hy := by
    rcases set_get hy with ⟨rfl, e⟩ | ⟨_, e⟩
    · cases e
    · exact ⟨r, e, rfl⟩
  absent _ _ h := h
  barrier id' hl hid := ⟨List.getElem?_set_ne (by omega), rfl, fun b' hb' _ => heap_set_other fun e => by
    have := I.inj id id' b hρ (by rw [e]; exact hb')
    omega⟩
  sizes b' a T' fr h := by
    by_cases e : b = b'
    · subst e; rw [ha] at h; cases h
    · exact ⟨a, fr, (heap_set_other e).trans h, rfl⟩
  keep b' hb hn _ := heap_set_other (fun e => hn id (e ▸ hρ))
  fresh id' b' h := .inl ⟨id', h⟩
  stab _ h := h
  stabN _ h := .inl h
  size := by simp [Ctx.upd]
  os := rfl
  tape := rfl
  output := rfl

/-- A loop's record is written. -/
theorem Ext.updLoop (I : Inv base Γ) {lo id b : Nat} {r r' : LoopA} {l l' : Loop} (hlo : lo ≤ id) (hρ : Γ.ρ id = some b) (hx : Γ.H[id]? = some (.loop r))
    (ha : Γ.w.heap[b]? = some (.loop l)) : Ext lo (fun _ => False) Γ (Γ.upd id b (.loop r') (.loop l')) where
  len := by simp [Ctx.upd]
  cells id' T' ys _ hy := by
    rcases set_get hy with ⟨rfl, e⟩ | ⟨_, e⟩
    · cases e
    · exact ⟨ys, e, .inr ⟨rfl, rfl⟩⟩
  map id' es2 _ hy := by
    rcases set_get hy with ⟨rfl, e⟩ | ⟨_, e⟩
    · cases e
    · exact ⟨es2, e, rfl⟩
  loop id' r2 _ hy := by
    rcases set_get hy with ⟨rfl, e⟩ | ⟨_, e⟩
    · exact ⟨r, hx, rfl⟩
    · exact ⟨r2, e, rfl⟩
  absent _ _ h := h
  barrier id' hl hid := ⟨List.getElem?_set_ne (by omega), rfl, fun b' hb' _ => heap_set_other fun e => by
    have := I.inj id id' b hρ (by rw [e]; exact hb')
    omega⟩
  sizes b' a T' fr h := by
    by_cases e : b = b'
    · subst e; rw [ha] at h; cases h
    · exact ⟨a, fr, (heap_set_other e).trans h, rfl⟩
  keep b' hb hn _ := heap_set_other (fun e => hn id (e ▸ hρ))
  fresh id' b' h := .inl ⟨id', h⟩
  stab _ h := h
  stabN _ h := .inl h
  size := by simp [Ctx.upd]
  os := rfl
  tape := rfl
  output := rfl

theorem Inv.upd (I : Inv base Γ) {lo id b : Nat} {o : HObj} {ob : Obj} (hρ : Γ.ρ id = some b) (e : Ext lo (fun _ => False) Γ (Γ.upd id b o ob)) (ho : ObjOk Γ o ob) : Inv base (Γ.upd id b o ob) := by
  have hB : ∀ b, Γ.S b → ¬ (fun _ : Nat => False) b := fun _ _ h => h
  refine Inv.of_objs (fun id' b' h => ?_) I.inj (fun b hs => by have := I.stab b hs; simpa [Ctx.upd] using this) (fun id' b' o' h hx => ?_)
  · obtain ⟨a, b, c, d⟩ := I.dom id' b' h
    exact ⟨by simpa [Ctx.upd] using a, by simpa [Ctx.upd] using b, c, d⟩
  · simp only [Ctx.upd] at hx ⊢
    by_cases ee : id = id'
    · subst ee
      have hb : b = b' := Option.some.inj (hρ.symm.trans h)
      subst hb
      rw [List.getElem?_set_self (I.dom id b hρ).1] at hx
      injection hx with hx
      subst hx
      exact ⟨ob, heap_set_same (I.dom id b hρ).2.1, ho.ext e I hB⟩
    · rw [List.getElem?_set_ne ee] at hx
      obtain ⟨ob', h1, h2⟩ := ObjOk.of I h hx
      refine ⟨ob', (heap_set_other fun e2 => ee (I.inj id id' b hρ (by rw [e2]; exact h))).trans h1, h2.ext e I hB⟩

/-- A row moves into a new block, and grows. -/
def Ctx.move (Γ : Ctx) (id : Nat) (o : HObj) (ob : Obj) : Ctx :=
  { H := Γ.H.set id o, ρ := fun i => if i = id then some Γ.w.heap.size else Γ.ρ i, S := Γ.S, w := Γ.w.alloc ob }

theorem Ext.move {lo id b T : Nat} {xs xs' : List AV} {ob : Obj} (hlo : lo ≤ id) (hρ : Γ.ρ id = some b) (hx : Γ.H[id]? = some (.cells T xs))
    (hlen : xs.length < xs'.length) : Ext lo (fun _ => False) Γ (Γ.move id (.cells T xs') ob) where
  len := by simp [Ctx.move]
  cells id' T' ys _ hy := by
    rcases set_get hy with ⟨rfl, e⟩ | ⟨ee, e⟩
    · injection e with h1 h2; subst h1 h2
      exact ⟨xs, hx, .inl hlen⟩
    · exact ⟨ys, e, .inr ⟨rfl, if_neg (fun h => ee h.symm)⟩⟩
  map id' es _ hy := by
    rcases set_get hy with ⟨rfl, e⟩ | ⟨ee, e⟩
    · cases e
    · exact ⟨es, e, if_neg (fun h => ee h.symm)⟩
  loop id' r _ hy := by
    rcases set_get hy with ⟨rfl, e⟩ | ⟨ee, e⟩
    · cases e
    · exact ⟨r, e, if_neg (fun h => ee h.symm)⟩
  absent id' _ h := by
    have e : id' ≠ id := fun e => by subst e; rw [hρ] at h; cases h
    exact (if_neg e).trans h
  barrier id' hl hid := ⟨List.getElem?_set_ne (by omega), if_neg (by omega), fun _ _ hb => heap_push_old hb⟩
  sizes := (Ext.alloc lo Γ ob).sizes
  keep := (Ext.alloc lo Γ ob).keep
  fresh id' b' h := by
    simp only [Ctx.move] at h
    split at h
    · injection h with h; right; omega
    · exact .inl ⟨id', h⟩
  stab _ h := h
  stabN _ h := .inl h
  size := by simp [-World.alloc_eq, Ctx.move, World.alloc]
  os := rfl
  tape := rfl
  output := rfl

theorem Inv.move (I : Inv base Γ) {lo id b T : Nat} {xs' : List AV} {ob : Obj} (hρ : Γ.ρ id = some b) (e : Ext lo (fun _ => False) Γ (Γ.move id (.cells T xs') ob)) (ho : ObjOk Γ (.cells T xs') ob) (hbase : base ≤ Γ.w.heap.size) :
    Inv base (Γ.move id (.cells T xs') ob) := by
  have hB : ∀ b, Γ.S b → ¬ (fun _ : Nat => False) b := fun _ _ h => h
  refine Inv.of_objs (fun id' b' h => ?_) (fun i j c h1 h2 => ?_) (fun b hs => by have := I.stab b hs; simp [-World.alloc_eq, Ctx.move, World.alloc]; omega) (fun id' b' o' h hx => ?_)
  · simp only [Ctx.move] at h ⊢
    split at h
    · rename_i ee
      injection h with h
      subst h ee
      exact ⟨by simpa using (I.dom _ _ hρ).1, by simp [-World.alloc_eq, World.alloc], hbase, fun hs => absurd (I.stab _ hs) (by omega)⟩
    · obtain ⟨a, b, c, d⟩ := I.dom id' b' h
      exact ⟨by simpa using a, by simp [-World.alloc_eq, World.alloc]; omega, c, d⟩
  · simp only [Ctx.move] at h1 h2
    split at h1 <;> split at h2
    · rename_i a b; rw [a, b]
    · injection h1 with h1; have := (I.dom j c h2).2.1; omega
    · injection h2 with h2; have := (I.dom i c h1).2.1; omega
    · exact I.inj i j c h1 h2
  · simp only [Ctx.move] at h hx ⊢
    split at h
    · rename_i ee
      injection h with h
      subst h ee
      rw [List.getElem?_set_self (I.dom _ _ hρ).1] at hx
      injection hx with hx
      subst hx
      exact ⟨ob, heap_push_new _ _, ho.ext e I hB⟩
    · rename_i ee
      rw [List.getElem?_set_ne (fun e => ee e.symm)] at hx
      obtain ⟨ob', h1, h2⟩ := ObjOk.of I h hx
      exact ⟨ob', (heap_push_old (I.dom id' b' h).2.1).trans h1, h2.ext e I hB⟩

end Go.Ev
