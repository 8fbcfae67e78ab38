/- The relation between the evaluator's values and heap and the model's, and what changes of the world leave of it. -/
import Derived.Test.YtelobnllkhnpaaaEvDef
import Derived.DataReads
import Derived.Below
import Derived.Laws.Sem
namespace Go.Ev
set_option linter.unusedVariables false
set_option linter.unusedSimpArgs false

structure Ctx where
  H : Heap
  ρ : Nat → Option Nat
  S : Nat → Prop
  w : World

/-- A value that leads to no object. -/
inductive RelT (S : Nat → Prop) (w : World) : AV → Value → Prop
  | int (k : IntKind) (n : Int) : RelT S w (.int k n) (.int k n)
  | bool (b : Bool) : RelT S w (.bool b) (.bool b)
  | str (s : ByteArray) : RelT S w (.str s) (.string s)
  | nils : RelT S w .nils (.slice none 0 0)
  | nilp : RelT S w .nilp (.pointer none)
  | nilm : RelT S w .nilm (.map none)
  | nilf : RelT S w .nilf .nilFunc
  | nili : RelT S w .nili .nilIface
  | vs {sz : Nat} {xs : List (List AV)} {A : Option Addr} {n c : Nat} (g : Nat → Nat → Value) (hn : n = xs.length) (hc : n ≤ c) (hsz : ∀ r, r ∈ xs → r.length = sz ∧ ∀ x, x ∈ r → oneCell x = true)
      (hA : 0 < n → ∃ ad, A = some ad) (hmem : ∀ ad, A = some ad → ∀ i j, i < n → j < sz → w.cell? (ad.add (i * sz + j)) = some (g i j) ∧ S ad.block)
      (hrel : ∀ i j r x, xs[i]? = some r → r[j]? = some x → RelT S w x (g i j)) : RelT S w (.vs sz xs) (.slice A n c)

inductive RelV (Γ : Ctx) : AV → Value → Prop
  | int (k : IntKind) (n : Int) : RelV Γ (.int k n) (.int k n)
  | bool (b : Bool) : RelV Γ (.bool b) (.bool b)
  | str (s : ByteArray) : RelV Γ (.str s) (.string s)
  | nils : RelV Γ .nils (.slice none 0 0)
  | nilp : RelV Γ .nilp (.pointer none)
  | nilm : RelV Γ .nilm (.map none)
  | nilf : RelV Γ .nilf .nilFunc
  | nili : RelV Γ .nili .nilIface
  | sl {id sz off len : Nat} {v : Value} (hin : id < Γ.H.length) (h1 : ∃ ad c, v = .slice (some ad) len c)
      (h : ∀ (T : Nat) (xs : List AV), Γ.H[id]? = some (.cells T xs) → off + len * sz ≤ xs.length ∧ (off + len * sz = xs.length →
        ∃ (b c : Nat) (arr : Array Value) (T' : TypeId) (fr : Nat × Nat), Γ.ρ id = some b ∧ v = .slice (some ⟨b, off, none⟩) len c ∧ len ≤ c ∧ Γ.w.heap[b]? = some (.cells arr T' fr) ∧ off + c * sz ≤ arr.size)) :
      RelV Γ (.sl id sz off len) v
  | hp {id n off : Nat} {v : Value} (hin : id < Γ.H.length) (h1 : ∃ ad, v = .pointer (some ad))
      (h : ∀ (T : Nat) (xs : List AV), Γ.H[id]? = some (.cells T xs) → n ≤ xs.length ∧ (n = xs.length → ∃ b, Γ.ρ id = some b ∧ v = .pointer (some ⟨b, off, none⟩))) :
      RelV Γ (.hp id n off) v
  | mp {id : Nat} {v : Value} (hin : id < Γ.H.length) (h1 : ∃ b, v = .map (some b)) (h : ∀ es, Γ.H[id]? = some (.map es) → ∃ b, Γ.ρ id = some b ∧ v = .map (some b)) : RelV Γ (.mp id) v
  | vs {sz : Nat} {xs : List (List AV)} {v : Value} (h : RelT Γ.S Γ.w (.vs sz xs) v) : RelV Γ (.vs sz xs) v
  | rp {xs : List AV} {ad : Addr} (g : Nat → Value) (h1 : ∀ x, x ∈ xs → oneCell x = true) (hmem : ∀ j, j < xs.length → Γ.w.cell? (ad.add j) = some (g j) ∧ Γ.S ad.block)
      (hrel : ∀ j x, xs[j]? = some x → RelT Γ.S Γ.w x (g j)) : RelV Γ (.rp xs) (.pointer (some ad))
  | fn {f : FuncId} {caps : List AV} {vs : Array Value} (hn : vs.size = caps.length) (hrel : ∀ i x, caps[i]? = some x → RelV Γ x (vs.getD i undef)) :
      RelV Γ (.fn (.func f) caps) (.func (.func f) #[] vs)
  | yield {id : Nat} {v : Value} (hin : id < Γ.H.length) (h1 : ∃ b, v = .func (.yield b) #[] #[]) (h : ∀ r, Γ.H[id]? = some (.loop r) → ∃ b, Γ.ρ id = some b ∧ v = .func (.yield b) #[] #[]) :
      RelV Γ (.fn (.yield id) []) v
  | agg {xs : List AV} {vs : Array Value} (hn : vs.size = xs.length) (h1 : ∀ x, x ∈ xs → oneCell x = true) (hrel : ∀ i x, xs[i]? = some x → RelV Γ x (vs.getD i undef)) : RelV Γ (.agg xs) (.agg vs)
  | tup {xs : List AV} {vs : Array Value} (hn : vs.size = xs.length) (hrel : ∀ i x, xs[i]? = some x → RelV Γ x (vs.getD i undef)) : RelV Γ (.tup xs) (.tuple vs)
  | iface {t : Nat} {a : AV} {v : Value} (h : RelV Γ a v) : RelV Γ (.iface t a) (.iface t v)

theorem RelT.toV {Γ : Ctx} {a : AV} {v : Value} (h : RelT Γ.S Γ.w a v) : RelV Γ a v := by
  cases h with
  | int k n => exact .int k n
  | bool b => exact .bool b
  | str s => exact .str s
  | nils => exact .nils
  | nilp => exact .nilp
  | nilm => exact .nilm
  | nilf => exact .nilf
  | nili => exact .nili
  | vs g hn hc hsz hA hmem hrel => exact .vs (.vs g hn hc hsz hA hmem hrel)
theorem RelV.toT {Γ : Ctx} {a : AV} {v : Value} (h : RelV Γ a v) (hs : static a = true) : RelT Γ.S Γ.w a v := by
  cases h <;> first | (cases hs; done) | skip
  · exact .int _ _
  · exact .bool _
  · exact .str _
  · exact .nils
  · exact .nilp
  · exact .nilm
  · exact .nilf
  · exact .nili
  · assumption
theorem RelT.mono {S S' : Nat → Prop} {w w' : World} (hS : ∀ b, S b → S' b ∧ w'.heap[b]? = w.heap[b]?) {a : AV} {v : Value} (h : RelT S w a v) : RelT S' w' a v := by
  induction h with
  | int k n => exact .int k n
  | bool b => exact .bool b
  | str s => exact .str s
  | nils => exact .nils
  | nilp => exact .nilp
  | nilm => exact .nilm
  | nilf => exact .nilf
  | nili => exact .nili
  | vs g hn hc hsz hA hmem _ ih =>
    refine .vs g hn hc hsz hA (fun ad ha i j hi hj => ?_) ih
    obtain ⟨h1, h2⟩ := hmem ad ha i j hi hj
    obtain ⟨h3, h4⟩ := hS _ h2
    refine ⟨?_, h3⟩
    rw [← h1]
    have hbl : ∀ n, (ad.add n).block = ad.block := fun n => by unfold Addr.add; split <;> rfl
    unfold World.cell?
    rw [hbl, h4]

def RelX (Γ : Ctx) (β : Nat → Nat) : Slot → Value → Prop
  | .v a, v => RelV Γ a v
  | .p d off, v => v = .pointer (some ⟨β d, off, none⟩)
  | .junk, _ => True

structure RelL (Γ : Ctx) (r : LoopA) (l : Loop) : Prop where
  params : l.params.toList = r.params
  assign : l.assign = r.assign
  body : l.body = r.body
  pending : l.pending = r.pending
  st0 : r.st = 0 → l.state = .ready
  st1 : r.st ≠ 1 → l.state ≠ .busy
  env : ∀ (t : Nat) (a : AV), look r.env t = some (.v a) → t < l.tmps.size ∧ RelV Γ a (l.tmps.getD t undef)
  nop : ∀ (t d o : Nat), look r.env t ≠ some (.p d o)
  lt : ∀ (t : Nat) (x : Slot), look r.env t = some x → t < l.tmps.size
  ok : codeOk l.tmps.size r.assign = true ∧ codeOk l.tmps.size r.body = true ∧ ∀ t, t ∈ r.params → t < l.tmps.size

structure Inv (base : Nat) (Γ : Ctx) : Prop where
  dom : ∀ id b, Γ.ρ id = some b → id < Γ.H.length ∧ b < Γ.w.heap.size ∧ base ≤ b ∧ ¬ Γ.S b
  inj : ∀ id id' b, Γ.ρ id = some b → Γ.ρ id' = some b → id = id'
  cells : ∀ (id b T : Nat) (xs : List AV), Γ.ρ id = some b → Γ.H[id]? = some (.cells T xs) →
    ∃ arr : Array Value, Γ.w.heap[b]? = some (.cells arr T (0, 0)) ∧ xs.length ≤ arr.size ∧ (∀ x, x ∈ xs → oneCell x = true) ∧ ∀ (i : Nat) (x : AV), xs[i]? = some x → RelV Γ x (arr.getD i undef)
  map : ∀ (id b : Nat) (es : List (AV × AV)), Γ.ρ id = some b → Γ.H[id]? = some (.map es) →
    ∃ (ms : Array MapEntry) (clock : Nat), Γ.w.heap[b]? = some (.map ms clock) ∧ ms.size = es.length ∧ ∀ (i : Nat) (e : AV × AV), es[i]? = some e → ∃ m : MapEntry, ms[i]? = some m ∧ RelV Γ e.1 m.key ∧ RelV Γ e.2 m.val
  loop : ∀ (id b : Nat) (r : LoopA), Γ.ρ id = some b → Γ.H[id]? = some (.loop r) → ∃ l : Loop, Γ.w.heap[b]? = some (.loop l) ∧ RelL Γ r l
  stab : ∀ b, Γ.S b → b < Γ.w.heap.size

/-- What a step keeps. B: blocks of one's own that it may write. lo: objects before this one stay as they are. -/
structure Ext (lo : Nat) (B : Nat → Prop) (Γ Γ' : Ctx) : Prop where
  len : Γ.H.length ≤ Γ'.H.length
  cells : ∀ (id T : Nat) (xs' : List AV), id < Γ.H.length → Γ'.H[id]? = some (.cells T xs') → ∃ xs : List AV, Γ.H[id]? = some (.cells T xs) ∧ (xs.length < xs'.length ∨ (xs.length = xs'.length ∧ Γ'.ρ id = Γ.ρ id))
  map : ∀ (id : Nat) (es' : List (AV × AV)), id < Γ.H.length → Γ'.H[id]? = some (.map es') → ∃ es, Γ.H[id]? = some (.map es) ∧ Γ'.ρ id = Γ.ρ id
  loop : ∀ (id : Nat) (r' : LoopA), id < Γ.H.length → Γ'.H[id]? = some (.loop r') → ∃ r, Γ.H[id]? = some (.loop r) ∧ Γ'.ρ id = Γ.ρ id
  absent : ∀ id, id < Γ.H.length → Γ.ρ id = none → Γ'.ρ id = none
  barrier : ∀ id, id < lo → id < Γ.H.length → Γ'.H[id]? = Γ.H[id]? ∧ Γ'.ρ id = Γ.ρ id ∧ ∀ b, Γ.ρ id = some b → b < Γ.w.heap.size → Γ'.w.heap[b]? = Γ.w.heap[b]?
  sizes : ∀ (b : Nat) (arr : Array Value) (T : TypeId) (fr : Nat × Nat), Γ.w.heap[b]? = some (.cells arr T fr) → ∃ (arr' : Array Value) (fr' : Nat × Nat), Γ'.w.heap[b]? = some (.cells arr' T fr') ∧ arr'.size = arr.size
  keep : ∀ b, b < Γ.w.heap.size → (∀ id, Γ.ρ id ≠ some b) → ¬ B b → Γ'.w.heap[b]? = Γ.w.heap[b]?
  fresh : ∀ id b, Γ'.ρ id = some b → (∃ id0, Γ.ρ id0 = some b) ∨ Γ.w.heap.size ≤ b
  stab : ∀ b, Γ.S b → Γ'.S b
  stabN : ∀ b, Γ'.S b → Γ.S b ∨ (∃ id, Γ.ρ id = some b) ∨ Γ.w.heap.size ≤ b
  size : Γ.w.heap.size ≤ Γ'.w.heap.size
  os : Γ'.w.os = Γ.w.os
  tape : Γ'.w.tape = Γ.w.tape
  output : Γ'.w.output = Γ.w.output

theorem Ext.refl (lo : Nat) (B : Nat → Prop) (Γ : Ctx) : Ext lo B Γ Γ where
  len := Nat.le_refl _
  cells _ _ xs' _ h := ⟨xs', h, .inr ⟨rfl, rfl⟩⟩
  map _ es' _ h := ⟨es', h, rfl⟩
  loop _ r' _ h := ⟨r', h, rfl⟩
  absent _ _ h := h
  barrier _ _ _ := ⟨rfl, rfl, fun _ _ _ => rfl⟩
  sizes _ arr _ fr h := ⟨arr, fr, h, rfl⟩
  keep _ _ _ _ := rfl
  fresh id b h := .inl ⟨id, h⟩
  stab _ h := h
  stabN _ h := .inl h
  size := Nat.le_refl _
  os := rfl
  tape := rfl
  output := rfl

theorem cells_lt {H : Heap} {id : Nat} {o : HObj} (h : H[id]? = some o) : id < H.length := by
  rcases Nat.lt_or_ge id H.length with h' | h'
  · exact h'
  · rw [List.getElem?_eq_none h'] at h; cases h

theorem Ext.trans {lo lo' : Nat} {B B' : Nat → Prop} {Γ Γ1 Γ2 : Ctx} (h : Ext lo B Γ Γ1) (k : Ext lo' B' Γ1 Γ2) (hlo : lo ≤ lo') (hB : ∀ b, b < Γ.w.heap.size → (∀ id, Γ.ρ id ≠ some b) → B' b → B b) : Ext lo B Γ Γ2 where
  len := Nat.le_trans h.len k.len
  cells id T xs' hid h2 := by
    obtain ⟨xs1, h1, c1⟩ := k.cells id T xs' (Nat.lt_of_lt_of_le hid h.len) h2
    obtain ⟨xs, h0, c0⟩ := h.cells id T xs1 hid h1
    refine ⟨xs, h0, ?_⟩
    rcases c0 with c0 | ⟨c0, e0⟩
    · rcases c1 with c1 | ⟨c1, e1⟩ <;> (left; omega)
    · rcases c1 with c1 | ⟨c1, e1⟩
      · left; omega
      · exact .inr ⟨by omega, e1.trans e0⟩
  map id es' hid h2 := by
    obtain ⟨es1, h1, e1⟩ := k.map id es' (Nat.lt_of_lt_of_le hid h.len) h2
    obtain ⟨es, h0, e0⟩ := h.map id es1 hid h1
    exact ⟨es, h0, e1.trans e0⟩
  loop id r' hid h2 := by
    obtain ⟨r1, h1, e1⟩ := k.loop id r' (Nat.lt_of_lt_of_le hid h.len) h2
    obtain ⟨r, h0, e0⟩ := h.loop id r1 hid h1
    exact ⟨r, h0, e1.trans e0⟩
  absent id hid h0 := k.absent id (Nat.lt_of_lt_of_le hid h.len) (h.absent id hid h0)
  barrier id hl hid := by
    obtain ⟨a, b, e⟩ := h.barrier id hl hid
    obtain ⟨c, d, e'⟩ := k.barrier id (by omega) (Nat.lt_of_lt_of_le hid h.len)
    exact ⟨c.trans a, d.trans b, fun x hx hlt => (e' x (b.trans hx) (Nat.lt_of_lt_of_le hlt h.size)).trans (e x hx hlt)⟩
  sizes b arr T fr h0 := by
    obtain ⟨a1, f1, h1, s1⟩ := h.sizes b arr T fr h0
    obtain ⟨a2, f2, h2, s2⟩ := k.sizes b a1 T f1 h1
    exact ⟨a2, f2, h2, s2.trans s1⟩
  keep b hb hρ hnB := by
    rw [← h.keep b hb hρ hnB]
    refine k.keep b (Nat.lt_of_lt_of_le hb h.size) (fun id e => ?_) (fun e => hnB (hB b hb hρ e))
    rcases h.fresh id b e with ⟨id0, e0⟩ | e0
    · exact hρ id0 e0
    · omega
  fresh id b e := by
    rcases k.fresh id b e with ⟨id1, e1⟩ | e1
    · exact h.fresh id1 b e1
    · have := h.size; right; omega
  stab b hb := k.stab b (h.stab b hb)
  stabN b hb := by
    rcases k.stabN b hb with h1 | ⟨id1, h1⟩ | h1
    · exact h.stabN b h1
    · rcases h.fresh id1 b h1 with h2 | h2
      · exact .inr (.inl h2)
      · exact .inr (.inr h2)
    · have := h.size; exact .inr (.inr (by omega))
  size := Nat.le_trans h.size k.size
  os := k.os.trans h.os
  tape := k.tape.trans h.tape
  output := k.output.trans h.output

theorem Ext.weaken {lo lo' : Nat} {B B' : Nat → Prop} {Γ Γ' : Ctx} (h : Ext lo B Γ Γ') (hlo : lo' ≤ lo) (hB : ∀ b, b < Γ.w.heap.size → B b → B' b) : Ext lo' B' Γ Γ' where
  len := h.len
  cells := h.cells
  map := h.map
  loop := h.loop
  absent := h.absent
  barrier id hl hid := h.barrier id (by omega) hid
  sizes := h.sizes
  keep b hb hρ hn := h.keep b hb hρ (fun e => hn (hB b hb e))
  fresh := h.fresh
  stab := h.stab
  stabN := h.stabN
  size := h.size
  os := h.os
  tape := h.tape
  output := h.output

theorem cell_of_heap {w w' : World} {a : Addr} (h : w'.heap[a.block]? = w.heap[a.block]?) : w'.cell? a = w.cell? a := by
  unfold World.cell?; rw [h]

theorem add_block (a : Addr) (n : Nat) : (a.add n).block = a.block := by unfold Addr.add; split <;> rfl

/-- A stable block stays as it is. -/
theorem Ext.stable {lo : Nat} {B : Nat → Prop} {base : Nat} {Γ Γ' : Ctx} (h : Ext lo B Γ Γ') (I : Inv base Γ) {b : Nat} (hs : Γ.S b) (hB : ∀ b, Γ.S b → ¬ B b) : Γ'.w.heap[b]? = Γ.w.heap[b]? :=
  h.keep b (I.stab b hs) (fun id e => (I.dom id b e).2.2.2 hs) (hB b hs)

theorem RelV.ext {lo : Nat} {B : Nat → Prop} {base : Nat} {Γ Γ' : Ctx} (h : Ext lo B Γ Γ') (I : Inv base Γ) (hB : ∀ b, Γ.S b → ¬ B b) {a : AV} {v : Value} (hr : RelV Γ a v) : RelV Γ' a v := by
  induction hr with
  | int k n => exact .int k n
  | bool b => exact .bool b
  | str s => exact .str s
  | nils => exact .nils
  | nilp => exact .nilp
  | nilm => exact .nilm
  | nilf => exact .nilf
  | nili => exact .nili
  | @sl id sz off len v hin h1_ h0 =>
    refine .sl (Nat.lt_of_lt_of_le hin h.len) h1_ fun T xs' hx => ?_
    obtain ⟨xs, h1, hc⟩ := h.cells id T xs' hin hx
    obtain ⟨h2, h3⟩ := h0 T xs h1
    rcases hc with hc | ⟨hc, he⟩
    · exact ⟨by omega, fun e => absurd e (by omega)⟩
    · refine ⟨by omega, fun e => ?_⟩
      obtain ⟨b, c, arr, T', fr, hb, hv, hcl, hh, hsz⟩ := h3 (by omega)
      obtain ⟨arr', fr', hh', hs'⟩ := h.sizes b arr T' fr hh
      exact ⟨b, c, arr', T', fr', he.trans hb, hv, hcl, hh', by omega⟩
  | @hp id n off v hin h1_ h0 =>
    refine .hp (Nat.lt_of_lt_of_le hin h.len) h1_ fun T xs' hx => ?_
    obtain ⟨xs, h1, hc⟩ := h.cells id T xs' hin hx
    obtain ⟨h2, h3⟩ := h0 T xs h1
    rcases hc with hc | ⟨hc, he⟩
    · exact ⟨by omega, fun e => absurd e (by omega)⟩
    · refine ⟨by omega, fun e => ?_⟩
      obtain ⟨b, hb, hv⟩ := h3 (by omega)
      exact ⟨b, he.trans hb, hv⟩
  | @mp id v hin h1_ h0 =>
    refine .mp (Nat.lt_of_lt_of_le hin h.len) h1_ fun es' hx => ?_
    obtain ⟨es, h1, he⟩ := h.map id es' hin hx
    obtain ⟨b, hb, hv⟩ := h0 es h1
    exact ⟨b, he.trans hb, hv⟩
  | vs hT => exact .vs (hT.mono fun b hs => ⟨h.stab b hs, h.stable I hs hB⟩)
  | rp g h1_ hmem hrel =>
    refine .rp g h1_ (fun j hj => ?_) (fun j x hx => (hrel j x hx).mono fun b hs => ⟨h.stab b hs, h.stable I hs hB⟩)
    obtain ⟨h1, h2⟩ := hmem j hj
    refine ⟨?_, h.stab _ h2⟩
    rw [← h1]
    exact cell_of_heap (by rw [add_block]; exact h.stable I h2 hB)
  | fn hn _ ih => exact .fn hn ih
  | @yield id v hin h1_ h0 =>
    refine .yield (Nat.lt_of_lt_of_le hin h.len) h1_ fun r' hx => ?_
    obtain ⟨r, h1, he⟩ := h.loop id r' hin hx
    obtain ⟨b, hb, hv⟩ := h0 r h1
    exact ⟨b, he.trans hb, hv⟩
  | agg hn h1_ _ ih => exact .agg hn h1_ ih
  | tup hn _ ih => exact .tup hn ih
  | iface _ ih => exact .iface ih

/-- What holds of an activation: its temporaries, its variables, its marks. n0: the heap's size as it began. -/
structure RelS (base n0 : Nat) (Γ : Ctx) (β : Nat → Nat) (s : St) (a : Act) : Prop where
  inv : Inv base Γ
  sz : base ≤ n0 ∧ n0 ≤ Γ.w.heap.size
  heap : Γ.H = s.heap
  env : ∀ (t : Nat) (x : Slot), look s.env t = some x → t < a.tmps.size ∧ RelX Γ β x (a.tmps.getD t undef)
  loc : ∀ (d : Nat) (xs : List AV), look s.loc d = some xs → ∃ (arr : Array Value) (T : TypeId), Γ.w.heap[β d]? = some (.cells arr T (0, 0)) ∧ arr.size = xs.length ∧ (∀ x, x ∈ xs → oneCell x = true) ∧ (∀ (i : Nat) (x : AV), xs[i]? = some x → RelV Γ x (arr.getD i undef)) ∧
    (∀ id, Γ.ρ id ≠ some (β d)) ∧ ¬ Γ.S (β d) ∧ base ≤ β d ∧ n0 ≤ β d
  linj : ∀ (d d' : Nat) (xs xs' : List AV), look s.loc d = some xs → look s.loc d' = some xs' → β d = β d' → d = d'
  marks : ∃ rs : List Nat, a.defers = rs.map (fun r => { target := .collected r, args := #[] }) ∧ rs.Nodup ∧ ∀ r, r ∈ rs → Γ.w.heap[r]? = some (.deferred (some [])) ∧ (∀ id, Γ.ρ id ≠ some r) ∧ ¬ Γ.S r ∧ n0 ≤ r

/-- The world and the heap move on; nothing of this activation's own is touched. -/
theorem RelS.ext {lo : Nat} {base n0 : Nat} {Γ Γ' : Ctx} {β : Nat → Nat} {s : St} {a : Act} (R : RelS base n0 Γ β s a) (h : Ext lo (fun _ => False) Γ Γ') (I' : Inv base Γ') :
    RelS base n0 Γ' β { s with heap := Γ'.H } a where
  inv := I'
  sz := ⟨R.sz.1, Nat.le_trans R.sz.2 h.size⟩
  heap := rfl
  env t x hx := by
    obtain ⟨h1, h2⟩ := R.env t x hx
    refine ⟨h1, ?_⟩
    cases x with
    | v a => exact RelV.ext h R.inv (fun _ _ e => e) h2
    | p d off => exact h2
    | junk => trivial
  loc d xs hx := by
    obtain ⟨arr, T, h1, h2, ho, h3, h4, h5, h6, h7⟩ := R.loc d xs hx
    have hlt : β d < Γ.w.heap.size := by
      rcases Nat.lt_or_ge (β d) Γ.w.heap.size with h' | h'
      · exact h'
      · rw [Array.getElem?_eq_none h'] at h1; cases h1
    refine ⟨arr, T, (h.keep _ hlt h4 (fun e => e)).trans h1, h2, ho, fun i x hi => RelV.ext h R.inv (fun _ _ e => e) (h3 i x hi), fun id e => ?_, fun e => ?_, h6, h7⟩
    · rcases h.fresh id _ e with ⟨id0, e0⟩ | e0
      · exact h4 id0 e0
      · omega
    · rcases h.stabN _ e with e | ⟨id, e⟩ | e
      · exact h5 e
      · exact h4 id e
      · omega
  linj := R.linj
  marks := by
    obtain ⟨rs, h1, hnd, h2⟩ := R.marks
    refine ⟨rs, h1, hnd, fun r hr => ?_⟩
    obtain ⟨h3, h4, h5, h6⟩ := h2 r hr
    have hlt : r < Γ.w.heap.size := by
      rcases Nat.lt_or_ge r Γ.w.heap.size with h' | h'
      · exact h'
      · rw [Array.getElem?_eq_none h'] at h3; cases h3
    refine ⟨(h.keep _ hlt h4 (fun e => e)).trans h3, fun id e => ?_, fun e => ?_, h6⟩
    · rcases h.fresh id _ e with ⟨id0, e0⟩ | e0
      · exact h4 id0 e0
      · omega
    · rcases h.stabN _ e with e | ⟨id, e⟩ | e
      · exact h5 e
      · exact h4 id e
      · omega

theorem look_cons {α : Type} (k : Nat) (x : α) (l : List (Nat × α)) (t : Nat) : look ((k, x) :: l) t = if k = t then some x else look l t := by
  simp only [look, beq_iff_eq]

theorem RelV.oneCell {Γ : Ctx} {a : AV} {v : Value} (h : RelV Γ a v) (h1 : oneCell a = true) : v.oneCell' = true := by
  cases h <;> first | rfl | (cases h1; done) | (rename_i h2; obtain ⟨_, _, rfl⟩ := h2; rfl) | (rename_i h2 _; obtain ⟨_, _, rfl⟩ := h2; rfl) | (rename_i h2 _; obtain ⟨_, rfl⟩ := h2; rfl)

/-- A slot is written. -/
theorem RelS.put {base n0 : Nat} {Γ : Ctx} {β : Nat → Nat} {s : St} {a : Act} (R : RelS base n0 Γ β s a) (d : Option Tmp) (hd : ∀ t, d = some t → t < a.tmps.size) {x : Slot} {v : Value} (hx : RelX Γ β x v) :
    RelS base n0 Γ β (s.put d x) (a.put d v) := by
  cases d with
  | none => exact R
  | some d =>
    have hlt := hd d rfl
    refine { R with env := fun t y hy => ?_ }
    simp only [St.put, look_cons] at hy
    simp only [Act.put, Array.size_setIfInBounds]
    split at hy
    · rename_i e
      subst e
      injection hy with hy
      subst hy
      refine ⟨hlt, ?_⟩
      have : (a.tmps.setIfInBounds d v).getD d undef = v := by simp [Array.getD_eq_getD_getElem?, hlt]
      rw [this]; exact hx
    · rename_i e
      obtain ⟨h1, h2⟩ := R.env t y hy
      refine ⟨h1, ?_⟩
      have : (a.tmps.setIfInBounds d v).getD t undef = a.tmps.getD t undef := by
        simp [Array.getD_eq_getD_getElem?, Array.getElem?_setIfInBounds, e]
      rw [this]; exact h2

end Go.Ev
