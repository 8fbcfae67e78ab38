/- An evaluator over the program's code, on values of its own: what a call comes to, whatever the memory, the capacities and the orders are. Its soundness is proved in EvSound. -/
import Derived.OrdersIn
import Derived.RangeFuncIn
import Derived.DataReads
import Derived.Below
import Derived.Laws.Sem
import Derived.Laws.CopyRow
import Derived.Laws.Cells
import Derived.Laws.Entries
import Derived.Laws.StructEq
import Derived.WalkSpells
import Derived.Deep.AppendSrc
set_option linter.unusedVariables false
set_option linter.unusedSimpArgs false
namespace Go.Ev
/-- A value: whole slices that are only read ('vs', with the cells of each element) and pointers to such cells ('rp') bear what they hold; 'sl', 'hp', 'mp' lead to objects of the evaluator's heap. -/
inductive AV where
  | int (k : IntKind) (n : Int)
  | bool (b : Bool)
  | str (s : ByteArray)
  | nils
  | nilp
  | nilm
  | nilf
  | nili
  | sl (id sz off len : Nat)
  | hp (id n off : Nat)
  | mp (id : Nat)
  | vs (sz : Nat) (xs : List (List AV))
  | rp (xs : List AV)
  | fn (f : Fn) (caps : List AV)
  | agg (xs : List AV)
  | tup (xs : List AV)
  | iface (t : Nat) (v : AV)
/-- What a slot holds: a value, or the address of a variable of this activation (made at slot d). -/
inductive Slot where
  | v (a : AV)
  | p (d off : Nat)
  | junk
structure LoopA where
  fn : Nat
  env : List (Nat × Slot)
  params : List Nat
  assign : Code
  body : Code
  /-- 0: ready; 1: busy; 2: done -/
  st : Nat
  pending : Option Code
inductive HObj where
  | cells (t : Nat) (xs : List AV)
  | map (es : List (AV × AV))
  | loop (r : LoopA)
  | dead
abbrev Heap := List HObj
structure St where
  env : List (Nat × Slot)
  loc : List (Nat × List AV)
  heap : Heap
  /-- is it a round of a range over a function -/
  inRound : Bool
  /-- objects before this one are not to be changed -/
  lo : Nat
/-- What the evaluator knows of a type: how many cells, their zero values, how many bytes, its kind. -/
inductive TK where
  | int (k : IntKind)
  | bool
  | str
  | slice (e : Nat)
  | struct (fs : List (Nat × Nat))
  | ptr
  | map (k e : Nat)
  | func
  | iface
  | other
structure TI where
  kind : TK
  sz : Nat
  bytes : Nat
  zero : List AV
abbrev Tab := List (Nat × TI)
def look {α : Type} : List (Nat × α) → Nat → Option α
  | [], _ => none
  | (k, a) :: r, n => if k == n then some a else look r n
def TK.isAgg : TK → Bool
  | .struct _ => true
  | _ => false
def cellsOf : AV → Option (List AV)
  | .agg xs => some xs
  | .tup _ => none
  | v => some [v]
def oneCell : AV → Bool
  | .agg _ | .tup _ => false
  | _ => true
/-- A value of n cells out of cells. -/
def part (ti : TI) (xs : List AV) (off : Nat) : Option AV :=
  if ti.kind.isAgg then
    if off + ti.sz ≤ xs.length then some (.agg ((xs.drop off).take ti.sz)) else none
  else xs[off]?
def setCells (xs : List AV) (off : Nat) (ys : List AV) : List AV := xs.take off ++ ys ++ xs.drop (off + ys.length)
def simpleV : Value → Option AV
  | .int k n => some (.int k n)
  | .bool b => some (.bool b)
  | .string s => some (.str s)
  | .slice none 0 0 => some .nils
  | .pointer none => some .nilp
  | .map none => some .nilm
  | .nilFunc => some .nilf
  | .nilIface => some .nili
  | _ => none
def constV : Value → Option AV
  | .agg cs => (cs.toList.mapM simpleV).map .agg
  | .func (.func f) first caps => if first.isEmpty && caps.isEmpty then some (.fn (.func f) []) else none
  | v => simpleV v
def St.slot (s : St) : Operand → Option Slot
  | .tmp t => look s.env t
  | .const v => (constV v).map .v
  | .func f => some (.v (.fn (.func f) []))
  | .global _ => none
def St.val (s : St) (x : Operand) : Option AV :=
  match s.slot x with
  | some (.v a) => some a
  | _ => none
def St.vals (s : St) : List Operand → Option (List AV)
  | [] => some []
  | x :: r => match s.val x with
    | some a => match s.vals r with
      | some l => some (a :: l)
      | none => none
    | none => none
def St.put (s : St) (d : Option Tmp) (x : Slot) : St :=
  match d with
  | some d => { s with env := (d, x) :: s.env }
  | none => s
def St.putv (s : St) (d : Option Tmp) (a : AV) : St := s.put d (.v a)
/-- The variable d is made anew: what led to the old one is forgotten. -/
def killP (d : Nat) : Slot → Slot
  | .p e off => if e == d then .junk else .p e off
  | x => x
def kills (d : Nat) : List (Nat × Slot) → List (Nat × Slot)
  | [] => []
  | (t, x) :: l => (t, killP d x) :: kills d l
def bitsOf (op : BinOp) (k : IntKind) (x y : Int) : Option Int :=
  let a := BitVec.ofInt k.bits x
  let b := BitVec.ofInt k.bits y
  match op with
  | .and => some (k.wrap (a &&& b).toNat)
  | .or => some (k.wrap (a ||| b).toNat)
  | .xor => some (k.wrap (a ^^^ b).toNat)
  | .andNot => some (k.wrap (a &&& ~~~b).toNat)
  | _ => none
def intOp (op : BinOp) (k : IntKind) (a b : Int) : Option AV :=
  match op with
  | .add => some (.int k (k.wrap (a + b)))
  | .sub => some (.int k (k.wrap (a - b)))
  | .mul => some (.int k (k.wrap (a * b)))
  | .quo => if b = 0 then none else some (.int k (k.wrap (a.tdiv b)))
  | .rem => if b = 0 then none else some (.int k (a.tmod b))
  | .eql => some (.bool (a == b))
  | .neq => some (.bool (a != b))
  | .lss => some (.bool (decide (a < b)))
  | .leq => some (.bool (decide (a ≤ b)))
  | .gtr => some (.bool (decide (a > b)))
  | .geq => some (.bool (decide (a ≥ b)))
  | op => (bitsOf op k a b).map (.int k)
def shiftOp (op : BinOp) (k : IntKind) (a b : Int) : Option AV :=
  if b < 0 then none else
  match op with
  | .shl => some (.int k (k.wrap (a * 2 ^ (min b.toNat k.bits))))
  | .shr => some (.int k (a.fdiv (2 ^ (min b.toNat k.bits))))
  | _ => none
def strOp (op : BinOp) (a b : ByteArray) : Option AV :=
  match op with
  | .eql => some (.bool (a.toList == b.toList))
  | .neq => some (.bool (!(a.toList == b.toList)))
  | .lss => some (.bool (Op.bytesLess a.toList b.toList))
  | .geq => some (.bool (!(Op.bytesLess a.toList b.toList)))
  | .add => if a.size + b.size ≤ 9223372036854775807 then some (.str (a ++ b)) else none
  | _ => none
/-- Are two keys, or two cells that hold numbers, bools, strings, the same. -/
def keyEq : TK → AV → AV → Option Bool
  | .int _, .int k a, .int k' b => if k = k' then some (a == b) else none
  | .bool, .bool a, .bool b => some (a == b)
  | .str, .str a, .str b => some (a == b)
  | _, _, _ => none
/-- Is it a slice that is surely not nil. -/
def someRow : AV → Bool
  | .sl _ _ _ _ => true
  | .vs _ (_ :: _) => true
  | _ => false
def somePtr : AV → Bool
  | .hp _ _ _ => true
  | .rp _ => true
  | _ => false
/-- Are two values of a kind equal: where that can be told. -/
def eqv : TK → AV → AV → Option Bool
  | .bool, .bool a, .bool b => some (a == b)
  | .ptr, .nilp, .nilp => some true
  | .ptr, x, .nilp => if somePtr x then some false else none
  | .slice _, .nils, .nils => some true
  | .slice _, x, .nils => if someRow x then some false else none
  | .map _ _, .nilm, .nilm => some true
  | .func, .nilf, .nilf => some true
  | .func, .fn (.func _) _, .nilf => some false
  | _, _, _ => none
def eqAll (T : Tab) : List (Nat × Nat) → List AV → List AV → Option Bool
  | [], [], [] => some true
  | (_, t) :: fs, a :: x, b :: y => match look T t with
    | some ti => match keyEq ti.kind a b with
      | some true => eqAll T fs x y
      | some false => some false
      | none => none
    | none => none
  | _, _, _ => none
def eqStruct (T : Tab) (eqs : List Nat) (t : Nat) (a b : List AV) : Option Bool :=
  if t ∈ eqs then match look T t with
    | some { kind := .struct fs, .. } => eqAll T fs a b
    | _ => none
  else none
def binop (T : Tab) (eqs : List Nat) (op : BinOp) (t : Nat) (x y : AV) : Option AV :=
  match op, x, y with
  | .shl, .int k a, .int _ b => shiftOp .shl k a b
  | .shr, .int k a, .int _ b => shiftOp .shr k a b
  | op, .int k a, .int k' b => if k = k' then intOp op k a b else none
  | op, .str a, .str b => strOp op a b
  | .eql, .agg a, .agg b => (eqStruct T eqs t a b).map .bool
  | .neq, .agg a, .agg b => (eqStruct T eqs t a b).map fun r => .bool !r
  | .eql, a, b => match look T t with
    | some ti => (eqv ti.kind a b).map .bool
    | none => none
  | .neq, a, b => match look T t with
    | some ti => (eqv ti.kind a b).map fun r => .bool !r
    | none => none
  | _, _, _ => none
def unop (op : UnOp) (x : AV) : Option AV :=
  match op, x with
  | .neg, .int k n => some (.int k (k.wrap (0 - n)))
  | .not, .bool b => some (.bool !b)
  | .xor, .int k n => (bitsOf .xor k (if k.signed then -1 else k.max) n).map (.int k)
  | _, _ => none
/-- The cells of an element, the row's own or one that is only read. -/
def lenOf : AV → Option Nat
  | .nils => some 0
  | .sl _ _ _ n => some n
  | .vs _ xs => some xs.length
  | .str s => some s.size
  | _ => none
/-- All cells that a slice shows, if it shows its object to the end. -/
def rowOf (h : Heap) (sz : Nat) : AV → Option (List AV)
  | .nils => some []
  | .vs sz' xs => if sz' = sz ∨ xs = [] then some xs.flatten else none
  | .sl id sz' off len => match h[id]? with
    | some (.cells _ xs) => if sz' = sz ∧ off + len * sz = xs.length then some (xs.drop off) else none
    | _ => none
  | _ => none
/-- make, append: at most so many bytes. -/
def room : Nat := 140737488355328
def append (T : Tab) (lo : Nat) (h : Heap) (t : Nat) (s x : AV) : Option (AV × Heap) :=
  match look T t with
  | some { kind := .slice e, .. } => match look T e with
    | some ti => match rowOf h ti.sz x, lenOf x with
      | some ys, some m => match s with
        | .nils => if m = 0 then some (.nils, h) else
            if m * ti.bytes ≤ room ∧ 0 < ti.sz ∧ m ≤ room then some (.sl h.length ti.sz 0 m, h ++ [.cells e ys]) else none
        | .sl id sz off len => match h[id]? with
          | some (.cells e' xs) =>
            if lo ≤ id ∧ e' = e ∧ sz = ti.sz ∧ off = 0 ∧ len * sz = xs.length ∧ 0 < sz ∧ (len + m) * ti.bytes ≤ room ∧ len + m ≤ room
            then some (.sl id sz 0 (len + m), h.set id (.cells e (xs ++ ys))) else none
          | _ => none
        | _ => none
      | _, _ => none
    | none => none
  | _ => none
def mapFind (kk : TK) : List (AV × AV) → AV → Option (Option AV)
  | [], _ => some none
  | (k, v) :: r, x => match keyEq kk x k with
    | some true => some (some v)
    | some false => mapFind kk r x
    | none => none
def mapPut (kk : TK) : List (AV × AV) → AV → AV → Option (List (AV × AV))
  | [], x, y => some [(x, y)]
  | (k, v) :: r, x, y => match keyEq kk x k with
    | some true => some ((x, y) :: r)
    | some false => (mapPut kk r x y).map ((k, v) :: ·)
    | none => none
def keyKind (T : Tab) (t : Nat) (x : AV) : Option TK :=
  match look T t, x with
  | some { kind := .int k, .. }, .int _ _ => some (.int k)
  | some { kind := .bool, .. }, .bool _ => some .bool
  | some { kind := .str, .. }, .str _ => some .str
  | _, _ => none
def fillA (xs : List AV) (place : Nat → Option (Nat × Nat)) : List (Nat × AV) → Option (List AV)
  | [] => some xs
  | (i, v) :: r => match place i with
    | some (off, sz) => match cellsOf v with
      | some ys => if ys.length = sz ∧ off + sz ≤ xs.length then fillA (setCells xs off ys) place r else none
      | none => none
    | none => none
def minmax (lt : Int → Int → Bool) : AV → List AV → Option AV
  | x, [] => some x
  | .int k a, .int k' b :: r => if k = k' then minmax lt (.int k (if lt b a then b else a)) r else none
  | _, _ => none
/-- A callee, by what it is: its arguments and those that it has caught; the heap. -/
abbrev Callee := Nat → Fn → List AV → Heap → Option (AV × Heap)
/-- What leads to no object. -/
def static : AV → Bool
  | .int .. | .bool _ | .str _ | .nils | .nilp | .nilm | .nilf | .nili | .vs .. => true
  | _ => false
def chunks (sz : Nat) : Nat → List AV → List (List AV)
  | 0, _ => []
  | n + 1, xs => xs.take sz :: chunks sz n (xs.drop sz)
/-- A cell of a value whose objects (those from lo on) are not written any more; one level. -/
def frz0 (h : Heap) (lo : Nat) : AV → Option AV
  | .sl id sz off len => match h[id]? with
    | some (.cells _ xs) => if lo ≤ id ∧ off + len * sz = xs.length ∧ xs.all static = true then some (.vs sz (chunks sz len (xs.drop off))) else none
    | _ => none
  | a => if static a then some a else none
def frzL0 (h : Heap) (lo : Nat) : List AV → Option (List AV)
  | [] => some []
  | a :: l => match frz0 h lo a with
    | some b => match frzL0 h lo l with
      | some m => some (b :: m)
      | none => none
    | none => none
/-- The same; two levels. -/
def frz1 (h : Heap) (lo : Nat) : AV → Option AV
  | .sl id sz off len => match h[id]? with
    | some (.cells _ xs) => if lo ≤ id ∧ off + len * sz = xs.length ∧ xs.all static = true then some (.vs sz (chunks sz len (xs.drop off))) else
      match frzL0 h lo xs with
      | some ys => if lo ≤ id ∧ off + len * sz = xs.length then some (.vs sz (chunks sz len (ys.drop off))) else none
      | none => none
    | _ => none
  | a => if static a then some a else none
def frzL (h : Heap) (lo : Nat) : List AV → Option (List AV)
  | [] => some []
  | a :: l => match frz1 h lo a with
    | some b => match frzL h lo l with
      | some m => some (b :: m)
      | none => none
    | none => none
def frz2 (h : Heap) (lo : Nat) : AV → Option AV
  | .agg xs => match frzL h lo xs with
    | some ys => some (.agg ys)
    | none => none
  | a => frz1 h lo a
def frzM (h : Heap) (lo : Nat) : List AV → Option (List AV)
  | [] => some []
  | a :: l => match frz2 h lo a with
    | some b => match frzM h lo l with
      | some m => some (b :: m)
      | none => none
    | none => none
/-- A value whose objects (those from lo on) are not written any more. -/
def frz (h : Heap) (lo : Nat) : AV → Option AV
  | .tup xs => match frzM h lo xs with
    | some ys => some (.tup ys)
    | none => none
  | a => frz2 h lo a
/-- What a function hands back: as it is, or with its objects frozen and the heap cut back. -/
def hand (cut : Bool) (h0 : Heap) (a : AV) (h : Heap) : Option (AV × Heap) :=
  if cut then match frz h h0.length a with
    | some b => some (b, h0)
    | none => none
  else some (a, h)
/-- Where a nil slice may stand for a row without elements of so many cells each: the result itself, its rows' cells. -/
structure Nz where
  top : Nat := 0
  row : List Nat := []
def nilz (n : Nat) : AV → AV
  | .nils => if n = 0 then .nils else .vs n []
  | a => a
def nilzL : List Nat → List AV → List AV
  | n :: ns, a :: l => nilz n a :: nilzL ns l
  | _, l => l
def nzT (ns : List Nat) : List AV → List AV
  | .agg xs :: l => .agg (nilzL ns xs) :: l
  | l => l
def nzA (z : Nz) : AV → AV
  | .nils => nilz z.top .nils
  | .vs sz xs => .vs sz (xs.map (nilzL z.row))
  | .agg xs => .agg (nilzL z.row xs)
  | .tup xs => .tup (nzT z.row xs)
  | a => a
/-- What a function hands back, nil slices shown as rows. -/
def handF (nz : Option Nz) (cut : Bool) (h0 : Heap) (a : AV) (h : Heap) : Option (AV × Heap) :=
  match nz with
  | none => hand cut h0 a h
  | some z => match hand cut h0 a h with
    | some (b, h1) => some (nzA z b, h1)
    | none => none
structure Cfg where
  tab : Tab
  /-- the slots of a function's variables that outlive it -/
  esc : Nat → List Nat
  /-- the slots that live at a loop's head: by the function, by the loop's first region -/
  live : Nat → Nat → Option (List Nat)
  /-- the struct types whose values are compared cell by cell -/
  eqs : List Nat
  /-- is the heap cut back behind a function -/
  cut : Nat → Bool
  /-- calls of which it is known otherwise what they come to -/
  orc : Callee := fun _ _ _ _ => none
  /-- the slots of slice literals that nobody writes -/
  fz : Nat → List Nat := fun _ => []
  /-- where a function's result shows nil slices as rows without elements -/
  nz : Nat → Option Nz := fun _ => none
  /-- functions that only read their arguments and hand back numbers: they may be shown one's own slices as they are now -/
  vw : Nat → Bool := fun _ => false
  /-- slots whose slices are not written any more from a region on: by the function, by the region -/
  fr : Nat → Nat → List Nat := fun _ _ => []
  /-- where a struct that a function builds shows nil slices as rows: by the function, by the type -/
  nb : Nat → Nat → List Nat := fun _ _ => []
def builtin (T : Tab) (lo : Nat) (b : Builtin) (ts : List TypeId) (xs : List AV) (h : Heap) : Option (AV × Heap) :=
  match b, ts, xs with
  | .len, t :: _, [x] => match look T t, x with
    | some { kind := .slice _, .. }, .nils => some (.int .i64 0, h)
    | some { kind := .slice _, .. }, .sl _ _ _ n => some (.int .i64 n, h)
    | some { kind := .slice _, .. }, .vs _ xs => some (.int .i64 xs.length, h)
    | some { kind := .str, .. }, .str b => some (.int .i64 b.size, h)
    | some { kind := .map _ _, .. }, .mp id => match h[id]? with
      | some (.map es) => some (.int .i64 es.length, h)
      | _ => none
    | _, _ => none
  | .append, [t, u], [s, x] => match look T u with
    | some { kind := .slice _, .. } => append T lo h t s x
    | _ => none
  | .min, _, x :: r => (minmax (fun b a => decide (b < a)) x r).map (·, h)
  | .max, _, x :: r => (minmax (fun b a => decide (a < b)) x r).map (·, h)
  | _, _, _ => none
def isFz (l : List Nat) : Option Tmp → Bool
  | some d => l.contains d
  | none => false
/-- One operation. -/
def oper (C : Cfg) (K : Callee) (f : Nat) (o : Oper) (s : St) : Option St :=
  match o.op with
  | .move x | .assign x => (s.slot x).map (s.put o.dst)
  | .pick c a b => match s.val c with
    | some (.bool true) => (s.slot a).map (s.put o.dst)
    | some (.bool false) => (s.slot b).map (s.put o.dst)
    | _ => none
  | .alloc t => match look C.tab t, o.dst with
    | some ti, some d =>
      if d ∈ C.esc f then some { s with env := (d, .v (.hp s.heap.length ti.sz 0)) :: s.env, heap := s.heap ++ [.cells t ti.zero] }
      else some { s with env := (d, .p d 0) :: kills d s.env, loc := (d, ti.zero) :: s.loc }
    | _, _ => none
  | .box t x => match o.dst, (s.val x).bind cellsOf with
    | some d, some ys =>
      if d ∈ C.esc f then some { s with env := (d, .v (.hp s.heap.length ys.length 0)) :: s.env, heap := s.heap ++ [.cells t ys] }
      else some { s with env := (d, .p d 0) :: kills d s.env, loc := (d, ys) :: s.loc }
    | _, _ => none
  | .build t parts => match look C.tab t, s.vals (parts.toList.map (·.2)) with
    | some { kind := .struct fs, zero, .. }, some vs =>
      (fillA zero (fun i => match fs[i]? with
        | some (off, ft) => (look C.tab ft).map fun ti => (off, ti.sz)
        | none => none) ((parts.toList.map (·.1)).zip vs)).map fun cs => s.putv o.dst (.agg (nilzL (C.nb f t) cs))
    | _, _ => none
  | .buildSlice t len parts => match look C.tab t, s.vals (parts.toList.map (·.2)) with
    | some { kind := .slice e, .. }, some vs => match look C.tab e with
      | some ti =>
        if len * ti.sz ≤ 16777216 ∧ 0 < ti.sz then
        match fillA (List.replicate len ti.zero).flatten (fun i => some (i * ti.sz, ti.sz)) ((parts.toList.map (·.1)).zip vs) with
        | some cs =>
          if isFz (C.fz f) o.dst then if cs.all static = true then some (s.putv o.dst (.vs ti.sz (chunks ti.sz len cs))) else none
          else some { s.putv o.dst (.sl s.heap.length ti.sz 0 len) with heap := s.heap ++ [.cells e cs] }
        | none => none
        else none
      | none => none
    | _, _ => none
  | .load t x => match look C.tab t, s.slot x with
    | some ti, some (.p d off) => match look s.loc d with
      | some xs => (part ti xs off).map (s.putv o.dst)
      | none => none
    | some ti, some (.v (.hp id n off)) => match s.heap[id]? with
      | some (.cells _ xs) => if n = xs.length then (part ti xs off).map (s.putv o.dst) else none
      | _ => none
    | some ti, some (.v (.rp xs)) => (part ti xs 0).map (s.putv o.dst)
    | _, _ => none
  | .store t x y => match look C.tab t, s.slot x, (s.val y).bind cellsOf with
    | some ti, some (.p d off), some ys => match look s.loc d with
      | some xs => if ys.length = ti.sz ∧ off + ti.sz ≤ xs.length then
          some ({ s with loc := (d, setCells xs off ys) :: s.loc }.putv o.dst (.tup [])) else none
      | none => none
    | some ti, some (.v (.hp id n off)), some ys => match s.heap[id]? with
      | some (.cells e xs) => if s.lo ≤ id ∧ n = xs.length ∧ ys.length = ti.sz ∧ off + ti.sz ≤ xs.length then
          some ({ s with heap := s.heap.set id (.cells e (setCells xs off ys)) }.putv o.dst (.tup [])) else none
      | _ => none
    | _, _, _ => none
  | .nilCheck x => match s.slot x with
    | some (.p d off) => some (s.put o.dst (.p d off))
    | some (.v (.hp id n off)) => some (s.putv o.dst (.hp id n off))
    | some (.v (.rp xs)) => some (s.putv o.dst (.rp xs))
    | _ => none
  | .fieldAddr t x j => match look C.tab t, s.slot x with
    | some { kind := .struct fs, .. }, some a => match fs[j]? with
      | some (off, ft) => match look C.tab ft with
        | some ti => if ti.sz = 0 then none else match a with
          | .p d o' => some (s.put o.dst (.p d (o' + off)))
          | .v (.hp id n o') => some (s.putv o.dst (.hp id n (o' + off)))
          | .v (.rp xs) => some (s.putv o.dst (.rp (xs.drop off)))
          | _ => none
        | none => none
      | none => none
    | _, _ => none
  | .field t x j => match look C.tab t, s.val x with
    | some { kind := .struct fs, .. }, some (.agg xs) => match fs[j]? with
      | some (off, ft) => match look C.tab ft with
        | some ti => (part ti xs off).map (s.putv o.dst)
        | none => none
      | none => none
    | _, _ => none
  | .indexAddr t x i => match look C.tab t, s.val x, s.val i with
    | some { kind := .slice e, .. }, some a, some (.int _ i) => match look C.tab e with
      | some ti => if 0 ≤ i then match a with
        | .sl id sz off len => match s.heap[id]? with
          | some (.cells _ xs) => if sz = ti.sz ∧ i < len ∧ off + len * sz = xs.length then some (s.putv o.dst (.hp id xs.length (off + i.toNat * sz))) else none
          | _ => none
        | .vs sz xs => if sz = ti.sz then (xs[i.toNat]?).map fun r => s.putv o.dst (.rp r) else none
        | _ => none
        else none
      | none => none
    | _, _, _ => none
  | .index t x i => match look C.tab t, s.val x, s.val i with
    | some { kind := .str, .. }, some (.str b), some (.int _ i) => if 0 ≤ i then (b[i.toNat]?).map fun c => s.putv o.dst (.int .u8 c.toNat) else none
    | _, _, _ => none
  | .binOp op t x y _ => match s.val x, s.val y with
    | some a, some b => (binop C.tab C.eqs op t a b).map (s.putv o.dst)
    | _, _ => none
  | .unOp op _ x => match s.val x with
    | some a => (unop op a).map (s.putv o.dst)
    | none => none
  | .convert u t x => match look C.tab u, look C.tab t, s.val x with
    | some _, some { kind := .int k, .. }, some (.int _ n) => some (s.putv o.dst (.int k (k.wrap n)))
    | some _, some { kind := .str, .. }, some (.str b) => some (s.putv o.dst (.str b))
    | _, _, _ => none
  | .makeFunc (.func g) first caps => match s.vals caps.toList with
    | some vs => if first.isEmpty then some (s.putv o.dst (.fn (.func g) vs)) else none
    | none => none
  | .makeMap _ none => some { s.putv o.dst (.mp s.heap.length) with heap := s.heap ++ [.map []] }
  | .lookup t m k ok => match look C.tab t, s.val m, s.val k with
    | some { kind := .map kt e, .. }, some (.mp id), some x => match s.heap[id]?, look C.tab e with
      | some (.map es), some ti => match keyKind C.tab kt x with
        | some kk => match mapFind kk es x with
          | some (some v) => some (s.putv o.dst (if ok then .tup [v, .bool true] else v))
          | some none => (part ti ti.zero 0).map fun v => s.putv o.dst (if ok then .tup [v, .bool false] else v)
          | none => none
        | none => none
      | _, _ => none
    | _, _, _ => none
  | .mapUpdate t m k x => match s.val m, s.val k, s.val x, look C.tab t with
    | some (.mp id), some k, some v, some { kind := .map kt _, .. } => match s.heap[id]? with
      | some (.map es) => match keyKind C.tab kt k with
        | some kk => if s.lo ≤ id then (mapPut kk es k v).map fun es' => { s with heap := s.heap.set id (.map es') }.putv o.dst (.tup []) else none
        | none => none
      | _ => none
    | _, _, _, _ => none
  | .extract x i => match s.val x with
    | some (.tup vs) => (vs[i]?).map (s.putv o.dst)
    | _ => none
  | .makeInterface t x => match look C.tab t, s.val x with
    | some { kind := .iface, .. }, _ => none
    | some _, some v => some (s.putv o.dst (.iface t v))
    | _, _ => none
  | .call c => match s.vals c.args.toList with
    | some vs => match c.callee with
      | .builtin b => (builtin C.tab s.lo b c.argTypes.toList vs s.heap).map fun r => { s.putv o.dst r.1 with heap := r.2 }
      | .value x => match s.val x with
        | some (.fn g caps) => (K s.lo g (vs ++ caps) s.heap).map fun r => { s.putv o.dst r.1 with heap := r.2 }
        | _ => none
      | .invoke .. => none
    | none => none
  | _ => none
def guardOn (ops : Array Oper) (o : Oper) (s : St) : Option Bool :=
  match o.guard with
  | none => some true
  | some (j, want) => match (ops[j]?).bind (·.dst) with
    | some d => match look s.env d with
      | some (.v (.bool b)) => some (b == want)
      | some (.v (.tup [])) => some false
      | _ => none
    | none => none
def opers (C : Cfg) (K : Callee) (f : Nat) (ops : Array Oper) : List Oper → St → Option St
  | [], s => some s
  | o :: r, s => match guardOn ops o s with
    | some true => match oper C K f o s with
      | some s' => opers C K f ops r s'
      | none => none
    | some false => opers C K f ops r (s.putv o.dst (.tup []))
    | none => none
inductive Ex where
  | normal
  | exit (id : Nat)
  | ret
def firstRegion : Code → Nat
  | .region id _ _ => id
  | .seq a _ => firstRegion a
  | .block _ b => firstRegion b
  | .loop b => firstRegion b
  | _ => 0
def restr {α : Type} (l : List Nat) (env : List (Nat × α)) : List (Nat × α) := l.filterMap fun t => (look env t).map fun x => (t, x)
def keep (s : St) (l : List Nat) : St :=
  { s with env := l.filterMap fun t => (look s.env t).map fun x => (t, x), loc := l.filterMap fun t => (look s.loc t).map fun x => (t, x) }
def prune (l : Option (List Nat)) (s : St) : St :=
  match l with
  | some l => keep s l
  | none => s
def rounds (step : St → Option (Ex × St)) (l : Option (List Nat)) : Nat → St → Option (Ex × St)
  | 0, _ => none
  | n + 1, s => match step (prune l s) with
    | some (.normal, s') => rounds step l n s'
    | r => r
/-- The slots that an operation looks at or writes. -/
def namesOf (ops : Array Oper) (o : Oper) : List Nat :=
  o.dst.toList ++ (o.op.operands.toList.filterMap fun | .tmp t => some t | _ => none) ++
    (match o.guard with | some (j, _) => ((ops[j]?).bind (·.dst)).toList | none => [])
/-- For each operation those that stand ahead of it, as bits. -/
def bitsBefore (acc : List Nat) (o : Oper) : Nat :=
  o.after.toList.foldl (fun s e => if Region.binds .any e then s ||| 2 ^ e.on ||| acc.getD e.on 0 else s) 0
def befores : List Oper → List Nat → List Nat
  | [], acc => acc
  | o :: r, acc => befores r (acc ++ [bitsBefore acc o])
def befs (ops : Array Oper) : List Nat := befores ops.toList []
/-- Stands operation i ahead of or behind each other one, whatever the order is? -/
def alone (b : List Nat) (n i : Nat) : Bool :=
  (List.range n).all fun j => j == i || (if j < i then (b.getD i 0).testBit j else (b.getD j 0).testBit i)
def isLocal (C : Cfg) (f : Nat) (o : Oper) : Bool := match o.op with
  | .alloc _ | .box .. => match o.dst with
    | some d => !(d ∈ C.esc f)
    | none => true
  | .store .. => true
  | _ => false
/-- An operation of a region that draws its order, that may come before or behind another: what lay there stays as it is. -/
def stepD (C : Cfg) (K : Callee) (f : Nat) (ops : Array Oper) (o : Oper) (s : St) : Option St :=
  if isLocal C f o then none else
  match oper C K f o { s with env := restr (namesOf ops o) s.env, lo := s.heap.length } with
  | some s' => match o.dst with
    | none => some { s with heap := s.heap ++ s'.heap.drop s.heap.length }
    | some d => match look s'.env d with
      | some x => some { s with env := (d, x) :: s.env, heap := s.heap ++ s'.heap.drop s.heap.length }
      | none => none
  | none => none
/-- An operation that only looks: what it yields hangs on its slots, or on one variable. -/
def looker (o : Oper) : Bool := o.guard.isNone && (match o.op with | .extract .. | .move _ | .load .. => true | _ => false) &&
  (match o.dst with | some d => o.op.operands.toList.all (fun | .tmp t => t != d | _ => true) | none => true)
def storer (o : Oper) : Bool := o.guard.isNone && (match o.op with | .store .. => true | _ => false)
/-- Those that may come before or behind operation i. -/
def lone (b : List Nat) (n i : Nat) : List Nat := (List.range n).filter fun j => !(j == i || (if j < i then (b.getD i 0).testBit j else (b.getD j 0).testBit i))
/-- Does the second write elsewhere than where the first looks? -/
def others (C : Cfg) (k o : Oper) (s : St) : Bool := match k.op, o.op with
  | .load t x, .store _ y _ => match s.slot x, s.slot y, look C.tab t with
    | some (.p d off), some y, some ti => (match look s.loc d with
      | some xs => (part ti xs off).isSome
      | none => false) && (match y with
      | .p d' _ => d != d'
      | .v (.hp _ _ _) => true
      | _ => false)
    | _, _, _ => false
  | .load .., _ => false
  | _, _ => true
/-- A store that one operation alone may come before or behind, which only looks; whatever else comes behind the store comes behind that one too. -/
def nearly (C : Cfg) (ops : Array Oper) (b : List Nat) (o : Oper) (i : Nat) (s : St) : Bool := storer o && o.dst.isNone && match lone b ops.size i with
  | [k] => decide (k < i) && (List.range ops.size).all (fun j => decide (j ≤ i) || (b.getD j 0).testBit k) && (match ops[k]? with
    | some ok => looker ok && others C ok o s
    | none => false)
  | _ => false
def stepN (C : Cfg) (K : Callee) (f : Nat) (ops : Array Oper) (b : List Nat) (o : Oper) (i : Nat) (s : St) : Option St := match stepD C K f ops o s with
  | some s' => some s'
  | none => if nearly C ops b o i s then oper C K f o s else none
theorem stepN_of {C : Cfg} {K : Callee} {f : Nat} {ops : Array Oper} {b : List Nat} {o : Oper} {i : Nat} {s s' : St} (h : stepD C K f ops o s = some s') : stepN C K f ops b o i s = some s' := by
  unfold stepN; rw [h]
theorem stepN_near {C : Cfg} {K : Callee} {f : Nat} {ops : Array Oper} {b : List Nat} {o : Oper} {i : Nat} {s s' : St} (hn : nearly C ops b o i s = true) (h : oper C K f o s = some s') : stepN C K f ops b o i s = some s' := by
  have hs : stepD C K f ops o s = none := by
    unfold nearly storer at hn
    unfold stepD isLocal
    cases ho : o.op <;> rw [ho] at hn <;> simp at hn ⊢
  unfold stepN; rw [hs]; dsimp only; rw [if_pos hn, h]
def opersD (C : Cfg) (K : Callee) (f : Nat) (ops : Array Oper) (b : List Nat) : List Oper → Nat → St → Option St
  | [], _, s => some s
  | o :: r, i, s => match guardOn ops o s with
    | some true => match (if alone b ops.size i then oper C K f o s else stepN C K f ops b o i s) with
      | some s' => opersD C K f ops b r (i + 1) s'
      | none => none
    | some false => opersD C K f ops b r (i + 1) (s.putv o.dst (.tup []))
    | none => none
def drawOk (ops : Array Oper) : Bool :=
  let b := befs ops
  (List.range ops.size).all fun i => match ops[i]? with
    | none => false
    | some o => (o.after.all fun e => !Region.binds .any e || decide (e.on < i)) &&
      (List.range ops.size).all fun j => j == i || (match (ops[j]?).bind (·.dst) with
        | some d => !((namesOf ops o).contains d) || (if j < i then (b.getD i 0).testBit j else (b.getD j 0).testBit i)
        | none => true)
/-- All but a region's last three operations. -/
def preOf (ops : Array Oper) : Array Oper := ⟨ops.toList.take (ops.size - 3)⟩
def opNe (d : Nat) : Operand → Bool
  | .tmp t => t != d
  | _ => true
/-- The address of an element, a store, another store. -/
def tailShape (o0 o1 o2 : Oper) : Bool := match o0.op, o0.dst, o1.op, o2.op with
  | .indexAddr _ _ _, some d, .store _ _ _, .store _ z y => o0.guard.isNone && o1.guard.isNone && o2.guard.isNone && o1.dst.isNone && o2.dst.isNone && opNe d z && opNe d y
  | _, _, _, _ => false
/-- The last three operations are the address of an element, a store, and another store that may come before those two; all others come ahead of the three. -/
def tailOk (ops : Array Oper) : Bool := decide (3 < ops.size) && (match ops[ops.size - 3]?, ops[ops.size - 2]?, ops[ops.size - 1]? with
  | some o0, some o1, some o2 => tailShape o0 o1 o2
  | _, _, _ => false) && !((befs ops).getD (ops.size - 1) 0).testBit (ops.size - 2) && ((befs ops).getD (ops.size - 2) 0).testBit (ops.size - 3) &&
  (List.range 3).all (fun k => (List.range (ops.size - 3)).all fun j => ((befs ops).getD (ops.size - 3 + k) 0).testBit j) &&
  (List.range (ops.size - 3)).all (fun j => match ops[j]? with
    | some o => match o.guard with
      | some (i, _) => decide (i < ops.size - 3)
      | none => true
    | none => false) && drawOk (preOf ops)
/-- Does the last store write elsewhere than the others look and write? -/
def tailApart (o0 o1 o2 : Oper) (s1 s2 : St) : Bool := match o0.op, o1.op, o2.op with
  | .indexAddr _ x _, .store _ y _, .store _ z _ => match s1.val x, s2.slot y, s2.slot z with
    | some (.sl a _ _ _), some (.v (.hp b _ _)), some (.v (.hp c _ _)) => a != c && b != c
    | _, _, _ => false
  | _, _, _ => false
def tailD (C : Cfg) (K : Callee) (f : Nat) (ops : Array Oper) (s : St) : Option St :=
  match opersD C K f (preOf ops) (befs (preOf ops)) (preOf ops).toList 0 s with
  | some s1 => match ops[ops.size - 3]?, ops[ops.size - 2]?, ops[ops.size - 1]? with
    | some o0, some o1, some o2 => match oper C K f o0 s1 with
      | some s2 => if tailApart o0 o1 o2 s1 s2 then match oper C K f o1 s2 with
        | some s3 => oper C K f o2 s3
        | none => none
        else none
      | none => none
    | _, _, _ => none
  | none => none
/-- A region that draws its order. -/
def regionD (C : Cfg) (K : Callee) (f : Nat) (ops : Array Oper) (s : St) : Option St :=
  if tailOk ops then tailD C K f ops s else opersD C K f ops (befs ops) ops.toList 0 s
/-- The slice of a slot is not written any more: it is what it holds. -/
def frzSlot (t : Nat) (s : St) : St :=
  match look s.env t with
  | some (.v (.sl id sz off len)) => match s.heap[id]? with
    | some (.cells _ xs) => if s.lo ≤ id ∧ off + len * sz = xs.length ∧ xs.all static = true then { s with env := (t, .v (.vs sz (chunks sz len (xs.drop off)))) :: s.env, heap := s.heap.set id .dead } else s
    | _ => s
  | _ => s
def frzSlots : List Nat → St → St
  | [], s => s
  | t :: l, s => frzSlots l (frzSlot t s)
def exec (C : Cfg) (K : Callee) (f : Nat) (fuel : Nat) : Code → St → Option (Ex × St)
  | .skip, s => some (.normal, s)
  | .region id ops draw, s => (if draw then regionD C K f ops (frzSlots (C.fr f id) s) else opers C K f ops ops.toList (frzSlots (C.fr f id) s)).map (Ex.normal, ·)
  | .seq a b, s => match exec C K f fuel a s with
    | some (.normal, s') => exec C K f fuel b s'
    | r => r
  | .cond c x y, s => match s.val c with
    | some (.bool true) => exec C K f fuel x s
    | some (.bool false) => exec C K f fuel y s
    | _ => none
  | .block id b, s => match exec C K f fuel b s with
    | some (.exit i, s') => if i == id then some (.normal, s') else some (.exit i, s')
    | r => r
  | .loop b, s => rounds (exec C K f fuel b) (C.live f (firstRegion b)) fuel s
  | .rangeFunc g ps assign body, s => match s.val g, s.inRound with
    | some (.fn (.func h) caps), false =>
      let l := s.heap.length
      if s.lo ≤ l then
      let rec_ : LoopA := { fn := f, env := s.env.map fun x => (x.1, match x.2 with | .v a => Slot.v a | _ => Slot.junk), params := ps.toList, assign, body, st := 0, pending := none }
      match K s.lo (.func h) ([.fn (.yield l) []] ++ caps) (s.heap ++ [.loop rec_]) with
      | some (_, heap') => match heap'[l]? with
        | some (.loop r) => if r.st = 1 then none else match r.pending with
          | none => some (.normal, { s with heap := heap'.set l .dead })
          | some .ret => some (.ret, { s with heap := heap'.set l .dead })
          | some (.exit id) => some (.exit id, { s with heap := heap'.set l .dead })
          | _ => none
        | _ => none
      | none => none
      else none
    | _, _ => none
  | .exit id, s => some (.exit id, s)
  | .ret, s => some (.ret, s)
  | .label _, s => some (.normal, s)
  | _, _ => none
def resultOf (C : Cfg) (s : St) : ResultVar → Option AV
  | .tmp t => match look s.env t with
    | some (.v a) => some a
    | _ => none
  | .cell a t => match look C.tab t, look s.env a with
    | some ti, some (.p d off) => match look s.loc d with
      | some xs => part ti xs off
      | none => none
    | some ti, some (.v (.hp id n off)) => match s.heap[id]? with
      | some (.cells _ xs) => if n = xs.length then part ti xs off else none
      | _ => none
    | _, _ => none
def resultsOf (C : Cfg) (s : St) : List ResultVar → Option (List AV)
  | [] => some []
  | r :: l => match resultOf C s r with
    | some a => match resultsOf C s l with
      | some m => some (a :: m)
      | none => none
    | none => none
def number : Nat → List AV → List (Nat × Slot)
  | _, [] => []
  | n, a :: l => (n, .v a) :: number (n + 1) l
/-- The parameters of a round, one behind the other. -/
def setParams : List (Nat × Slot) → List Nat → List AV → List (Nat × Slot)
  | env, p :: ps, a :: as => setParams ((p, .v a) :: env) ps as
  | env, _, _ => env
def scalarAV : AV → Bool
  | .int .. | .bool _ | .str _ | .nils | .nilp | .nilm | .nilf | .nili => true
  | _ => false
def hasSl : List AV → Bool
  | [] => false
  | .sl _ _ _ _ :: _ => true
  | _ :: l => hasSl l
/-- A call that is shown its arguments as they are now. -/
def view (C : Cfg) (K : Callee) (f : Nat) (args : List AV) (h : Heap) : Option (AV × Heap) :=
  match C.vw f && hasSl args with
  | false => none
  | true => match frzM h 0 args with
    | some xs => match K 0 (.func f) xs [] with
      | some (r, _) => match scalarAV r with
        | true => some (r, h)
        | false => none
      | none => none
    | none => none
/-- A call, with so much depth left. -/
def call (P : Program) (C : Cfg) : Nat → Callee
  | 0, _, _, _, _ => none
  | k + 1, lo, .func f, args, h => match C.orc lo (.func f) args h with
    | some r => some r
    | none => match view C (call P C k) f args h with
    | some r => some r
    | none => match P.funcs[f]? with
    | some fn => match fn.body with
      | some b =>
        if args.length ≤ fn.ntmps then
        match exec C (call P C k) f k b { env := number 0 args, loc := [], heap := h, inRound := false, lo := if C.cut f then h.length else lo } with
        | some (.normal, s) | some (.ret, s) => match resultsOf C s fn.results.toList with
          | some [a] => handF (C.nz f) (C.cut f) h a s.heap
          | some l => handF (C.nz f) (C.cut f) h (.tup l) s.heap
          | none => none
        | _ => none
        else none
      | none => none
    | none => none
  | k + 1, lo, .yield l, args, h => match h[l]? with
    | some (.loop r) =>
      if lo ≤ l ∧ r.st = 0 ∧ args.length = r.params.length then
        match exec C (call P C k) r.fn k r.assign { env := setParams r.env r.params args, loc := [], heap := h, inRound := true, lo := lo } with
        | some (.normal, s) => match s.heap[l]? with
          | some (.loop r1) => if r1.st = 0 then
            match exec C (call P C k) r.fn k r.body { s with heap := s.heap.set l (.loop { r1 with st := 1 }) } with
            | some (e, s') => match s'.heap[l]? with
              | some (.loop r') => match e with
                | .normal => some (.bool true, s'.heap.set l (.loop { r' with st := 0, pending := none }))
                | .ret => some (.bool false, s'.heap.set l (.loop { r' with st := 2, pending := some .ret }))
                | .exit i => some (.bool false, s'.heap.set l (.loop { r' with st := 2, pending := some (.exit i) }))
              | _ => none
            | none => none
            else none
          | _ => none
        | _ => none
      else none
    | _ => none
  | _ + 1, _, _, _, _ => none
/-- Every slot that is written is there. -/
def dstOk (n : Nat) (ops : Array Oper) : Bool := ops.toList.all fun o => match o.dst with | some d => decide (d < n) | none => true
def codeOk (n : Nat) : Code → Bool
  | .region _ ops draw => dstOk n ops && (!draw || drawOk ops)
  | .seq a b => codeOk n a && codeOk n b
  | .cond _ a b => codeOk n a && codeOk n b
  | .block _ b => codeOk n b
  | .loop b => codeOk n b
  | .rangeFunc _ ps a b => ps.all (· < n) && codeOk n a && codeOk n b
  | _ => true
/- The relation between the evaluator's values and heap and the model's, and what changes of the world leave of it. -/
structure Ctx where
  H : Heap
  ρ : Nat → Option Nat
  S : Nat → Prop
  w : World
/-- A value that leads to no object. -/
inductive RelT (S : Nat → Prop) (w : World) : AV → Value → Prop
  | int (k : IntKind) (n : Int) : RelT S w (.int k n) (.int k n)
  | bool (b : Bool) : RelT S w (.bool b) (.bool b)
  | str (s : ByteArray) : RelT S w (.str s) (.string s)
  | nils : RelT S w .nils (.slice none 0 0)
  | nilp : RelT S w .nilp (.pointer none)
  | nilm : RelT S w .nilm (.map none)
  | nilf : RelT S w .nilf .nilFunc
  | nili : RelT S w .nili .nilIface
  | vs {sz : Nat} {xs : List (List AV)} {A : Option Addr} {n c : Nat} (g : Nat → Nat → Value) (hn : n = xs.length) (hc : n ≤ c) (hsz : ∀ r, r ∈ xs → r.length = sz ∧ ∀ x, x ∈ r → oneCell x = true)
      (hA : 0 < n → ∃ ad, A = some ad) (hmem : ∀ ad, A = some ad → ∀ i j, i < n → j < sz → w.cell? (ad.add (i * sz + j)) = some (g i j) ∧ S ad.block)
      (hrel : ∀ i j r x, xs[i]? = some r → r[j]? = some x → RelT S w x (g i j)) : RelT S w (.vs sz xs) (.slice A n c)
inductive RelV (Γ : Ctx) : AV → Value → Prop
  | int (k : IntKind) (n : Int) : RelV Γ (.int k n) (.int k n)
  | bool (b : Bool) : RelV Γ (.bool b) (.bool b)
  | str (s : ByteArray) : RelV Γ (.str s) (.string s)
  | nils : RelV Γ .nils (.slice none 0 0)
  | nilp : RelV Γ .nilp (.pointer none)
  | nilm : RelV Γ .nilm (.map none)
  | nilf : RelV Γ .nilf .nilFunc
  | nili : RelV Γ .nili .nilIface
  | sl {id sz off len : Nat} {v : Value} (hin : id < Γ.H.length) (h1 : ∃ ad c, v = .slice (some ad) len c)
      (h : ∀ (T : Nat) (xs : List AV), Γ.H[id]? = some (.cells T xs) → off + len * sz ≤ xs.length ∧ (off + len * sz = xs.length →
        ∃ (b c : Nat) (arr : Array Value) (T' : TypeId) (fr : Nat × Nat), Γ.ρ id = some b ∧ v = .slice (some ⟨b, off, none⟩) len c ∧ len ≤ c ∧ Γ.w.heap[b]? = some (.cells arr T' fr) ∧ off + c * sz ≤ arr.size)) :
      RelV Γ (.sl id sz off len) v
  | hp {id n off : Nat} {v : Value} (hin : id < Γ.H.length) (h1 : ∃ ad, v = .pointer (some ad))
      (h : ∀ (T : Nat) (xs : List AV), Γ.H[id]? = some (.cells T xs) → n ≤ xs.length ∧ (n = xs.length → ∃ b, Γ.ρ id = some b ∧ v = .pointer (some ⟨b, off, none⟩))) :
      RelV Γ (.hp id n off) v
  | mp {id : Nat} {v : Value} (hin : id < Γ.H.length) (h1 : ∃ b, v = .map (some b)) (h : ∀ es, Γ.H[id]? = some (.map es) → ∃ b, Γ.ρ id = some b ∧ v = .map (some b)) : RelV Γ (.mp id) v
  | vs {sz : Nat} {xs : List (List AV)} {v : Value} (h : RelT Γ.S Γ.w (.vs sz xs) v) : RelV Γ (.vs sz xs) v
  | rp {xs : List AV} {ad : Addr} (g : Nat → Value) (h1 : ∀ x, x ∈ xs → oneCell x = true) (hmem : ∀ j, j < xs.length → Γ.w.cell? (ad.add j) = some (g j) ∧ Γ.S ad.block)
      (hrel : ∀ j x, xs[j]? = some x → RelT Γ.S Γ.w x (g j)) : RelV Γ (.rp xs) (.pointer (some ad))
  | fn {f : FuncId} {caps : List AV} {vs : Array Value} (hn : vs.size = caps.length) (hrel : ∀ i x, caps[i]? = some x → RelV Γ x (vs.getD i undef)) :
      RelV Γ (.fn (.func f) caps) (.func (.func f) #[] vs)
  | yield {id : Nat} {v : Value} (hin : id < Γ.H.length) (h1 : ∃ b, v = .func (.yield b) #[] #[]) (h : ∀ r, Γ.H[id]? = some (.loop r) → ∃ b, Γ.ρ id = some b ∧ v = .func (.yield b) #[] #[]) :
      RelV Γ (.fn (.yield id) []) v
  | agg {xs : List AV} {vs : Array Value} (hn : vs.size = xs.length) (h1 : ∀ x, x ∈ xs → oneCell x = true) (hrel : ∀ i x, xs[i]? = some x → RelV Γ x (vs.getD i undef)) : RelV Γ (.agg xs) (.agg vs)
  | tup {xs : List AV} {vs : Array Value} (hn : vs.size = xs.length) (hrel : ∀ i x, xs[i]? = some x → RelV Γ x (vs.getD i undef)) : RelV Γ (.tup xs) (.tuple vs)
  | iface {t : Nat} {a : AV} {v : Value} (h : RelV Γ a v) : RelV Γ (.iface t a) (.iface t v)
theorem RelT.toV {Γ : Ctx} {a : AV} {v : Value} (h : RelT Γ.S Γ.w a v) : RelV Γ a v := by
  cases h with
  | int k n => exact .int k n
  | bool b => exact .bool b
  | str s => exact .str s
  | nils => exact .nils
  | nilp => exact .nilp
  | nilm => exact .nilm
  | nilf => exact .nilf
  | nili => exact .nili
  | vs g hn hc hsz hA hmem hrel => exact .vs (.vs g hn hc hsz hA hmem hrel)
theorem RelV.toT {Γ : Ctx} {a : AV} {v : Value} (h : RelV Γ a v) (hs : static a = true) : RelT Γ.S Γ.w a v := by
  cases h <;> first | (cases hs; done) | skip
  · exact .int _ _
  · exact .bool _
  · exact .str _
  · exact .nils
  · exact .nilp
  · exact .nilm
  · exact .nilf
  · exact .nili
  · assumption
theorem RelT.mono {S S' : Nat → Prop} {w w' : World} (hS : ∀ b, S b → S' b ∧ w'.heap[b]? = w.heap[b]?) {a : AV} {v : Value} (h : RelT S w a v) : RelT S' w' a v := by
  induction h with
  | int k n => exact .int k n
  | bool b => exact .bool b
  | str s => exact .str s
  | nils => exact .nils
  | nilp => exact .nilp
  | nilm => exact .nilm
  | nilf => exact .nilf
  | nili => exact .nili
  | vs g hn hc hsz hA hmem _ ih =>
    refine .vs g hn hc hsz hA (fun ad ha i j hi hj => ?_) ih
    obtain ⟨h1, h2⟩ := hmem ad ha i j hi hj
    obtain ⟨h3, h4⟩ := hS _ h2
    refine ⟨?_, h3⟩
    rw [← h1]
    have hbl : ∀ n, (ad.add n).block = ad.block := fun n => by unfold Addr.add; split <;> rfl
    unfold World.cell?
    rw [hbl, h4]
def RelX (Γ : Ctx) (β : Nat → Nat) : Slot → Value → Prop
  | .v a, v => RelV Γ a v
  | .p d off, v => v = .pointer (some ⟨β d, off, none⟩)
  | .junk, _ => True
structure RelL (Γ : Ctx) (r : LoopA) (l : Loop) : Prop where
  params : l.params.toList = r.params
  assign : l.assign = r.assign
  body : l.body = r.body
  pending : l.pending = r.pending
  st0 : r.st = 0 → l.state = .ready
  st1 : r.st ≠ 1 → l.state ≠ .busy
  env : ∀ (t : Nat) (a : AV), look r.env t = some (.v a) → t < l.tmps.size ∧ RelV Γ a (l.tmps.getD t undef)
  nop : ∀ (t d o : Nat), look r.env t ≠ some (.p d o)
  lt : ∀ (t : Nat) (x : Slot), look r.env t = some x → t < l.tmps.size
  ok : codeOk l.tmps.size r.assign = true ∧ codeOk l.tmps.size r.body = true ∧ ∀ t, t ∈ r.params → t < l.tmps.size
/-- The stamps of a map's entries: no two the same, all before the clock. -/
def Born (ms : Array MapEntry) (clock : Nat) : Prop := (∀ x, x ∈ ms.toList → x.born < clock) ∧ (ms.toList.map (·.born)).Nodup
structure Inv (base : Nat) (Γ : Ctx) : Prop where
  dom : ∀ id b, Γ.ρ id = some b → id < Γ.H.length ∧ b < Γ.w.heap.size ∧ base ≤ b ∧ ¬ Γ.S b
  inj : ∀ id id' b, Γ.ρ id = some b → Γ.ρ id' = some b → id = id'
  cells : ∀ (id b T : Nat) (xs : List AV), Γ.ρ id = some b → Γ.H[id]? = some (.cells T xs) →
    ∃ arr : Array Value, Γ.w.heap[b]? = some (.cells arr T (0, 0)) ∧ xs.length ≤ arr.size ∧ (∀ x, x ∈ xs → oneCell x = true) ∧ ∀ (i : Nat) (x : AV), xs[i]? = some x → RelV Γ x (arr.getD i undef)
  map : ∀ (id b : Nat) (es : List (AV × AV)), Γ.ρ id = some b → Γ.H[id]? = some (.map es) →
    ∃ (ms : Array MapEntry) (clock : Nat), Γ.w.heap[b]? = some (.map ms clock) ∧ ms.size = es.length ∧ (∀ (i : Nat) (e : AV × AV), es[i]? = some e → ∃ m : MapEntry, ms[i]? = some m ∧ RelV Γ e.1 m.key ∧ RelV Γ e.2 m.val) ∧ Born ms clock
  loop : ∀ (id b : Nat) (r : LoopA), Γ.ρ id = some b → Γ.H[id]? = some (.loop r) → ∃ l : Loop, Γ.w.heap[b]? = some (.loop l) ∧ RelL Γ r l
  stab : ∀ b, Γ.S b → b < Γ.w.heap.size
/-- What a step keeps. B: blocks of one's own that it may write. lo: objects before this one stay as they are. -/
structure Ext (lo : Nat) (B : Nat → Prop) (Γ Γ' : Ctx) : Prop where
  len : Γ.H.length ≤ Γ'.H.length
  cells : ∀ (id T : Nat) (xs' : List AV), id < Γ.H.length → Γ'.H[id]? = some (.cells T xs') → ∃ xs : List AV, Γ.H[id]? = some (.cells T xs) ∧ (xs.length < xs'.length ∨ (xs.length = xs'.length ∧ Γ'.ρ id = Γ.ρ id))
  map : ∀ (id : Nat) (es' : List (AV × AV)), id < Γ.H.length → Γ'.H[id]? = some (.map es') → ∃ es, Γ.H[id]? = some (.map es) ∧ Γ'.ρ id = Γ.ρ id
  loop : ∀ (id : Nat) (r' : LoopA), id < Γ.H.length → Γ'.H[id]? = some (.loop r') → ∃ r, Γ.H[id]? = some (.loop r) ∧ Γ'.ρ id = Γ.ρ id
  absent : ∀ id, id < Γ.H.length → Γ.ρ id = none → Γ'.ρ id = none
  barrier : ∀ id, id < lo → id < Γ.H.length → Γ'.H[id]? = Γ.H[id]? ∧ Γ'.ρ id = Γ.ρ id ∧ ∀ b, Γ.ρ id = some b → b < Γ.w.heap.size → Γ'.w.heap[b]? = Γ.w.heap[b]?
  sizes : ∀ (b : Nat) (arr : Array Value) (T : TypeId) (fr : Nat × Nat), Γ.w.heap[b]? = some (.cells arr T fr) → ∃ (arr' : Array Value) (fr' : Nat × Nat), Γ'.w.heap[b]? = some (.cells arr' T fr') ∧ arr'.size = arr.size
  keep : ∀ b, b < Γ.w.heap.size → (∀ id, Γ.ρ id ≠ some b) → ¬ B b → Γ'.w.heap[b]? = Γ.w.heap[b]?
  fresh : ∀ id b, Γ'.ρ id = some b → (∃ id0, Γ.ρ id0 = some b) ∨ Γ.w.heap.size ≤ b
  stab : ∀ b, Γ.S b → Γ'.S b
  stabN : ∀ b, Γ'.S b → Γ.S b ∨ (∃ id, Γ.ρ id = some b) ∨ Γ.w.heap.size ≤ b
  size : Γ.w.heap.size ≤ Γ'.w.heap.size
  os : Γ'.w.os = Γ.w.os
  tape : Γ'.w.tape = Γ.w.tape
  output : Γ'.w.output = Γ.w.output
theorem Ext.refl (lo : Nat) (B : Nat → Prop) (Γ : Ctx) : Ext lo B Γ Γ where
  len := Nat.le_refl _
  cells _ _ xs' _ h := ⟨xs', h, .inr ⟨rfl, rfl⟩⟩
  map _ es' _ h := ⟨es', h, rfl⟩
  loop _ r' _ h := ⟨r', h, rfl⟩
  absent _ _ h := h
  barrier _ _ _ := ⟨rfl, rfl, fun _ _ _ => rfl⟩
  sizes _ arr _ fr h := ⟨arr, fr, h, rfl⟩
  keep _ _ _ _ := rfl
  fresh id b h := .inl ⟨id, h⟩
  stab _ h := h
  stabN _ h := .inl h
  size := Nat.le_refl _
  os := rfl
  tape := rfl
  output := rfl
theorem cells_lt {H : Heap} {id : Nat} {o : HObj} (h : H[id]? = some o) : id < H.length := by
  rcases Nat.lt_or_ge id H.length with h' | h'
  · exact h'
  · rw [List.getElem?_eq_none h'] at h; cases h
theorem Ext.trans {lo lo' : Nat} {B B' : Nat → Prop} {Γ Γ1 Γ2 : Ctx} (h : Ext lo B Γ Γ1) (k : Ext lo' B' Γ1 Γ2) (hlo : lo ≤ lo') (hB : ∀ b, b < Γ.w.heap.size → (∀ id, Γ.ρ id ≠ some b) → B' b → B b) : Ext lo B Γ Γ2 where
  len := Nat.le_trans h.len k.len
  cells id T xs' hid h2 := by
    obtain ⟨xs1, h1, c1⟩ := k.cells id T xs' (Nat.lt_of_lt_of_le hid h.len) h2
    obtain ⟨xs, h0, c0⟩ := h.cells id T xs1 hid h1
    refine ⟨xs, h0, ?_⟩
    rcases c0 with c0 | ⟨c0, e0⟩
    · rcases c1 with c1 | ⟨c1, e1⟩ <;> (left; omega)
    · rcases c1 with c1 | ⟨c1, e1⟩
      · left; omega
      · exact .inr ⟨by omega, e1.trans e0⟩
  map id es' hid h2 := by
    obtain ⟨es1, h1, e1⟩ := k.map id es' (Nat.lt_of_lt_of_le hid h.len) h2
    obtain ⟨es, h0, e0⟩ := h.map id es1 hid h1
    exact ⟨es, h0, e1.trans e0⟩
  loop id r' hid h2 := by
    obtain ⟨r1, h1, e1⟩ := k.loop id r' (Nat.lt_of_lt_of_le hid h.len) h2
    obtain ⟨r, h0, e0⟩ := h.loop id r1 hid h1
    exact ⟨r, h0, e1.trans e0⟩
  absent id hid h0 := k.absent id (Nat.lt_of_lt_of_le hid h.len) (h.absent id hid h0)
  barrier id hl hid := by
    obtain ⟨a, b, e⟩ := h.barrier id hl hid
    obtain ⟨c, d, e'⟩ := k.barrier id (by omega) (Nat.lt_of_lt_of_le hid h.len)
    exact ⟨c.trans a, d.trans b, fun x hx hlt => (e' x (b.trans hx) (Nat.lt_of_lt_of_le hlt h.size)).trans (e x hx hlt)⟩
  sizes b arr T fr h0 := by
    obtain ⟨a1, f1, h1, s1⟩ := h.sizes b arr T fr h0
    obtain ⟨a2, f2, h2, s2⟩ := k.sizes b a1 T f1 h1
    exact ⟨a2, f2, h2, s2.trans s1⟩
  keep b hb hρ hnB := by
    rw [← h.keep b hb hρ hnB]
    refine k.keep b (Nat.lt_of_lt_of_le hb h.size) (fun id e => ?_) (fun e => hnB (hB b hb hρ e))
    rcases h.fresh id b e with ⟨id0, e0⟩ | e0
    · exact hρ id0 e0
    · omega
  fresh id b e := by
    rcases k.fresh id b e with ⟨id1, e1⟩ | e1
    · exact h.fresh id1 b e1
    · have := h.size; right; omega
  stab b hb := k.stab b (h.stab b hb)
  stabN b hb := by
    rcases k.stabN b hb with h1 | ⟨id1, h1⟩ | h1
    · exact h.stabN b h1
    · rcases h.fresh id1 b h1 with h2 | h2
      · exact .inr (.inl h2)
      · exact .inr (.inr h2)
    · have := h.size; exact .inr (.inr (by omega))
  size := Nat.le_trans h.size k.size
  os := k.os.trans h.os
  tape := k.tape.trans h.tape
  output := k.output.trans h.output
theorem Ext.weaken {lo lo' : Nat} {B B' : Nat → Prop} {Γ Γ' : Ctx} (h : Ext lo B Γ Γ') (hlo : lo' ≤ lo) (hB : ∀ b, b < Γ.w.heap.size → B b → B' b) : Ext lo' B' Γ Γ' where
  len := h.len
  cells := h.cells
  map := h.map
  loop := h.loop
  absent := h.absent
  barrier id hl hid := h.barrier id (by omega) hid
  sizes := h.sizes
  keep b hb hρ hn := h.keep b hb hρ (fun e => hn (hB b hb e))
  fresh := h.fresh
  stab := h.stab
  stabN := h.stabN
  size := h.size
  os := h.os
  tape := h.tape
  output := h.output
theorem cell_of_heap {w w' : World} {a : Addr} (h : w'.heap[a.block]? = w.heap[a.block]?) : w'.cell? a = w.cell? a := by
  unfold World.cell?; rw [h]
theorem add_block (a : Addr) (n : Nat) : (a.add n).block = a.block := by unfold Addr.add; split <;> rfl
/-- A stable block stays as it is. -/
theorem Ext.stable {lo : Nat} {B : Nat → Prop} {base : Nat} {Γ Γ' : Ctx} (h : Ext lo B Γ Γ') (I : Inv base Γ) {b : Nat} (hs : Γ.S b) (hB : ∀ b, Γ.S b → ¬ B b) : Γ'.w.heap[b]? = Γ.w.heap[b]? :=
  h.keep b (I.stab b hs) (fun id e => (I.dom id b e).2.2.2 hs) (hB b hs)
theorem RelV.ext {lo : Nat} {B : Nat → Prop} {base : Nat} {Γ Γ' : Ctx} (h : Ext lo B Γ Γ') (I : Inv base Γ) (hB : ∀ b, Γ.S b → ¬ B b) {a : AV} {v : Value} (hr : RelV Γ a v) : RelV Γ' a v := by
  induction hr with
  | int k n => exact .int k n
  | bool b => exact .bool b
  | str s => exact .str s
  | nils => exact .nils
  | nilp => exact .nilp
  | nilm => exact .nilm
  | nilf => exact .nilf
  | nili => exact .nili
  | @sl id sz off len v hin h1_ h0 =>
    refine .sl (Nat.lt_of_lt_of_le hin h.len) h1_ fun T xs' hx => ?_
    obtain ⟨xs, h1, hc⟩ := h.cells id T xs' hin hx
    obtain ⟨h2, h3⟩ := h0 T xs h1
    rcases hc with hc | ⟨hc, he⟩
    · exact ⟨by omega, fun e => absurd e (by omega)⟩
    · refine ⟨by omega, fun e => ?_⟩
      obtain ⟨b, c, arr, T', fr, hb, hv, hcl, hh, hsz⟩ := h3 (by omega)
      obtain ⟨arr', fr', hh', hs'⟩ := h.sizes b arr T' fr hh
      exact ⟨b, c, arr', T', fr', he.trans hb, hv, hcl, hh', by omega⟩
  | @hp id n off v hin h1_ h0 =>
    refine .hp (Nat.lt_of_lt_of_le hin h.len) h1_ fun T xs' hx => ?_
    obtain ⟨xs, h1, hc⟩ := h.cells id T xs' hin hx
    obtain ⟨h2, h3⟩ := h0 T xs h1
    rcases hc with hc | ⟨hc, he⟩
    · exact ⟨by omega, fun e => absurd e (by omega)⟩
    · refine ⟨by omega, fun e => ?_⟩
      obtain ⟨b, hb, hv⟩ := h3 (by omega)
      exact ⟨b, he.trans hb, hv⟩
  | @mp id v hin h1_ h0 =>
    refine .mp (Nat.lt_of_lt_of_le hin h.len) h1_ fun es' hx => ?_
    obtain ⟨es, h1, he⟩ := h.map id es' hin hx
    obtain ⟨b, hb, hv⟩ := h0 es h1
    exact ⟨b, he.trans hb, hv⟩
  | vs hT => exact .vs (hT.mono fun b hs => ⟨h.stab b hs, h.stable I hs hB⟩)
  | rp g h1_ hmem hrel =>
    refine .rp g h1_ (fun j hj => ?_) (fun j x hx => (hrel j x hx).mono fun b hs => ⟨h.stab b hs, h.stable I hs hB⟩)
    obtain ⟨h1, h2⟩ := hmem j hj
    refine ⟨?_, h.stab _ h2⟩
    rw [← h1]
    exact cell_of_heap (by rw [add_block]; exact h.stable I h2 hB)
  | fn hn _ ih => exact .fn hn ih
  | @yield id v hin h1_ h0 =>
    refine .yield (Nat.lt_of_lt_of_le hin h.len) h1_ fun r' hx => ?_
    obtain ⟨r, h1, he⟩ := h.loop id r' hin hx
    obtain ⟨b, hb, hv⟩ := h0 r h1
    exact ⟨b, he.trans hb, hv⟩
  | agg hn h1_ _ ih => exact .agg hn h1_ ih
  | tup hn _ ih => exact .tup hn ih
  | iface _ ih => exact .iface ih
/-- What holds of an activation: its temporaries, its variables, its marks. n0: the heap's size as it began. -/
structure RelS (base n0 : Nat) (Γ : Ctx) (β : Nat → Nat) (s : St) (a : Act) : Prop where
  inv : Inv base Γ
  sz : base ≤ n0 ∧ n0 ≤ Γ.w.heap.size
  heap : Γ.H = s.heap
  env : ∀ (t : Nat) (x : Slot), look s.env t = some x → t < a.tmps.size ∧ RelX Γ β x (a.tmps.getD t undef)
  loc : ∀ (d : Nat) (xs : List AV), look s.loc d = some xs → ∃ (arr : Array Value) (T : TypeId), Γ.w.heap[β d]? = some (.cells arr T (0, 0)) ∧ arr.size = xs.length ∧ (∀ x, x ∈ xs → oneCell x = true) ∧ (∀ (i : Nat) (x : AV), xs[i]? = some x → RelV Γ x (arr.getD i undef)) ∧
    (∀ id, Γ.ρ id ≠ some (β d)) ∧ ¬ Γ.S (β d) ∧ base ≤ β d ∧ n0 ≤ β d
  linj : ∀ (d d' : Nat) (xs xs' : List AV), look s.loc d = some xs → look s.loc d' = some xs' → β d = β d' → d = d'
  marks : ∃ rs : List Nat, a.defers = rs.map (fun r => { target := .collected r, args := #[] }) ∧ rs.Nodup ∧ ∀ r, r ∈ rs → Γ.w.heap[r]? = some (.deferred (some [])) ∧ (∀ id, Γ.ρ id ≠ some r) ∧ ¬ Γ.S r ∧ n0 ≤ r
/-- The world and the heap move on; nothing of this activation's own is touched. -/
theorem RelS.ext {lo : Nat} {base n0 : Nat} {Γ Γ' : Ctx} {β : Nat → Nat} {s : St} {a : Act} (R : RelS base n0 Γ β s a) (h : Ext lo (fun _ => False) Γ Γ') (I' : Inv base Γ') :
    RelS base n0 Γ' β { s with heap := Γ'.H } a where
  inv := I'
  sz := ⟨R.sz.1, Nat.le_trans R.sz.2 h.size⟩
  heap := rfl
  env t x hx := by
    obtain ⟨h1, h2⟩ := R.env t x hx
    refine ⟨h1, ?_⟩
    cases x with
    | v a => exact RelV.ext h R.inv (fun _ _ e => e) h2
    | p d off => exact h2
    | junk => trivial
  loc d xs hx := by
    obtain ⟨arr, T, h1, h2, ho, h3, h4, h5, h6, h7⟩ := R.loc d xs hx
    have hlt : β d < Γ.w.heap.size := by
      rcases Nat.lt_or_ge (β d) Γ.w.heap.size with h' | h'
      · exact h'
      · rw [Array.getElem?_eq_none h'] at h1; cases h1
    refine ⟨arr, T, (h.keep _ hlt h4 (fun e => e)).trans h1, h2, ho, fun i x hi => RelV.ext h R.inv (fun _ _ e => e) (h3 i x hi), fun id e => ?_, fun e => ?_, h6, h7⟩
    · rcases h.fresh id _ e with ⟨id0, e0⟩ | e0
      · exact h4 id0 e0
      · omega
    · rcases h.stabN _ e with e | ⟨id, e⟩ | e
      · exact h5 e
      · exact h4 id e
      · omega
  linj := R.linj
  marks := by
    obtain ⟨rs, h1, hnd, h2⟩ := R.marks
    refine ⟨rs, h1, hnd, fun r hr => ?_⟩
    obtain ⟨h3, h4, h5, h6⟩ := h2 r hr
    have hlt : r < Γ.w.heap.size := by
      rcases Nat.lt_or_ge r Γ.w.heap.size with h' | h'
      · exact h'
      · rw [Array.getElem?_eq_none h'] at h3; cases h3
    refine ⟨(h.keep _ hlt h4 (fun e => e)).trans h3, fun id e => ?_, fun e => ?_, h6⟩
    · rcases h.fresh id _ e with ⟨id0, e0⟩ | e0
      · exact h4 id0 e0
      · omega
    · rcases h.stabN _ e with e | ⟨id, e⟩ | e
      · exact h5 e
      · exact h4 id e
      · omega
theorem look_cons {α : Type} (k : Nat) (x : α) (l : List (Nat × α)) (t : Nat) : look ((k, x) :: l) t = if k = t then some x else look l t := by
  simp only [look, beq_iff_eq]
theorem RelV.oneCell {Γ : Ctx} {a : AV} {v : Value} (h : RelV Γ a v) (h1 : oneCell a = true) : v.oneCell' = true := by
  cases h <;> first | rfl | (cases h1; done) | (rename_i h2; obtain ⟨_, _, rfl⟩ := h2; rfl) | (rename_i h2 _; obtain ⟨_, _, rfl⟩ := h2; rfl) | (rename_i h2 _; obtain ⟨_, rfl⟩ := h2; rfl)
/-- A slot is written. -/
theorem RelS.put {base n0 : Nat} {Γ : Ctx} {β : Nat → Nat} {s : St} {a : Act} (R : RelS base n0 Γ β s a) (d : Option Tmp) (hd : ∀ t, d = some t → t < a.tmps.size) {x : Slot} {v : Value} (hx : RelX Γ β x v) :
    RelS base n0 Γ β (s.put d x) (a.put d v) := by
  cases d with
  | none => exact R
  | some d =>
    have hlt := hd d rfl
    refine { R with env := fun t y hy => ?_ }
    simp only [St.put, look_cons] at hy
    simp only [Act.put, Array.size_setIfInBounds]
    split at hy
    · rename_i e
      subst e
      injection hy with hy
      subst hy
      refine ⟨hlt, ?_⟩
      have : (a.tmps.setIfInBounds d v).getD d undef = v := by simp [Array.getD_eq_getD_getElem?, hlt]
      rw [this]; exact hx
    · rename_i e
      obtain ⟨h1, h2⟩ := R.env t y hy
      refine ⟨h1, ?_⟩
      have : (a.tmps.setIfInBounds d v).getD t undef = a.tmps.getD t undef := by
        simp [Array.getD_eq_getD_getElem?, Array.getElem?_setIfInBounds, e]
      rw [this]; exact h2
/- What the steps on memory make of the relation: a new object, a row written, a row that grows or moves, a map written. -/
variable {lo base n0 : Nat} {Γ : Ctx}
theorem set_get {H : Heap} {i j : Nat} {o x : HObj} (h : (H.set i o)[j]? = some x) : (i = j ∧ x = o) ∨ (i ≠ j ∧ H[j]? = some x) := by
  by_cases e : i = j
  · subst e
    have hl : i < H.length := by have := cells_lt h; simpa using this
    rw [List.getElem?_set_self hl] at h
    exact .inl ⟨rfl, (Option.some.inj h).symm⟩
  · rw [List.getElem?_set_ne e] at h
    exact .inr ⟨e, h⟩
theorem heap_push_old {w : World} {o : Obj} {b : Nat} (h : b < w.heap.size) : (w.alloc o).heap[b]? = w.heap[b]? := by
  simp [-World.alloc_eq, World.alloc, Array.getElem?_push, Nat.ne_of_lt h]
theorem heap_push_new (w : World) (o : Obj) : (w.alloc o).heap[w.heap.size]? = some o := by
  simp [-World.alloc_eq, World.alloc]
theorem alloc_size (w : World) (o : Obj) : (w.alloc o).heap.size = w.heap.size + 1 := by simp [-World.alloc_eq, World.alloc]
/-- A block of its own, led to by nobody: what a new variable of an activation is. -/
theorem Ext.alloc (lo : Nat) (Γ : Ctx) (o : Obj) : Ext lo (fun _ => False) Γ { Γ with w := Γ.w.alloc o } where
  len := Nat.le_refl _
  cells _ _ xs' _ h := ⟨xs', h, .inr ⟨rfl, rfl⟩⟩
  map _ es' _ h := ⟨es', h, rfl⟩
  loop _ r' _ h := ⟨r', h, rfl⟩
  absent _ _ h := h
  barrier _ _ _ := ⟨rfl, rfl, fun _ _ hb => heap_push_old hb⟩
  sizes b arr T fr h := by
    have hlt : b < Γ.w.heap.size := by
      rcases Nat.lt_or_ge b Γ.w.heap.size with h' | h'
      · exact h'
      · rw [Array.getElem?_eq_none h'] at h; cases h
    exact ⟨arr, fr, (heap_push_old hlt).trans h, rfl⟩
  keep b hb _ _ := heap_push_old hb
  fresh id b h := .inl ⟨id, h⟩
  stab _ h := h
  stabN _ h := .inl h
  size := by simp [-World.alloc_eq, World.alloc]
  os := rfl
  tape := rfl
  output := rfl
/-- The objects stay as they are where their blocks do. -/
theorem Inv.same {lo : Nat} {B : Nat → Prop} {Γ' : Ctx} (I : Inv base Γ) (h : Ext lo B Γ Γ') (hB : ∀ b, Γ.S b → ¬ B b) (hH : Γ'.H = Γ.H) (hρ : Γ'.ρ = Γ.ρ) (hS : Γ'.S = Γ.S)
    (hb : ∀ id b, Γ.ρ id = some b → Γ'.w.heap[b]? = Γ.w.heap[b]?) : Inv base Γ' where
  dom id b e := by
    rw [hρ] at e
    obtain ⟨h1, h2, h3, h4⟩ := I.dom id b e
    exact ⟨hH ▸ h1, Nat.lt_of_lt_of_le h2 h.size, h3, hS ▸ h4⟩
  inj id id' b e e' := by rw [hρ] at e e'; exact I.inj id id' b e e'
  cells id b T xs e hx := by
    rw [hρ] at e; rw [hH] at hx
    obtain ⟨arr, h1, h2, h3, h4⟩ := I.cells id b T xs e hx
    exact ⟨arr, (hb id b e).trans h1, h2, h3, fun i x hi => (h4 i x hi).ext h I hB⟩
  map id b es e hx := by
    rw [hρ] at e; rw [hH] at hx
    obtain ⟨ms, cl, h1, h2, h3, h4⟩ := I.map id b es e hx
    exact ⟨ms, cl, (hb id b e).trans h1, h2, fun i x hi => let ⟨m, a, b, c⟩ := h3 i x hi; ⟨m, a, b.ext h I hB, c.ext h I hB⟩, h4⟩
  loop id b r e hx := by
    rw [hρ] at e; rw [hH] at hx
    obtain ⟨l, h1, h2⟩ := I.loop id b r e hx
    exact ⟨l, (hb id b e).trans h1, { h2 with env := fun t a ha => let ⟨x, y⟩ := h2.env t a ha; ⟨x, y.ext h I hB⟩ }⟩
  stab b hs := Nat.lt_of_lt_of_le (I.stab b (hS ▸ hs)) h.size
theorem Inv.alloc (I : Inv base Γ) (o : Obj) : Inv base { Γ with w := Γ.w.alloc o } :=
  I.same (Ext.alloc 0 Γ o) (fun _ _ e => e) rfl rfl rfl fun id b e => heap_push_old (I.dom id b e).2.1
/-- Only the count of draws moves. -/
theorem Ext.drawn (lo : Nat) (Γ : Ctx) (n : Nat) : Ext lo (fun _ => False) Γ { Γ with w := { Γ.w with drawn := n } } :=
  { Ext.refl lo (fun _ => False) Γ with }
theorem Inv.drawn (I : Inv base Γ) (n : Nat) : Inv base { Γ with w := { Γ.w with drawn := n } } :=
  I.same (Ext.drawn 0 Γ n) (fun _ _ e => e) rfl rfl rfl fun _ _ _ => rfl
/-- The context with one object more, in a new block. -/
def Ctx.push (Γ : Ctx) (o : HObj) (ob : Obj) : Ctx :=
  { H := Γ.H ++ [o], ρ := fun i => if i = Γ.H.length then some Γ.w.heap.size else Γ.ρ i, S := Γ.S, w := Γ.w.alloc ob }
theorem Ctx.push_old {o : HObj} {ob : Obj} {id : Nat} (h : id < Γ.H.length) : (Γ.push o ob).H[id]? = Γ.H[id]? ∧ (Γ.push o ob).ρ id = Γ.ρ id := by
  simp [Ctx.push, List.getElem?_append_left h, Nat.ne_of_lt h]
theorem Ext.push (lo : Nat) (o : HObj) (ob : Obj) : Ext lo (fun _ => False) Γ (Γ.push o ob) where
  len := by simp [Ctx.push]
  cells id T xs' hid h := ⟨xs', (Ctx.push_old hid).1 ▸ h, .inr ⟨rfl, (Ctx.push_old hid).2⟩⟩
  map id es' hid h := ⟨es', (Ctx.push_old hid).1 ▸ h, (Ctx.push_old hid).2⟩
  loop id r' hid h := ⟨r', (Ctx.push_old hid).1 ▸ h, (Ctx.push_old hid).2⟩
  absent id hid h := (Ctx.push_old hid).2.trans h
  barrier id _ hid := ⟨(Ctx.push_old hid).1, (Ctx.push_old hid).2, fun _ _ hb => heap_push_old hb⟩
  sizes := (Ext.alloc lo Γ ob).sizes
  keep := (Ext.alloc lo Γ ob).keep
  fresh id b h := by
    simp only [Ctx.push] at h
    split at h
    · injection h with h; right; omega
    · exact .inl ⟨id, h⟩
  stab _ h := h
  stabN _ h := .inl h
  size := by simp [-World.alloc_eq, Ctx.push, World.alloc]
  os := rfl
  tape := rfl
  output := rfl
/-- What must hold of a new object. -/
def ObjOk (Γ : Ctx) : HObj → Obj → Prop
  | .cells T xs, o => ∃ arr, o = .cells arr T (0, 0) ∧ xs.length ≤ arr.size ∧ (∀ x, x ∈ xs → oneCell x = true) ∧ ∀ (i : Nat) (x : AV), xs[i]? = some x → RelV Γ x (arr.getD i undef)
  | .map es, o => ∃ (ms : Array MapEntry) (clock : Nat), o = .map ms clock ∧ ms.size = es.length ∧ (∀ (i : Nat) (e : AV × AV), es[i]? = some e → ∃ m : MapEntry, ms[i]? = some m ∧ RelV Γ e.1 m.key ∧ RelV Γ e.2 m.val) ∧ Born ms clock
  | .loop r, o => ∃ l, o = .loop l ∧ RelL Γ r l
  | .dead, _ => True
theorem RelL.ext {lo : Nat} {B : Nat → Prop} {Γ' : Ctx} {r : LoopA} {l : Loop} (h : RelL Γ r l) (e : Ext lo B Γ Γ') (I : Inv base Γ) (hB : ∀ b, Γ.S b → ¬ B b) : RelL Γ' r l :=
  { h with env := fun t a ha => let ⟨x, y⟩ := h.env t a ha; ⟨x, y.ext e I hB⟩ }
theorem ObjOk.ext {lo : Nat} {B : Nat → Prop} {Γ' : Ctx} {o : HObj} {ob : Obj} (h : ObjOk Γ o ob) (e : Ext lo B Γ Γ') (I : Inv base Γ) (hB : ∀ b, Γ.S b → ¬ B b) : ObjOk Γ' o ob := by
  cases o with
  | cells T xs => obtain ⟨arr, h1, h2, h3, h4⟩ := h; exact ⟨arr, h1, h2, h3, fun i x hi => (h4 i x hi).ext e I hB⟩
  | map es => obtain ⟨ms, cl, h1, h2, h3, h4⟩ := h; exact ⟨ms, cl, h1, h2, fun i x hi => let ⟨m, a, b, c⟩ := h3 i x hi; ⟨m, a, b.ext e I hB, c.ext e I hB⟩, h4⟩
  | loop r => obtain ⟨l, h1, h2⟩ := h; exact ⟨l, h1, h2.ext e I hB⟩
  | dead => trivial
theorem ObjOk.of (I : Inv base Γ) {id b : Nat} {o : HObj} (hρ : Γ.ρ id = some b) (ho : Γ.H[id]? = some o) : ∃ ob, Γ.w.heap[b]? = some ob ∧ ObjOk Γ o ob := by
  have hlt := (I.dom id b hρ).2.1
  cases o with
  | cells T xs => obtain ⟨arr, h1, h2⟩ := I.cells id b T xs hρ ho; exact ⟨_, h1, arr, rfl, h2⟩
  | map es => obtain ⟨ms, cl, h1, h2⟩ := I.map id b es hρ ho; exact ⟨_, h1, ms, cl, rfl, h2⟩
  | loop r => obtain ⟨l, h1, h2⟩ := I.loop id b r hρ ho; exact ⟨_, h1, l, rfl, h2⟩
  | dead => exact ⟨_, Array.getElem?_eq_getElem hlt, trivial⟩
theorem Inv.of_objs {Γ' : Ctx} (hdom : ∀ id b, Γ'.ρ id = some b → id < Γ'.H.length ∧ b < Γ'.w.heap.size ∧ base ≤ b ∧ ¬ Γ'.S b)
    (hinj : ∀ id id' b, Γ'.ρ id = some b → Γ'.ρ id' = some b → id = id') (hst : ∀ b, Γ'.S b → b < Γ'.w.heap.size)
    (h : ∀ id b o, Γ'.ρ id = some b → Γ'.H[id]? = some o → ∃ ob, Γ'.w.heap[b]? = some ob ∧ ObjOk Γ' o ob) : Inv base Γ' where
  dom := hdom
  inj := hinj
  cells id b T xs e hx := by obtain ⟨ob, h1, arr, rfl, h2⟩ := h id b _ e hx; exact ⟨arr, h1, h2⟩
  map id b es e hx := by obtain ⟨ob, h1, ms, cl, rfl, h2⟩ := h id b _ e hx; exact ⟨ms, cl, h1, h2⟩
  loop id b r e hx := by obtain ⟨ob, h1, l, rfl, h2⟩ := h id b _ e hx; exact ⟨l, h1, h2⟩
  stab := hst
theorem Inv.push (I : Inv base Γ) {o : HObj} {ob : Obj} (ho : ObjOk Γ o ob) (hbase : base ≤ Γ.w.heap.size) : Inv base (Γ.push o ob) := by
  have e := Ext.push (Γ := Γ) 0 o ob
  have hB : ∀ b, Γ.S b → ¬ (fun _ : Nat => False) b := fun _ _ h => h
  refine Inv.of_objs (fun id b hρ => ?_) (fun id id' b h1 h2 => ?_) (fun b hs => Nat.lt_of_lt_of_le (I.stab b hs) e.size) (fun id b o' hρ hx => ?_)
  · simp only [Ctx.push] at hρ ⊢
    split at hρ
    · rename_i h
      injection hρ with hρ
      subst hρ h
      refine ⟨by simp, by simp [-World.alloc_eq, World.alloc], hbase, fun hs => absurd (I.stab _ hs) (by omega)⟩
    · obtain ⟨a, b, c, d⟩ := I.dom id b hρ
      exact ⟨by simp; omega, by simp [-World.alloc_eq, World.alloc]; omega, c, d⟩
  · simp only [Ctx.push] at h1 h2
    split at h1 <;> split at h2
    · rename_i a b; rw [a, b]
    · injection h1 with h1; have := (I.dom id' b h2).2.1; omega
    · injection h2 with h2; have := (I.dom id b h1).2.1; omega
    · exact I.inj id id' b h1 h2
  · simp only [Ctx.push] at hρ hx ⊢
    split at hρ
    · rename_i h
      injection hρ with hρ
      subst hρ h
      simp at hx
      subst hx
      exact ⟨ob, heap_push_new _ _, ho.ext e I hB⟩
    · obtain ⟨hlt, hb, _⟩ := I.dom id b hρ
      rw [List.getElem?_append_left hlt] at hx
      obtain ⟨ob', h1, h2⟩ := ObjOk.of I hρ hx
      exact ⟨ob', (heap_push_old hb).trans h1, h2.ext e I hB⟩
/-- The context in which one object, and its block, are written anew. -/
def Ctx.upd (Γ : Ctx) (id b : Nat) (o : HObj) (ob : Obj) : Ctx := { Γ with H := Γ.H.set id o, w := { Γ.w with heap := Γ.w.heap.setIfInBounds b ob } }
theorem heap_set_other {w : World} {b b' : Nat} {ob : Obj} (h : b ≠ b') : ({ w with heap := w.heap.setIfInBounds b ob } : World).heap[b']? = w.heap[b']? := by
  simp [h]
theorem heap_set_same {w : World} {b : Nat} {ob : Obj} (h : b < w.heap.size) : ({ w with heap := w.heap.setIfInBounds b ob } : World).heap[b]? = some ob := by
  simp [h]
/-- A row's cells are written, or it grows within its block. -/
theorem Ext.updCells (I : Inv base Γ) {lo id b T : Nat} {xs xs' : List AV} {arr arr' : Array Value} (hlo : lo ≤ id) (hρ : Γ.ρ id = some b) (hx : Γ.H[id]? = some (.cells T xs))
    (ha : Γ.w.heap[b]? = some (.cells arr T (0, 0))) (hsz : arr'.size = arr.size) (hlen : xs.length ≤ xs'.length) :
    Ext lo (fun _ => False) Γ (Γ.upd id b (.cells T xs') (.cells arr' T (0, 0))) where
  len := by simp [Ctx.upd]
  cells id' T' ys _ hy := by
    rcases set_get hy with ⟨rfl, e⟩ | ⟨_, e⟩
    · injection e with h1 h2; subst h1 h2
      exact ⟨xs, hx, (Nat.lt_or_ge xs.length ys.length).elim (fun h => .inl h) (fun h => .inr ⟨by omega, rfl⟩)⟩
    · exact ⟨ys, e, .inr ⟨rfl, rfl⟩⟩
  map id' es _ hy := by
    rcases set_get hy with ⟨rfl, e⟩ | ⟨_, e⟩
    · cases e
    · exact ⟨es, e, rfl⟩
  loop id' r _ hy := by
    rcases set_get hy with ⟨rfl, e⟩ | ⟨_, e⟩
    · cases e
    · exact ⟨r, e, rfl⟩
  absent _ _ h := h
  barrier id' hl hid := ⟨List.getElem?_set_ne (by omega), rfl, fun b' hb' _ => heap_set_other fun e => by
    have := I.inj id id' b hρ (by rw [e]; exact hb')
    omega⟩
  sizes b' a T' fr h := by
    by_cases e : b = b'
    · subst e
      rw [ha] at h; injection h with h; injection h with h1 h2 h3; subst h1 h2 h3
      exact ⟨arr', (0, 0), heap_set_same (I.dom id b hρ).2.1, hsz⟩
    · exact ⟨a, fr, (heap_set_other e).trans h, rfl⟩
  keep b' hb hn _ := heap_set_other (fun e => hn id (e ▸ hρ))
  fresh id' b' h := .inl ⟨id', h⟩
  stab _ h := h
  stabN _ h := .inl h
  size := by simp [Ctx.upd]
  os := rfl
  tape := rfl
  output := rfl
/-- A map is written. -/
theorem Ext.updMap (I : Inv base Γ) {lo id b : Nat} {es es' : List (AV × AV)} {ms ms' : Array MapEntry} {cl cl' : Nat} (hlo : lo ≤ id) (hρ : Γ.ρ id = some b) (hx : Γ.H[id]? = some (.map es))
    (ha : Γ.w.heap[b]? = some (.map ms cl)) : Ext lo (fun _ => False) Γ (Γ.upd id b (.map es') (.map ms' cl')) where
  len := by simp [Ctx.upd]
  cells id' T' ys _ hy := by
    rcases set_get hy with ⟨rfl, e⟩ | ⟨_, e⟩
    · cases e
    · exact ⟨ys, e, .inr ⟨rfl, rfl⟩⟩
  map id' es2 _ hy := by
    rcases set_get hy with ⟨rfl, e⟩ | ⟨_, e⟩
    · exact ⟨es, hx, rfl⟩
    · exact ⟨es2, e, rfl⟩
  loop id' r _ hy := by
    rcases set_get hy with ⟨rfl, e⟩ | ⟨_, e⟩
    · cases e
    · exact ⟨r, e, rfl⟩
  absent _ _ h := h
  barrier id' hl hid := ⟨List.getElem?_set_ne (by omega), rfl, fun b' hb' _ => heap_set_other fun e => by
    have := I.inj id id' b hρ (by rw [e]; exact hb')
    omega⟩
  sizes b' a T' fr h := by
    by_cases e : b = b'
    · subst e; rw [ha] at h; cases h
    · exact ⟨a, fr, (heap_set_other e).trans h, rfl⟩
  keep b' hb hn _ := heap_set_other (fun e => hn id (e ▸ hρ))
  fresh id' b' h := .inl ⟨id', h⟩
  stab _ h := h
  stabN _ h := .inl h
  size := by simp [Ctx.upd]
  os := rfl
  tape := rfl
  output := rfl
/-- A loop's record is written. -/
theorem Ext.updLoop (I : Inv base Γ) {lo id b : Nat} {r r' : LoopA} {l l' : Loop} (hlo : lo ≤ id) (hρ : Γ.ρ id = some b) (hx : Γ.H[id]? = some (.loop r))
    (ha : Γ.w.heap[b]? = some (.loop l)) : Ext lo (fun _ => False) Γ (Γ.upd id b (.loop r') (.loop l')) where
  len := by simp [Ctx.upd]
  cells id' T' ys _ hy := by
    rcases set_get hy with ⟨rfl, e⟩ | ⟨_, e⟩
    · cases e
    · exact ⟨ys, e, .inr ⟨rfl, rfl⟩⟩
  map id' es2 _ hy := by
    rcases set_get hy with ⟨rfl, e⟩ | ⟨_, e⟩
    · cases e
    · exact ⟨es2, e, rfl⟩
  loop id' r2 _ hy := by
    rcases set_get hy with ⟨rfl, e⟩ | ⟨_, e⟩
    · exact ⟨r, hx, rfl⟩
    · exact ⟨r2, e, rfl⟩
  absent _ _ h := h
  barrier id' hl hid := ⟨List.getElem?_set_ne (by omega), rfl, fun b' hb' _ => heap_set_other fun e => by
    have := I.inj id id' b hρ (by rw [e]; exact hb')
    omega⟩
  sizes b' a T' fr h := by
    by_cases e : b = b'
    · subst e; rw [ha] at h; cases h
    · exact ⟨a, fr, (heap_set_other e).trans h, rfl⟩
  keep b' hb hn _ := heap_set_other (fun e => hn id (e ▸ hρ))
  fresh id' b' h := .inl ⟨id', h⟩
  stab _ h := h
  stabN _ h := .inl h
  size := by simp [Ctx.upd]
  os := rfl
  tape := rfl
  output := rfl
theorem Inv.upd (I : Inv base Γ) {lo id b : Nat} {o : HObj} {ob : Obj} (hρ : Γ.ρ id = some b) (e : Ext lo (fun _ => False) Γ (Γ.upd id b o ob)) (ho : ObjOk Γ o ob) : Inv base (Γ.upd id b o ob) := by
  have hB : ∀ b, Γ.S b → ¬ (fun _ : Nat => False) b := fun _ _ h => h
  refine Inv.of_objs (fun id' b' h => ?_) I.inj (fun b hs => by have := I.stab b hs; simpa [Ctx.upd] using this) (fun id' b' o' h hx => ?_)
  · obtain ⟨a, b, c, d⟩ := I.dom id' b' h
    exact ⟨by simpa [Ctx.upd] using a, by simpa [Ctx.upd] using b, c, d⟩
  · simp only [Ctx.upd] at hx ⊢
    by_cases ee : id = id'
    · subst ee
      have hb : b = b' := Option.some.inj (hρ.symm.trans h)
      subst hb
      rw [List.getElem?_set_self (I.dom id b hρ).1] at hx
      injection hx with hx
      subst hx
      exact ⟨ob, heap_set_same (I.dom id b hρ).2.1, ho.ext e I hB⟩
    · rw [List.getElem?_set_ne ee] at hx
      obtain ⟨ob', h1, h2⟩ := ObjOk.of I h hx
      refine ⟨ob', (heap_set_other fun e2 => ee (I.inj id id' b hρ (by rw [e2]; exact h))).trans h1, h2.ext e I hB⟩
/-- A row moves into a new block, and grows. -/
def Ctx.move (Γ : Ctx) (id : Nat) (o : HObj) (ob : Obj) : Ctx :=
  { H := Γ.H.set id o, ρ := fun i => if i = id then some Γ.w.heap.size else Γ.ρ i, S := Γ.S, w := Γ.w.alloc ob }
theorem Ext.move {lo id b T : Nat} {xs xs' : List AV} {ob : Obj} (hlo : lo ≤ id) (hρ : Γ.ρ id = some b) (hx : Γ.H[id]? = some (.cells T xs))
    (hlen : xs.length < xs'.length) : Ext lo (fun _ => False) Γ (Γ.move id (.cells T xs') ob) where
  len := by simp [Ctx.move]
  cells id' T' ys _ hy := by
    rcases set_get hy with ⟨rfl, e⟩ | ⟨ee, e⟩
    · injection e with h1 h2; subst h1 h2
      exact ⟨xs, hx, .inl hlen⟩
    · exact ⟨ys, e, .inr ⟨rfl, if_neg (fun h => ee h.symm)⟩⟩
  map id' es _ hy := by
    rcases set_get hy with ⟨rfl, e⟩ | ⟨ee, e⟩
    · cases e
    · exact ⟨es, e, if_neg (fun h => ee h.symm)⟩
  loop id' r _ hy := by
    rcases set_get hy with ⟨rfl, e⟩ | ⟨ee, e⟩
    · cases e
    · exact ⟨r, e, if_neg (fun h => ee h.symm)⟩
  absent id' _ h := by
    have e : id' ≠ id := fun e => by subst e; rw [hρ] at h; cases h
    exact (if_neg e).trans h
  barrier id' hl hid := ⟨List.getElem?_set_ne (by omega), if_neg (by omega), fun _ _ hb => heap_push_old hb⟩
  sizes := (Ext.alloc lo Γ ob).sizes
  keep := (Ext.alloc lo Γ ob).keep
  fresh id' b' h := by
    simp only [Ctx.move] at h
    split at h
    · injection h with h; right; omega
    · exact .inl ⟨id', h⟩
  stab _ h := h
  stabN _ h := .inl h
  size := by simp [-World.alloc_eq, Ctx.move, World.alloc]
  os := rfl
  tape := rfl
  output := rfl
theorem Inv.move (I : Inv base Γ) {lo id b T : Nat} {xs' : List AV} {ob : Obj} (hρ : Γ.ρ id = some b) (e : Ext lo (fun _ => False) Γ (Γ.move id (.cells T xs') ob)) (ho : ObjOk Γ (.cells T xs') ob) (hbase : base ≤ Γ.w.heap.size) :
    Inv base (Γ.move id (.cells T xs') ob) := by
  have hB : ∀ b, Γ.S b → ¬ (fun _ : Nat => False) b := fun _ _ h => h
  refine Inv.of_objs (fun id' b' h => ?_) (fun i j c h1 h2 => ?_) (fun b hs => by have := I.stab b hs; simp [-World.alloc_eq, Ctx.move, World.alloc]; omega) (fun id' b' o' h hx => ?_)
  · simp only [Ctx.move] at h ⊢
    split at h
    · rename_i ee
      injection h with h
      subst h ee
      exact ⟨by simpa using (I.dom _ _ hρ).1, by simp [-World.alloc_eq, World.alloc], hbase, fun hs => absurd (I.stab _ hs) (by omega)⟩
    · obtain ⟨a, b, c, d⟩ := I.dom id' b' h
      exact ⟨by simpa using a, by simp [-World.alloc_eq, World.alloc]; omega, c, d⟩
  · simp only [Ctx.move] at h1 h2
    split at h1 <;> split at h2
    · rename_i a b; rw [a, b]
    · injection h1 with h1; have := (I.dom j c h2).2.1; omega
    · injection h2 with h2; have := (I.dom i c h1).2.1; omega
    · exact I.inj i j c h1 h2
  · simp only [Ctx.move] at h hx ⊢
    split at h
    · rename_i ee
      injection h with h
      subst h ee
      rw [List.getElem?_set_self (I.dom _ _ hρ).1] at hx
      injection hx with hx
      subst hx
      exact ⟨ob, heap_push_new _ _, ho.ext e I hB⟩
    · rename_i ee
      rw [List.getElem?_set_ne (fun e => ee e.symm)] at hx
      obtain ⟨ob', h1, h2⟩ := ObjOk.of I h hx
      exact ⟨ob', (heap_push_old (I.dom id' b' h).2.1).trans h1, h2.ext e I hB⟩
/- What the table of types must say; the runs of the model's own words on types and cells. -/
def KindOk : TK → TypeDesc → Prop
  | .int k, .int k' => k' = k
  | .bool, .bool => True
  | .str, .string => True
  | .slice e, .slice e' => e' = e
  | .struct fs, .struct gs => gs.toList.map (fun f => (f.offset, f.type)) = fs
  | .ptr, .pointer _ => True
  | .map k e, .map k' e' => k' = k ∧ e' = e
  | .func, .func _ _ _ => True
  | .iface, .interface _ => True
  | _, _ => False
def zShape : Value → Option Bool
  | .agg _ => some true
  | .tuple _ => none
  | _ => some false
structure TIOk (P : Program) (t : Nat) (ti : TI) : Prop where
  info : ∃ i : TypeInfo, P.info? t = some i ∧ i.size = ti.sz ∧ i.bytes = ti.bytes ∧ ∃ z, i.zero = some z ∧ z.cells.size = ti.sz ∧ z.cells.toList.mapM simpleV = some ti.zero ∧ zShape z = some ti.kind.isAgg
  kind : ∃ d, P.underlying t = some d ∧ KindOk ti.kind d
  flds : ∀ gs, P.underlying t = some (.struct gs) → ∀ g, g ∈ gs.toList → ∃ i : TypeInfo, P.info? g.type = some i
def TabOk (P : Program) (T : Tab) : Prop := ∀ t ti, look T t = some ti → TIOk P t ti
variable {P : Program} {Γ : Ctx} {w : World} {t : Nat} {ti : TI}
theorem simpleV_rel {v : Value} {a : AV} (h : simpleV v = some a) : RelV Γ a v ∧ oneCell a = true ∧ v.oneCell' = true := by
  unfold simpleV at h
  split at h <;> first | (injection h with h; subst h; exact ⟨by constructor, rfl, rfl⟩) | cases h
theorem mapM_simple : ∀ {l : List Value} {xs : List AV}, l.mapM simpleV = some xs → xs.length = l.length ∧ (∀ x, x ∈ xs → oneCell x = true) ∧ (∀ v, v ∈ l → v.oneCell' = true) ∧ ∀ (i : Nat) (x : AV), xs[i]? = some x → ∃ v, l[i]? = some v ∧ RelV Γ x v
  | [], xs, h => by simp at h; subst h; simp
  | v :: l, xs, h => by
    rw [List.mapM_cons] at h
    cases h1 : simpleV v with
    | none => rw [h1] at h; cases h
    | some a =>
      rw [h1] at h
      cases h2 : l.mapM simpleV with
      | none => rw [h2] at h; cases h
      | some ys =>
        rw [h2] at h
        injection h with h
        subst h
        obtain ⟨h3, h4, h5, h6⟩ := mapM_simple h2
        obtain ⟨r1, r2, r3⟩ := simpleV_rel (Γ := Γ) h1
        refine ⟨by simp [h3], fun x hx => ?_, fun x hx => ?_, fun i x hx => ?_⟩
        · rcases List.mem_cons.1 hx with rfl | hx
          · exact r2
          · exact h4 x hx
        · rcases List.mem_cons.1 hx with rfl | hx
          · exact r3
          · exact h5 x hx
        · cases i with
          | zero => simp at hx; subst hx; exact ⟨v, rfl, r1⟩
          | succ i => simp at hx; simpa using h6 i x hx
theorem constV_rel {v : Value} {a : AV} (h : constV v = some a) : RelV Γ a v := by
  unfold constV at h
  split at h
  · rename_i cs
    cases h1 : cs.toList.mapM simpleV with
    | none => rw [h1] at h; cases h
    | some xs =>
      rw [h1] at h
      injection h with h
      subst h
      obtain ⟨h3, h4, _, h6⟩ := mapM_simple (Γ := Γ) h1
      refine .agg (by simpa using h3.symm) h4 fun i x hx => ?_
      obtain ⟨v, hv, hr⟩ := h6 i x hx
      have : cs.getD i undef = v := by rw [Array.getD_eq_getD_getElem?, ← Array.getElem?_toList, hv]; rfl
      rw [this]; exact hr
  · rename_i f first caps
    split at h
    · rename_i hc
      injection h with h
      subst h
      simp only [Bool.and_eq_true, Array.isEmpty_iff] at hc
      obtain ⟨rfl, rfl⟩ := hc
      exact .fn rfl (by simp)
    · cases h
  · exact (simpleV_rel h).1
theorem TIOk.run_info (h : TIOk P t ti) (w : World) : ∃ i : TypeInfo, (typeInfo t).run P w = .ok i w ∧ i.size = ti.sz ∧ i.bytes = ti.bytes := by
  obtain ⟨i, h1, h2, h3, _⟩ := h.info
  exact ⟨i, by simp [typeInfo, h1], h2, h3⟩
theorem TIOk.run_size (h : TIOk P t ti) (w : World) : (sizeOf t).run P w = .ok ti.sz w := by
  obtain ⟨i, h1, h2, _⟩ := h.run_info w
  simp [sizeOf, h1, h2]
theorem TIOk.run_agg (h : TIOk P t ti) (w : World) : (isAgg t).run P w = .ok ti.kind.isAgg w := by
  obtain ⟨d, h1, h2⟩ := h.kind
  unfold isAgg
  simp only [Sem.run_bind, run_underlying h1, Result.andThen_ok]
  cases d <;> cases hk : ti.kind <;> rw [hk] at h2 <;> first | exact h2.elim | rfl
theorem TIOk.run_zero (h : TIOk P t ti) (w : World) : ∃ z, (zeroValue t).run P w = .ok z w ∧ z.cells.size = ti.sz ∧ z.cells.toList.mapM simpleV = some ti.zero ∧ zShape z = some ti.kind.isAgg := by
  obtain ⟨i, h1, _, _, z, h4, h5, h6⟩ := h.info
  exact ⟨z, by simp [zeroValue, typeInfo, h1, h4], h5, h6⟩
theorem TIOk.slice (h : TIOk P t ti) {e : Nat} (hk : ti.kind = .slice e) : P.underlying t = some (.slice e) := by
  obtain ⟨d, h1, h2⟩ := h.kind
  rw [hk] at h2
  cases d <;> first | exact h2.elim | (rw [h1]; exact congrArg (fun x => some (TypeDesc.slice x)) h2)
theorem TIOk.str (h : TIOk P t ti) (hk : ti.kind = .str) : P.underlying t = some .string := by
  obtain ⟨d, h1, h2⟩ := h.kind
  rw [hk] at h2
  cases d <;> first | exact h2.elim | exact h1
theorem TIOk.int (h : TIOk P t ti) {k : IntKind} (hk : ti.kind = .int k) : P.underlying t = some (.int k) := by
  obtain ⟨d, h1, h2⟩ := h.kind
  rw [hk] at h2
  cases d <;> first | exact h2.elim | (rw [h1]; exact congrArg (fun x => some (TypeDesc.int x)) h2)
theorem TIOk.bool (h : TIOk P t ti) (hk : ti.kind = .bool) : P.underlying t = some .bool := by
  obtain ⟨d, h1, h2⟩ := h.kind
  rw [hk] at h2
  cases d <;> first | exact h2.elim | exact h1
theorem TIOk.struct (h : TIOk P t ti) {fs : List (Nat × Nat)} (hk : ti.kind = .struct fs) : ∃ gs, P.underlying t = some (.struct gs) ∧ gs.toList.map (fun f => (f.offset, f.type)) = fs := by
  obtain ⟨d, h1, h2⟩ := h.kind
  rw [hk] at h2
  cases d <;> first | exact h2.elim | exact ⟨_, h1, h2⟩
theorem TIOk.map (h : TIOk P t ti) {k e : Nat} (hk : ti.kind = .map k e) : P.underlying t = some (.map k e) := by
  obtain ⟨d, h1, h2⟩ := h.kind
  rw [hk] at h2
  cases d <;> first | exact h2.elim | (rw [h1]; obtain ⟨rfl, rfl⟩ := h2; rfl)
theorem TIOk.ptr (h : TIOk P t ti) (hk : ti.kind = .ptr) : ∃ e, P.underlying t = some (.pointer e) := by
  obtain ⟨d, h1, h2⟩ := h.kind
  rw [hk] at h2
  cases d <;> first | exact h2.elim | exact ⟨_, h1⟩
theorem TIOk.func (h : TIOk P t ti) (hk : ti.kind = .func) : ∃ a b c, P.underlying t = some (.func a b c) := by
  obtain ⟨d, h1, h2⟩ := h.kind
  rw [hk] at h2
  cases d <;> first | exact h2.elim | exact ⟨_, _, _, h1⟩
/- Operands, cells loaded and stored. -/
inductive RelVs (Γ : Ctx) : List AV → List Value → Prop
  | nil : RelVs Γ [] []
  | cons {a : AV} {v : Value} {l : List AV} {m : List Value} (h : RelV Γ a v) (t : RelVs Γ l m) : RelVs Γ (a :: l) (v :: m)
theorem RelVs.len {Γ : Ctx} {l : List AV} {m : List Value} (h : RelVs Γ l m) : m.length = l.length := by
  induction h with
  | nil => rfl
  | cons _ _ ih => simp [ih]
theorem RelVs.get {Γ : Ctx} {l : List AV} {m : List Value} (h : RelVs Γ l m) : ∀ (i : Nat) (x : AV), l[i]? = some x → ∃ v, m[i]? = some v ∧ RelV Γ x v := by
  induction h with
  | nil => intro i x hx; simp at hx
  | cons h _ ih =>
    intro i x hx
    cases i with
    | zero => simp at hx; subst hx; exact ⟨_, rfl, h⟩
    | succ i => simp at hx; simpa using ih i x hx
theorem RelVs.append {Γ : Ctx} {l l' : List AV} {m m' : List Value} (h : RelVs Γ l m) (h' : RelVs Γ l' m') : RelVs Γ (l ++ l') (m ++ m') := by
  induction h with
  | nil => exact h'
  | cons h _ ih => exact .cons h ih
theorem RelVs.ext {lo base : Nat} {B : Nat → Prop} {Γ Γ' : Ctx} {l : List AV} {m : List Value} (h : RelVs Γ l m) (e : Ext lo B Γ Γ') (I : Inv base Γ) (hB : ∀ b, Γ.S b → ¬ B b) : RelVs Γ' l m := by
  induction h with
  | nil => exact .nil
  | cons h _ ih => exact .cons (h.ext e I hB) ih
theorem RelVs.of_array {Γ : Ctx} : ∀ {l : List AV} {m : List Value}, m.length = l.length → (∀ (i : Nat) (x : AV), l[i]? = some x → RelV Γ x (m.getD i undef)) → RelVs Γ l m
  | [], [], _, _ => .nil
  | a :: l, v :: m, hn, h => .cons (by simpa using h 0 a rfl) (RelVs.of_array (by simpa using hn) fun i x hx => by simpa using h (i + 1) x (by simpa using hx))
  | [], _ :: _, hn, _ => by simp at hn
  | _ :: _, [], hn, _ => by simp at hn
theorem add_add (a : Addr) (m n : Nat) : (a.add m).add n = a.add (m + n) := by
  unfold Addr.add
  by_cases hm : m = 0 <;> by_cases hn : n = 0 <;> simp [hm, hn, Nat.add_assoc]
variable {P : Program} {Γ : Ctx} {w : World} {t : Nat} {ti : TI} {base n0 : Nat} {β : Nat → Nat} {s : St} {a : Act}
theorem RelS.slot (R : RelS base n0 Γ β s a) {x : Operand} {sl : Slot} (h : s.slot x = some sl) : RelX Γ β sl (a.eval x) := by
  cases x with
  | tmp t => exact (R.env t sl h).2
  | const v =>
    simp only [St.slot, Option.map_eq_some_iff] at h
    obtain ⟨c, hc, rfl⟩ := h
    exact constV_rel hc
  | global g => cases h
  | func f => injection h with h; subst h; exact .fn rfl (by simp)
theorem RelS.val (R : RelS base n0 Γ β s a) {x : Operand} {v : AV} (h : s.val x = some v) : RelV Γ v (a.eval x) := by
  unfold St.val at h
  split at h
  · rename_i c hs
    injection h with h; subst h
    exact R.slot hs
  · cases h
theorem RelS.vals (R : RelS base n0 Γ β s a) : ∀ {l : List Operand} {vs : List AV}, s.vals l = some vs → RelVs Γ vs (l.map a.eval)
  | [], vs, h => by injection h with h; subst h; exact .nil
  | x :: l, vs, h => by
    simp only [St.vals] at h
    split at h
    · rename_i c hc
      split at h
      · rename_i m hm
        injection h with h; subst h
        exact .cons (R.val hc) (R.vals hm)
      · cases h
    · cases h
theorem cells_rel {v : AV} {x : Value} {ys : List AV} (h : RelV Γ v x) (hc : cellsOf v = some ys) : x.cells.size = ys.length ∧ (∀ y, y ∈ ys → oneCell y = true) ∧ ∀ (i : Nat) (y : AV), ys[i]? = some y → RelV Γ y (x.cells.getD i undef) := by
  have one : ∀ {v : AV} {x : Value}, RelV Γ v x → oneCell v = true → x.cells.size = [v].length ∧ (∀ y, y ∈ [v] → oneCell y = true) ∧ ∀ (i : Nat) (y : AV), [v][i]? = some y → RelV Γ y (x.cells.getD i undef) := by
    intro v x hr h1
    have hx := hr.oneCell h1
    have hcx : x.cells = #[x] := by cases x <;> first | rfl | cases hx
    rw [hcx]
    refine ⟨rfl, by simpa using h1, fun i y hy => ?_⟩
    cases i with
    | zero => simp at hy; subst hy; simpa using hr
    | succ i => simp at hy
  cases v with
  | agg xs =>
    injection hc with hc; subst hc
    cases h with
    | agg hn h1 hrel => exact ⟨hn, h1, hrel⟩
  | tup xs => cases hc
  | _ => injection hc with hc; subst hc; exact one h rfl
theorem cells_one {v : AV} {x : Value} {ys : List AV} (h : RelV Γ v x) (hc : cellsOf v = some ys) : ∀ y, y ∈ x.cells.toList → y.oneCell' = true := by
  obtain ⟨h1, h2, h3⟩ := cells_rel h hc
  intro y hy
  obtain ⟨i, hi, rfl⟩ := List.mem_iff_getElem.1 hy
  have hi' : i < ys.length := by simpa [h1] using hi
  have := (h3 i ys[i] (List.getElem?_eq_getElem hi')).oneCell (h2 _ (List.getElem_mem hi'))
  simpa [Array.getD_eq_getD_getElem?, show i < x.cells.size by simpa using hi] using this
/-- Cells read. -/
theorem load_sound (h : TIOk P t ti) (ad : Addr) (g : Nat → Value) {xs : List AV} (h1 : ∀ x, x ∈ xs → oneCell x = true) (hc : ∀ (j : Nat) (x : AV), xs[j]? = some x → w.cell? (ad.add j) = some (g j) ∧ RelV Γ x (g j))
    (off : Nat) {r : AV} (hp : part ti xs off = some r) : ∃ v, (loadVar t (ad.add off)).run P w = .ok v w ∧ RelV Γ r v := by
  unfold part at hp
  split at hp
  · rename_i hk
    split at hp
    · rename_i hle
      injection hp with hp; subst hp
      have hget : ∀ j, j < ti.sz → ∃ x, xs[off + j]? = some x := fun j hj => ⟨_, List.getElem?_eq_getElem (by omega)⟩
      refine ⟨.agg ((List.range ti.sz).map fun j => g (off + j)).toArray, ?_, ?_⟩
      · unfold loadVar
        simp only [Sem.run_bind, h.run_agg, Result.andThen_ok, hk, if_true, h.run_size]
        rw [run_loadCells w (ad.add off) ti.sz (fun j => g (off + j)) (fun j hj => by
          obtain ⟨x, hx⟩ := hget j hj
          rw [add_add]; exact (hc _ x hx).1)]
        rfl
      · refine .agg (by simp; omega) (fun x hx => h1 x (List.mem_of_mem_drop (List.mem_of_mem_take hx))) fun i x hx => ?_
        have hi : i < ti.sz := by
          rcases Nat.lt_or_ge i ti.sz with h' | h'
          · exact h'
          · rw [List.getElem?_take_eq_none h'] at hx; cases hx
        rw [List.getElem?_take_of_lt hi, List.getElem?_drop] at hx
        have := (hc _ x hx).2
        simpa [Array.getD_eq_getD_getElem?, hi] using this
    · cases hp
  · rename_i hk
    have hx := hc off r hp
    refine ⟨g off, ?_, hx.2⟩
    unfold loadVar
    simp only [Sem.run_bind, h.run_agg, Result.andThen_ok, hk, Bool.false_eq_true, if_false, run_load, hx.1]
theorem setRow_eq {w : World} {b : Nat} {cur arr : Array Value} {T : TypeId} (h : w.heap[b]? = some (.cells cur T (0, 0))) : w.setRow b arr = { w with heap := w.heap.setIfInBounds b (.cells arr T (0, 0)) } := by
  unfold World.setRow
  congr 1
  apply Array.ext_getElem?
  intro i
  by_cases e : b = i
  · subst e
    have hlt : b < w.heap.size := by
      rcases Nat.lt_or_ge b w.heap.size with h' | h'
      · exact h'
      · rw [Array.getElem?_eq_none h'] at h; cases h
    rw [Array.getElem?_modify, if_pos rfl, h, Array.getElem?_setIfInBounds_self_of_lt hlt]
    rfl
  · rw [Array.getElem?_modify, if_neg e, Array.getElem?_setIfInBounds_ne e]
/-- Cells written. -/
theorem store_sound (h : TIOk P t ti) {b off : Nat} {cur : Array Value} {T : TypeId} {v : AV} {x : Value} {ys : List AV} (hg : w.heap[b]? = some (.cells cur T (0, 0))) (hr : RelV Γ v x) (hc : cellsOf v = some ys)
    (hsz : ys.length = ti.sz) (hfit : off + ti.sz ≤ cur.size) :
    (storeVar t ⟨b, off, none⟩ x).run P w = .ok () { w with heap := w.heap.setIfInBounds b (.cells (cur.toList.take off ++ x.cells.toList ++ cur.toList.drop (off + ys.length)).toArray T (0, 0)) } := by
  obtain ⟨h1, h2, h3⟩ := cells_rel hr hc
  unfold storeVar
  have hne : ¬ x.cells.size ≠ ti.sz := by omega
  simp only [Sem.run_bind, h.run_size, Result.andThen_ok, Sem.run_ite, hne, if_false, Sem.run_pure]
  have hl : x.cells.toList.length = ys.length := by simpa using h1
  have := run_storeCells_at (P := P) b off T x.cells.toList 0 cur w hg (by rw [hl]; omega) (cells_one hr hc)
  rw [Nat.add_zero, hl] at this
  rw [setRow_eq hg] at this
  exact this
theorem setCells_length (xs ys : List AV) (off : Nat) (h : off + ys.length ≤ xs.length) : (setCells xs off ys).length = xs.length := by
  unfold setCells; simp; omega
theorem setCells_mem {xs ys : List AV} {off : Nat} {x : AV} (h : x ∈ setCells xs off ys) : x ∈ xs ∨ x ∈ ys := by
  unfold setCells at h
  simp only [List.mem_append] at h
  rcases h with (h | h) | h
  · exact .inl (List.mem_of_mem_take h)
  · exact .inr h
  · exact .inl (List.mem_of_mem_drop h)
theorem splice_get {α β : Type} {xs ys : List α} {as bs : List β} {off : Nat} (hxy : off + ys.length ≤ xs.length) (hab : xs.length ≤ as.length) (hb : bs.length = ys.length) (i : Nat) (x : α)
    (h : (xs.take off ++ ys ++ xs.drop (off + ys.length))[i]? = some x) :
    (ys[i - off]? = some x ∧ (as.take off ++ bs ++ as.drop (off + ys.length))[i]? = bs[i - off]? ∧ off ≤ i ∧ i - off < bs.length) ∨ (xs[i]? = some x ∧ (as.take off ++ bs ++ as.drop (off + ys.length))[i]? = as[i]?) := by
  have l1 : (xs.take off).length = off := by simp; omega
  have l2 : (as.take off).length = off := by simp; omega
  rcases Nat.lt_or_ge i off with h1 | h1
  · right
    rw [List.append_assoc, List.getElem?_append_left (by omega), List.getElem?_take_of_lt h1] at h
    rw [List.append_assoc, List.getElem?_append_left (by omega), List.getElem?_take_of_lt h1]
    exact ⟨h, rfl⟩
  · rcases Nat.lt_or_ge i (off + ys.length) with h2 | h2
    · left
      rw [List.append_assoc, List.getElem?_append_right (by omega), List.getElem?_append_left (by omega), l1] at h
      rw [List.append_assoc, List.getElem?_append_right (by omega), List.getElem?_append_left (by omega), l2]
      exact ⟨h, rfl, h1, by omega⟩
    · right
      rw [List.append_assoc, List.getElem?_append_right (by omega), List.getElem?_append_right (by omega), l1, List.getElem?_drop] at h
      rw [List.append_assoc, List.getElem?_append_right (by omega), List.getElem?_append_right (by omega), l2, List.getElem?_drop, hb]
      have e : off + ys.length + (i - off - ys.length) = i := by omega
      rw [e] at h ⊢
      exact ⟨h, rfl⟩
theorem splice_rel {v : AV} {x : Value} {ys xs : List AV} {cur : Array Value} {off : Nat} (hr : RelV Γ v x) (hc : cellsOf v = some ys) (hfit : off + ys.length ≤ xs.length) (hcur : xs.length ≤ cur.size)
    (h : ∀ (i : Nat) (y : AV), xs[i]? = some y → RelV Γ y (cur.getD i undef)) (i : Nat) (y : AV) (hy : (setCells xs off ys)[i]? = some y) :
    RelV Γ y ((cur.toList.take off ++ x.cells.toList ++ cur.toList.drop (off + ys.length)).toArray.getD i undef) := by
  obtain ⟨h1, h2, h3⟩ := cells_rel hr hc
  rcases splice_get (as := cur.toList) (bs := x.cells.toList) hfit (by simpa using hcur) (by simpa using h1) i y hy with ⟨a, b, c, d⟩ | ⟨a, b⟩
  · have := h3 _ y a
    rw [Array.getD_eq_getD_getElem?] at this ⊢
    rw [List.getElem?_toArray, b, Array.getElem?_toList]
    exact this
  · have := h i y a
    rw [Array.getD_eq_getD_getElem?] at this ⊢
    rw [List.getElem?_toArray, b, Array.getElem?_toList]
    exact this
/-- Nil slices shown as rows. -/
theorem nilz_one {n : Nat} {a : AV} (h : oneCell a = true) : oneCell (nilz n a) = true := by
  cases a <;> simp only [nilz] <;> first | exact h | (split <;> rfl)
theorem nilz_T {S : Nat → Prop} {w : World} {n : Nat} {a : AV} {v : Value} (h : RelT S w a v) : RelT S w (nilz n a) v := by
  cases h with
  | nils =>
    simp only [nilz]
    split
    · exact .nils
    · exact .vs (fun _ _ => undef) rfl (Nat.le_refl _) (fun r hr => by cases hr) (fun h => by cases h) (fun ad h => by cases h) (fun i j r x hi => by cases hi)
  | vs g hn hc hsz hA hmem hrel => exact .vs g hn hc hsz hA hmem hrel
  | _ => simp only [nilz]; constructor
theorem nilz_V {n : Nat} {a : AV} {v : Value} (h : RelV Γ a v) : RelV Γ (nilz n a) v := by
  by_cases hs : a = .nils
  · subst hs
    exact (nilz_T (h.toT rfl)).toV
  · have : nilz n a = a := by cases a <;> first | rfl | exact absurd rfl hs
    rw [this]; exact h
theorem nilzL_len : ∀ (ns : List Nat) (l : List AV), (nilzL ns l).length = l.length
  | [], l => by simp [nilzL]
  | n :: ns, [] => rfl
  | n :: ns, a :: l => by simp [nilzL, nilzL_len ns l]
theorem nilzL_get : ∀ (ns : List Nat) (l : List AV) (i : Nat) (y : AV), (nilzL ns l)[i]? = some y → ∃ n x, l[i]? = some x ∧ (y = nilz n x ∨ y = x)
  | [], l, i, y, h => ⟨0, y, by simpa [nilzL] using h, .inr rfl⟩
  | n :: ns, [], i, y, h => by simp [nilzL] at h
  | n :: ns, a :: l, 0, y, h => by simp [nilzL] at h; exact ⟨n, a, rfl, .inl h.symm⟩
  | n :: ns, a :: l, i + 1, y, h => by
    simp only [nilzL, List.getElem?_cons_succ] at h
    exact nilzL_get ns l i y h
theorem nilzL_one {ns : List Nat} {l : List AV} (h : ∀ x, x ∈ l → oneCell x = true) : ∀ y, y ∈ nilzL ns l → oneCell y = true := fun y hy => by
  obtain ⟨i, hi⟩ := List.mem_iff_getElem?.1 hy
  obtain ⟨n, x, hx, e⟩ := nilzL_get ns l i y hi
  have := h x (List.mem_of_getElem? hx)
  rcases e with rfl | rfl
  · exact nilz_one this
  · exact this
theorem nilzL_agg {ns : List Nat} {xs : List AV} {v : Value} (h : RelV Γ (.agg xs) v) : RelV Γ (.agg (nilzL ns xs)) v := by
  cases h with
  | agg hn h1 hrel =>
    refine .agg (by rw [nilzL_len]; exact hn) (nilzL_one h1) (fun i y hi => ?_)
    obtain ⟨n, x, hx, e⟩ := nilzL_get _ _ _ _ hi
    have := hrel i x hx
    rcases e with rfl | rfl
    · exact nilz_V this
    · exact this
/- Operations on numbers, bools, strings; equality. -/
structure EqOk (P : Program) (t : Nat) : Prop where
  st : P.underlying t = some (.struct (P.fieldsOf t))
  guard : P.eqGuardType P.depth t = false
  held : P.stoodInHeld t = false
  flds : ∀ (i : Nat) (f : Field), (P.fieldsOf t)[i]? = some f → f.name ≠ "_" ∧ f.offset = i ∧ ∃ d, P.underlying f.type = some d ∧ ((∃ k, d = .int k) ∨ d = .bool ∨ d = .string)
variable {P : Program} {Γ : Ctx} {w : World} {t : Nat} {ti : TI} {T : Tab} {base : Nat}
theorem int_sound {op : BinOp} {k : IntKind} {a b : Int} {r : AV} (h : intOp op k a b = some r) (h1 : op ≠ .shl) (h2 : op ≠ .shr) (t : TypeId) : ∃ v, (binOp op t (.int k a) (.int k b)).run P w = .ok v w ∧ RelV Γ r v := by
  cases op <;> simp only [intOp] at h
  case add => injection h with h; subst h; exact ⟨_, by simp [binOp, Op.intArith], .int _ _⟩
  case sub => injection h with h; subst h; exact ⟨_, by simp [binOp, Op.intArith], .int _ _⟩
  case mul => injection h with h; subst h; exact ⟨_, by simp [binOp, Op.intArith], .int _ _⟩
  case quo =>
    split at h
    · cases h
    · rename_i hb; injection h with h; subst h; exact ⟨_, by simp [binOp, Op.intDiv, hb], .int _ _⟩
  case rem =>
    split at h
    · cases h
    · rename_i hb; injection h with h; subst h; exact ⟨_, by simp [binOp, Op.intDiv, hb], .int _ _⟩
  case and => simp only [bitsOf, Option.map_some, Option.some.injEq] at h; subst h; exact ⟨_, by simp [binOp, Op.intBits], .int _ _⟩
  case or => simp only [bitsOf, Option.map_some, Option.some.injEq] at h; subst h; exact ⟨_, by simp [binOp, Op.intBits], .int _ _⟩
  case xor => simp only [bitsOf, Option.map_some, Option.some.injEq] at h; subst h; exact ⟨_, by simp [binOp, Op.intBits], .int _ _⟩
  case andNot => simp only [bitsOf, Option.map_some, Option.some.injEq] at h; subst h; exact ⟨_, by simp [binOp, Op.intBits], .int _ _⟩
  case shl => exact absurd rfl h1
  case shr => exact absurd rfl h2
  case eql => injection h with h; subst h; exact ⟨_, by simp [binOp, Op.intCmp], .bool _⟩
  case neq => injection h with h; subst h; exact ⟨_, by simp [binOp, Op.intCmp], .bool _⟩
  case lss => injection h with h; subst h; exact ⟨_, by simp [binOp, Op.intCmp], .bool _⟩
  case leq => injection h with h; subst h; exact ⟨_, by simp [binOp, Op.intCmp], .bool _⟩
  case gtr => injection h with h; subst h; exact ⟨_, by simp [binOp, Op.intCmp], .bool _⟩
  case geq => injection h with h; subst h; exact ⟨_, by simp [binOp, Op.intCmp], .bool _⟩
theorem str_sound {op : BinOp} {a b : ByteArray} {r : AV} (h : strOp op a b = some r) (t : TypeId) : ∃ v, (binOp op t (.string a) (.string b)).run P w = .ok v w ∧ RelV Γ r v := by
  cases op <;> simp only [strOp] at h <;> first | (cases h; done) | skip
  case add =>
    split at h
    · rename_i hb
      injection h with h; subst h
      refine ⟨.string (a ++ b), ?_, .str _⟩
      have : ¬ (((a.size + b.size : Nat) : Int) > IntKind.i64.max) := by
        have e : IntKind.i64.max = 9223372036854775807 := by decide
        rw [e]; omega
      simp only [binOp, Op.stringOp, this, if_false, Sem.run_pure]
    · cases h
  all_goals (injection h with h; subst h; exact ⟨_, by simp [binOp, Op.stringOp], .bool _⟩)
theorem shift_sound {op : BinOp} {k k' : IntKind} {a b : Int} {r : AV} (h : shiftOp op k a b = some r) (ho : op = .shl ∨ op = .shr) (t : TypeId) : ∃ v, (binOp op t (.int k a) (.int k' b)).run P w = .ok v w ∧ RelV Γ r v := by
  unfold shiftOp at h
  split at h
  · cases h
  · rename_i hb
    rcases ho with rfl | rfl
    · injection h with h; subst h
      exact ⟨_, by simp only [binOp, Op.shift, hb, if_false, Sem.run_pure], .int _ _⟩
    · injection h with h; subst h
      exact ⟨_, by simp only [binOp, Op.shift, hb, if_false, Sem.run_pure], .int _ _⟩
theorem keyEq_sound {kk : TK} {x y : AV} {r : Bool} {v u : Value} (h : keyEq kk x y = some r) (hx : RelV Γ x v) (hy : RelV Γ y u) (ht : TIOk P t ti) (hk : ti.kind = kk) (n : Nat) : (Op.equalIn (n + 1) t v u).run P w = .ok r w := by
  unfold keyEq at h
  split at h
  · split at h
    · rename_i e; subst e
      injection h with h; subst h
      cases hx; cases hy
      exact run_equalIn_int w n t _ _ _ _ (ht.int hk)
    · cases h
  · injection h with h; subst h
    cases hx; cases hy
    exact run_equalIn_bool' w n t _ _ (ht.bool hk)
  · injection h with h; subst h
    cases hx; cases hy
    rw [run_equalIn_string w n t _ _ (ht.str hk), beq_toListBytes]
  · cases h
theorem eqAll_sound (hT : TabOk P T) (n : Nat) (vs us : Array Value) : ∀ (fs : List Field) (k : Nat) (xs ys : List AV) (r : Bool), eqAll T (fs.map fun f => (f.offset, f.type)) xs ys = some r →
    (∀ (i : Nat) (f : Field), fs[i]? = some f → f.name ≠ "_" ∧ f.offset = k + i) → (∀ (i : Nat) (x : AV), xs[i]? = some x → RelV Γ x (vs.getD (k + i) undef)) → (∀ (i : Nat) (x : AV), ys[i]? = some x → RelV Γ x (us.getD (k + i) undef)) →
    k + xs.length ≤ vs.size → k + ys.length ≤ us.size → (Op.eqFields (n + 1) vs us fs).run P w = .ok r w
  | [], k, xs, ys, r, h, _, _, _, _, _ => by
    cases xs <;> cases ys <;> simp [eqAll] at h
    subst h; rfl
  | f :: fs, k, xs, ys, r, h, hf, hx, hy, hvs, hus => by
    cases xs with
    | nil => simp [eqAll] at h
    | cons x xs =>
    cases ys with
    | nil => simp [eqAll] at h
    | cons y ys =>
      simp only [List.map_cons, eqAll] at h
      cases hl : look T f.type with
      | none => rw [hl] at h; cases h
      | some ti =>
        rw [hl] at h
        have ht := hT _ _ hl
        obtain ⟨h1, h2⟩ := hf 0 f rfl
        simp at hvs hus
        have hx0 := hx 0 x rfl
        have hy0 := hy 0 y rfl
        have ea : ∀ (w : World) (A : Array Value), k < A.size → ti.kind.isAgg = false → (_root_.Go.part f.type A f.offset).run P w = .ok (A.getD (k + 0) undef) w := by
          intro w A hA hag
          unfold Go.part
          simp only [Sem.run_bind, ht.run_agg, Result.andThen_ok, hag, Bool.false_eq_true, if_false]
          have e : A[f.offset]? = some (A.getD (k + 0) undef) := by
            rw [h2]; simp [Array.getD_eq_getD_getElem?, hA]
          rw [e]; rfl
        have hkk : ∀ b, keyEq ti.kind x y = some b → ti.kind.isAgg = false := by
          intro b hb; unfold keyEq at hb; split at hb <;> first | (rename_i e1 _ _; rw [e1]; rfl) | (rename_i e1; rw [e1]; rfl) | (cases hb; done) | rfl | skip
          all_goals first | rfl | skip
        have hg : ∀ (i : Nat) (f : Field), fs[i]? = some f → f.name ≠ "_" ∧ f.offset = k + 1 + i := fun i f' hf' => by
          have := hf (i + 1) f' (by simpa using hf'); exact ⟨this.1, by omega⟩
        have hx' : ∀ (i : Nat) (z : AV), xs[i]? = some z → RelV Γ z (vs.getD (k + 1 + i) undef) := fun i z hz => by
          have := hx (i + 1) z (by simpa using hz); rwa [show k + (i + 1) = k + 1 + i by omega] at this
        have hy' : ∀ (i : Nat) (z : AV), ys[i]? = some z → RelV Γ z (us.getD (k + 1 + i) undef) := fun i z hz => by
          have := hy (i + 1) z (by simpa using hz); rwa [show k + (i + 1) = k + 1 + i by omega] at this
        dsimp only at h
        cases hb : keyEq ti.kind x y with
        | none => rw [hb] at h; cases h
        | some b =>
          rw [hb] at h
          have hag := hkk b hb
          have hrun := keyEq_sound (w := w) hb hx0 hy0 ht rfl n
          unfold Op.eqFields
          rw [if_pos h1]
          simp only [Sem.run_bind, ea w vs (by omega) hag, ea w us (by omega) hag, Result.andThen_ok, hrun]
          cases b with
          | true =>
            simp only [Bool.not_true, Bool.false_eq_true, if_false]
            exact eqAll_sound hT n vs us fs (k + 1) xs ys r h hg hx' hy' (by omega) (by omega)
          | false =>
            injection h with h; subst h
            simp
/- Comparisons with nil, of structs; operators with one operand; least and greatest. -/
variable {P : Program} {Γ : Ctx} {w : World} {t : Nat} {ti : TI} {T : Tab} {base : Nat}
theorem someRow_sound {a : AV} {v : Value} (h : someRow a = true) (r : RelV Γ a v) : ∃ ad n c, v = .slice (some ad) n c := by
  unfold someRow at h
  split at h
  · cases r with
    | sl hin h1 hh => obtain ⟨ad, c, e⟩ := h1; exact ⟨_, _, _, e⟩
  · cases r with
    | vs hT => cases hT with
     | vs g hn hc hsz hA hmem hrel =>
      obtain ⟨ad, e⟩ := hA (by rw [hn]; simp)
      exact ⟨ad, _, _, by rw [e]⟩
  · cases h
theorem somePtr_sound {a : AV} {v : Value} (h : somePtr a = true) (r : RelV Γ a v) : ∃ ad, v = .pointer (some ad) := by
  unfold somePtr at h
  split at h
  · cases r with
    | hp hin h1 hh => exact h1
  · cases r with
    | rp g h1 hmem hrel => exact ⟨_, rfl⟩
  · cases h
theorem eqv_sound (ht : TIOk P t ti) {a b : AV} {v u : Value} {r : Bool} (h : eqv ti.kind a b = some r) (ra : RelV Γ a v) (rb : RelV Γ b u) (n : Nat) : (Op.equalIn (n + 1) t v u).run P w = .ok r w := by
  unfold eqv at h
  split at h
  · rename_i hk
    injection h with h; subst h
    cases ra; cases rb
    exact run_equalIn_bool' w n t _ _ (ht.bool hk)
  · rename_i hk
    injection h with h; subst h
    cases ra; cases rb
    obtain ⟨e, he⟩ := ht.ptr hk
    simp [Op.equalIn, run_underlying he]
  · rename_i hk _
    split at h
    · rename_i hs
      injection h with h; subst h
      obtain ⟨ad, rfl⟩ := somePtr_sound hs ra
      cases rb
      obtain ⟨e, he⟩ := ht.ptr hk
      simp [Op.equalIn, run_underlying he]
    · cases h
  · rename_i e hk
    injection h with h; subst h
    cases ra; cases rb
    simp [Op.equalIn, run_underlying (ht.slice hk)]
  · rename_i e hk _
    split at h
    · rename_i hs
      injection h with h; subst h
      obtain ⟨ad, m, c, rfl⟩ := someRow_sound hs ra
      cases rb
      simp [Op.equalIn, run_underlying (ht.slice hk)]
    · cases h
  · rename_i k e hk
    injection h with h; subst h
    cases ra; cases rb
    simp [Op.equalIn, run_underlying (ht.map hk)]
  · rename_i hk
    injection h with h; subst h
    cases ra; cases rb
    obtain ⟨_, _, _, he⟩ := ht.func hk
    simp [Op.equalIn, run_underlying he]
  · rename_i hk
    injection h with h; subst h
    cases ra; cases rb
    obtain ⟨_, _, _, he⟩ := ht.func hk
    simp [Op.equalIn, run_underlying he]
  · cases h
theorem eqStruct_sound (hT : TabOk P T) {eqs : List Nat} (hE : ∀ t, t ∈ eqs → EqOk P t) {xs ys : List AV} {vs us : Array Value} {r : Bool} (h : eqStruct T eqs t xs ys = some r) (hx : RelV Γ (.agg xs) (.agg vs)) (hy : RelV Γ (.agg ys) (.agg us)) :
    (Op.equalIn 10000 t (.agg vs) (.agg us)).run P w = .ok r w ∧ P.eqGuardType P.depth t = false := by
  unfold eqStruct at h
  split at h
  · rename_i hm
    have hok := hE t hm
    split at h
    · rename_i sz by_ zr fs hl
      have ht := hT t _ hl
      obtain ⟨gs, hg, hfs⟩ := ht.struct rfl
      have hgs : gs = P.fieldsOf t := by
        have := hok.st
        rw [hg] at this
        injection this with this; injection this
      subst hgs
      refine ⟨?_, hok.guard⟩
      rw [run_equalIn_agg w 9999 t vs us hok.st hok.held]
      cases hx with
      | agg hn h1 hrel =>
        cases hy with
        | agg hn' h1' hrel' =>
          refine eqAll_sound hT 9998 vs us _ 0 xs ys r (by rw [hfs]; exact h) (fun i f hf => ?_) (fun i x hx => by simpa using hrel i x hx) (fun i x hx => by simpa using hrel' i x hx) (by omega) (by omega)
          have := hok.flds i f (by simpa using hf)
          exact ⟨this.1, by omega⟩
    · cases h
  · cases h
def plainV : Value → Bool
  | .bool _ | .pointer _ | .slice .. | .map _ | .nilFunc | .func .. => true
  | _ => false
theorem eqv_form {k : TK} {a b : AV} {v : Value} {r : Bool} (h : eqv k a b = some r) (ra : RelV Γ a v) : plainV v = true := by
  have h1 : somePtr a = true → plainV v = true := fun hs => by obtain ⟨ad, rfl⟩ := somePtr_sound hs ra; rfl
  have h2 : someRow a = true → plainV v = true := fun hs => by obtain ⟨ad, m, c, rfl⟩ := someRow_sound hs ra; rfl
  unfold eqv at h
  split at h
  · cases ra; rfl
  · cases ra; rfl
  · exact h1 (Option.ite_none_right_eq_some.1 h).1
  · cases ra; rfl
  · exact h2 (Option.ite_none_right_eq_some.1 h).1
  · cases ra; rfl
  · cases ra; rfl
  · cases ra; rfl
  · cases h
theorem plain_eq {v : Value} (h : plainV v = true) (op : BinOp) (t : TypeId) (x y : Operand) (u : Value) : eqGuard op t x y v u = pure () ∧
    (Go.binOp .eql t v u) = (do pure (.bool (← Op.equal t v u))) ∧ (Go.binOp .neq t v u) = (do pure (.bool (!(← Op.equal t v u)))) := by
  cases v <;> first | (cases h; done) | skip
  all_goals refine ⟨by cases op <;> rfl, ?_⟩
  all_goals cases u <;> exact ⟨rfl, rfl⟩
theorem binop_sound (hT : TabOk P T) {eqs : List Nat} (hE : ∀ t, t ∈ eqs → EqOk P t) {op : BinOp} {x y r : AV} {v u : Value} (h : binop T eqs op t x y = some r) (rx : RelV Γ x v) (ry : RelV Γ y u) (X Y : Operand) :
    ∃ z, (do eqGuard op t X Y v u; Go.binOp op t v u : Sem Value).run P w = .ok z w ∧ RelV Γ r z := by
  unfold binop at h
  split at h
  · cases rx; cases ry
    rw [eqGuard_at_int]
    exact shift_sound h (k' := by assumption) (.inl rfl) t
  · cases rx; cases ry
    rw [eqGuard_at_int]
    exact shift_sound h (k' := by assumption) (.inr rfl) t
  · rename_i n1 n2
    split at h
    · rename_i e; subst e
      cases rx; cases ry
      rw [eqGuard_at_int]
      by_cases h1 : op = .shl
      · subst h1; exact (n1 rfl).elim
      · by_cases h2 : op = .shr
        · subst h2; exact (n2 rfl).elim
        · exact int_sound h h1 h2 t
    · cases h
  · cases rx; cases ry
    rw [eqGuard_at_string]
    exact str_sound h t
  · simp only [Option.map_eq_some_iff] at h
    obtain ⟨b, hb, rfl⟩ := h
    cases rx with
    | agg hn h1 hr =>
      cases ry with
      | agg hn' h1' hr' =>
        obtain ⟨e1, e2⟩ := eqStruct_sound (w := w) hT hE hb (.agg hn h1 hr) (.agg hn' h1' hr')
        refine ⟨.bool b, ?_, .bool _⟩
        simp only [Sem.run_bind, run_eqGuard_agg _ _ _ _ _ _ _ e2, Result.andThen_ok, run_eql_struct, e1]
  · simp only [Option.map_eq_some_iff] at h
    obtain ⟨b, hb, rfl⟩ := h
    cases rx with
    | agg hn h1 hr =>
      cases ry with
      | agg hn' h1' hr' =>
        obtain ⟨e1, e2⟩ := eqStruct_sound (w := w) hT hE hb (.agg hn h1 hr) (.agg hn' h1' hr')
        refine ⟨.bool (!b), ?_, .bool _⟩
        simp only [Sem.run_bind, run_eqGuard_agg _ _ _ _ _ _ _ e2, Result.andThen_ok, run_neq_struct, e1]
  · split at h
    · rename_i ti hl
      simp only [Option.map_eq_some_iff] at h
      obtain ⟨b, hb, rfl⟩ := h
      obtain ⟨e1, e2, e3⟩ := plain_eq (eqv_form hb rx) .eql t X Y u
      have e4 := eqv_sound (w := w) (hT t ti hl) hb rx ry 9999
      refine ⟨.bool b, ?_, .bool _⟩
      rw [e1, e2]
      simp only [Sem.run_bind, Sem.run_pure, Result.andThen_ok]
      have e5 : (Op.equal t v u).run P w = .ok b w := e4
      rw [e5]; rfl
    · cases h
  · split at h
    · rename_i ti hl
      simp only [Option.map_eq_some_iff] at h
      obtain ⟨b, hb, rfl⟩ := h
      obtain ⟨e1, e2, e3⟩ := plain_eq (eqv_form hb rx) .neq t X Y u
      have e4 := eqv_sound (w := w) (hT t ti hl) hb rx ry 9999
      refine ⟨.bool (!b), ?_, .bool _⟩
      rw [e1, e3]
      simp only [Sem.run_bind, Sem.run_pure, Result.andThen_ok]
      have e5 : (Op.equal t v u).run P w = .ok b w := e4
      rw [e5]; rfl
    · cases h
  · cases h
theorem unop_sound {op : UnOp} {x r : AV} {v : Value} (h : unop op x = some r) (rx : RelV Γ x v) : ∃ z, (Op.unary op v).run P w = .ok z w ∧ RelV Γ r z := by
  unfold unop at h
  split at h
  · injection h with h; subst h
    cases rx
    exact ⟨_, rfl, .int _ _⟩
  · injection h with h; subst h
    cases rx
    exact ⟨_, rfl, .bool _⟩
  · rename_i k n
    simp only [bitsOf, Option.map_some, Option.some.injEq] at h
    subst h
    cases rx
    exact ⟨_, rfl, .int _ _⟩
  · cases h
theorem minmax_sound (lt : Int → Int → Bool) (f : Value → Value → Sem Value) (hf : ∀ (k k' : IntKind) (a b : Int) (w : World), (f (.int k a) (.int k' b)).run P w = .ok (.int k (if lt b a then b else a)) w) :
    ∀ (xs : List AV) (x r : AV) (v : Value) (vs : List Value), minmax lt x xs = some r → RelV Γ x v → RelVs Γ xs vs → ∃ z, (vs.foldlM f v).run P w = .ok z w ∧ RelV Γ r z
  | [], x, r, v, vs, h, rx, rv => by
    cases rv
    simp only [minmax] at h
    injection h with h; subst h
    exact ⟨v, rfl, rx⟩
  | y :: xs, x, r, v, vs, h, rx, rv => by
    cases rv with
    | cons hy ht =>
      unfold minmax at h
      split at h
      · rename_i e; cases e
      · rename_i k a k' b l e
        injection e with e1 e2
        subst e1 e2
        split at h
        · rename_i e; subst e
          cases rx; cases hy
          obtain ⟨z, hz, hr⟩ := minmax_sound lt f hf _ _ r (.int k (if lt b a then b else a)) _ h (.int _ _) ht
          refine ⟨z, ?_, hr⟩
          rw [List.foldlM_cons]
          simp only [Sem.run_bind, hf, Result.andThen_ok]
          exact hz
        · cases h
      · cases h
/- Values built out of parts. -/
variable {P : Program} {Γ : Ctx} {w : World} {t : Nat} {ti : TI} {T : Tab} {base : Nat}
/-- Cells, one by one. -/
def RelC (Γ : Ctx) (xs : List AV) (cs : Array Value) : Prop :=
  cs.size = xs.length ∧ (∀ x, x ∈ xs → oneCell x = true) ∧ ∀ (i : Nat) (x : AV), xs[i]? = some x → RelV Γ x (cs.getD i undef)
theorem RelC.agg {xs : List AV} {cs : Array Value} (h : RelC Γ xs cs) : RelV Γ (.agg xs) (.agg cs) := .agg h.1 h.2.1 h.2.2
theorem RelC.of_zero {cs : Array Value} {xs : List AV} (h : cs.toList.mapM simpleV = some xs) : RelC Γ xs cs := by
  obtain ⟨h3, h4, _, h6⟩ := mapM_simple (Γ := Γ) h
  refine ⟨by simpa using h3.symm, h4, fun i x hx => ?_⟩
  obtain ⟨v, hv, hr⟩ := h6 i x hx
  have : cs.getD i undef = v := by rw [Array.getD_eq_getD_getElem?, ← Array.getElem?_toList, hv]; rfl
  rw [this]; exact hr
theorem foldl_set (off : Nat) : ∀ (l : List Value) (k : Nat) (cs : Array Value), off + k + l.length ≤ cs.size →
    ((l.zipIdx k).foldl (fun cs (c, j) => cs.setIfInBounds (off + j) c) cs).toList = cs.toList.take (off + k) ++ l ++ cs.toList.drop (off + k + l.length)
  | [], k, cs, h => by simp
  | v :: l, k, cs, h => by
    simp only [List.zipIdx_cons, List.foldl_cons]
    simp only [List.length_cons] at h
    rw [foldl_set off l (k + 1) _ (by simp; omega)]
    have hlt : off + k < cs.toList.length := by simp; omega
    rw [Array.toList_setIfInBounds]
    have e1 : (cs.toList.set (off + k) v).take (off + (k + 1)) = cs.toList.take (off + k) ++ [v] := by
      rw [show off + (k + 1) = off + k + 1 by omega, List.take_set, List.take_add_one, List.getElem?_eq_getElem hlt]
      rw [List.set_append_right _ _ (by simp; omega)]
      have e0 : off + k - (List.take (off + k) cs.toList).length = 0 := by
        rw [List.length_take, Nat.min_eq_left (Nat.le_of_lt hlt)]; omega
      rw [e0]; rfl
    have e2 : (cs.toList.set (off + k) v).drop (off + (k + 1) + l.length) = cs.toList.drop (off + k + (v :: l).length) := by
      rw [List.drop_set_of_lt (by omega)]
      congr 1; simp; omega
    rw [e1, e2]
    simp
theorem fill_sound {placeA place : Nat → Option (Nat × Nat)} (hp : ∀ i p, placeA i = some p → place i = some p) : ∀ (l : List (Nat × AV)) (m : List (Nat × Value)) (xs ys : List AV) (cs : Array Value),
    fillA xs placeA l = some ys → l.map (·.1) = m.map (·.1) → RelVs Γ (l.map (·.2)) (m.map (·.2)) → RelC Γ xs cs → ∃ ds, Instr.fill place cs m = some ds ∧ RelC Γ ys ds
  | [], [], xs, ys, cs, h, _, _, hc => by
    injection h with h; subst h
    exact ⟨cs, rfl, hc⟩
  | [], _ :: _, _, _, _, _, h, _, _ => by simp at h
  | _ :: _, [], _, _, _, _, h, _, _ => by simp at h
  | (i, v) :: l, (j, x) :: m, xs, ys, cs, h, he, hr, hc => by
    simp only [List.map_cons, List.cons.injEq] at he
    obtain ⟨rfl, he⟩ := he
    cases hr with
    | cons hv hr =>
      simp only [fillA] at h
      split at h
      · rename_i off sz hpl
        split at h
        · rename_i zs hz
          split at h
          · rename_i hle
            obtain ⟨c1, c2, c3⟩ := cells_rel hv hz
            have hlt : off + zs.length ≤ xs.length := by omega
            simp only [Instr.fill, hp _ _ hpl]
            have hn : ¬ ((x.cells.size ≠ sz || off + x.cells.size > cs.size) = true) := by
              have h5 := hc.1; simp only [c1]; simp; omega
            rw [if_neg hn]
            have hl : x.cells.toList.length = zs.length := by simpa using c1
            have e : (x.cells.zipIdx.foldl (fun cs (c, j) => cs.setIfInBounds (off + j) c) cs) = (cs.toList.take off ++ x.cells.toList ++ cs.toList.drop (off + zs.length)).toArray := by
              apply Array.ext'
              rw [← Array.foldl_toList, Array.toList_zipIdx, foldl_set off x.cells.toList 0 cs (by have := hc.1; omega)]
              simp [hl]
            rw [e]
            refine fill_sound hp l m _ ys _ h he hr ⟨?_, fun y hy => ?_, fun i y hy => ?_⟩
            · rw [setCells_length _ _ _ hlt]; have := hc.1; simp [c1]; omega
            · rcases setCells_mem hy with hy | hy
              · exact hc.2.1 y hy
              · exact c2 y hy
            · exact splice_rel hv hz hlt (by have := hc.1; omega) hc.2.2 i y hy
          · cases h
        · cases h
      · cases h
theorem fillA_length {place : Nat → Option (Nat × Nat)} : ∀ {l : List (Nat × AV)} {xs ys : List AV}, fillA xs place l = some ys → ys.length = xs.length
  | [], xs, ys, h => by injection h with h; subst h; rfl
  | (i, v) :: l, xs, ys, h => by
    simp only [fillA] at h
    split at h
    · split at h
      · split at h
        · rename_i hle
          rw [fillA_length h, setCells_length _ _ _ (by omega)]
        · cases h
      · cases h
    · cases h
theorem replicate_get {α : Type} (l : List α) (hl : 0 < l.length) : ∀ (n i : Nat), i < n * l.length → ((List.replicate n l).flatten)[i]? = l[i % l.length]?
  | 0, i, h => by omega
  | n + 1, i, h => by
    rw [List.replicate_succ, List.flatten_cons]
    rw [Nat.succ_mul] at h
    rcases Nat.lt_or_ge i l.length with h1 | h1
    · rw [List.getElem?_append_left h1, Nat.mod_eq_of_lt h1]
    · rw [List.getElem?_append_right h1, replicate_get l hl n (i - l.length) (by omega)]
      rw [Nat.mod_eq_sub_mod h1]
theorem RelC.rep {xs : List AV} {cs : Array Value} (h : RelC Γ xs cs) (h0 : 0 < xs.length) (n : Nat) : RelC Γ (List.replicate n xs).flatten ((Array.range (n * xs.length)).map (cs[· % cs.size]!)) := by
  refine ⟨by simp, fun x hx => ?_, fun i x hx => ?_⟩
  · obtain ⟨l, hl, hx⟩ := List.mem_flatten.1 hx
    rw [(List.mem_replicate.1 hl).2] at hx
    exact h.2.1 x hx
  · have hi : i < n * xs.length := by
      rcases Nat.lt_or_ge i (n * xs.length) with h' | h'
      · exact h'
      · rw [List.getElem?_eq_none (by simpa using h')] at hx; cases hx
    rw [replicate_get xs h0 n i hi] at hx
    have := h.2.2 _ x hx
    have hs := h.1
    have hm : i % cs.size < cs.size := Nat.mod_lt _ (by omega)
    have e : (Array.map (fun x => cs[x % cs.size]!) (Array.range (n * xs.length))).getD i undef = cs.getD (i % xs.length) undef := by
      rw [Array.getD_eq_getD_getElem?, Array.getElem?_map, Array.getElem?_range, if_pos hi]
      rw [← hs]
      simp [Array.getD_eq_getD_getElem?, hm]
    rw [e]; exact this
/- Operations that change no memory. -/
variable {P : Program} {C : Cfg} {Γ : Ctx} {t : Nat} {ti : TI} {base n0 f : Nat} {β : Nat → Nat} {s s' : St} {a : Act} {o : Oper} {K : Callee}
/-- An operation that yields a value and changes nothing. -/
def PureOk (P : Program) (Γ : Ctx) (β : Nat → Nat) (s : St) (a : Act) (o : Oper) (s' : St) : Prop :=
  ∃ x v, (execOp a.eval o).run P Γ.w = .ok (.value v) Γ.w ∧ RelX Γ β x v ∧ s' = s.put o.dst x
theorem add_zero' (b off : Nat) : (⟨b, 0, none⟩ : Addr).add off = ⟨b, off, none⟩ := by
  unfold Addr.add
  by_cases h : off = 0 <;> simp [h]
theorem add_off (b o n : Nat) : (⟨b, o, none⟩ : Addr).add n = ⟨b, o + n, none⟩ := by
  unfold Addr.add
  by_cases h : n = 0 <;> simp [h]
theorem add_nil (a : Addr) : a.add 0 = a := by unfold Addr.add; simp
theorem cell_at {w : World} {b j : Nat} {arr : Array Value} {T : TypeId} {fr : Nat × Nat} (h : w.heap[b]? = some (.cells arr T fr)) (hj : j < arr.size) : w.cell? ((⟨b, 0, none⟩ : Addr).add j) = some (arr.getD j undef) := by
  rw [add_zero']
  unfold World.cell?
  simp only [h]
  simp [Array.getD_eq_getD_getElem?, hj]
theorem RelS.locCells (R : RelS base n0 Γ β s a) {d : Nat} {xs : List AV} (h : look s.loc d = some xs) : ∃ g : Nat → Value, (∀ x, x ∈ xs → oneCell x = true) ∧ ∀ (j : Nat) (x : AV), xs[j]? = some x → Γ.w.cell? ((⟨β d, 0, none⟩ : Addr).add j) = some (g j) ∧ RelV Γ x (g j) := by
  obtain ⟨arr, T, h1, h2, h3, h4, _⟩ := R.loc d xs h
  refine ⟨fun j => arr.getD j undef, h3, fun j x hj => ⟨cell_at h1 ?_, h4 j x hj⟩⟩
  rcases Nat.lt_or_ge j xs.length with h' | h'
  · omega
  · rw [List.getElem?_eq_none h'] at hj; cases hj
theorem Inv.objCells (I : Inv base Γ) {id b T : Nat} {xs : List AV} (hb : Γ.ρ id = some b) (h : Γ.H[id]? = some (.cells T xs)) : ∃ g : Nat → Value, (∀ x, x ∈ xs → oneCell x = true) ∧ ∀ (j : Nat) (x : AV), xs[j]? = some x → Γ.w.cell? ((⟨b, 0, none⟩ : Addr).add j) = some (g j) ∧ RelV Γ x (g j) := by
  obtain ⟨arr, h1, h2, h3, h4⟩ := I.cells id b T xs hb h
  refine ⟨fun j => arr.getD j undef, h3, fun j x hj => ⟨cell_at h1 ?_, h4 j x hj⟩⟩
  rcases Nat.lt_or_ge j xs.length with h' | h'
  · omega
  · rw [List.getElem?_eq_none h'] at hj; cases hj
theorem hp_ptr {id n off : Nat} {v : Value} (h : RelV Γ (.hp id n off) v) {T : Nat} {xs : List AV} (hx : Γ.H[id]? = some (.cells T xs)) (hn : n = xs.length) : ∃ b, Γ.ρ id = some b ∧ v = .pointer (some ⟨b, off, none⟩) := by
  cases h with
  | hp hin h1 hh => exact (hh T xs hx).2 hn
theorem sl_slice {id sz off len : Nat} {v : Value} (h : RelV Γ (.sl id sz off len) v) {T : Nat} {xs : List AV} (hx : Γ.H[id]? = some (.cells T xs)) (hn : off + len * sz = xs.length) :
    ∃ (b c : Nat) (arr : Array Value) (T' : TypeId) (fr : Nat × Nat), Γ.ρ id = some b ∧ v = .slice (some ⟨b, off, none⟩) len c ∧ len ≤ c ∧ Γ.w.heap[b]? = some (.cells arr T' fr) ∧ off + c * sz ≤ arr.size := by
  cases h with
  | sl hin h1 hh => exact (hh T xs hx).2 hn
theorem put_of_map {x : Option Slot} (h : x.map (s.put o.dst) = some s') : ∃ y, x = some y ∧ s' = s.put o.dst y := by
  cases x with
  | none => cases h
  | some y => injection h with h; exact ⟨y, rfl, h.symm⟩
theorem putv_of_map {x : Option AV} (h : x.map (s.putv o.dst) = some s') : ∃ y, x = some y ∧ s' = s.put o.dst (.v y) := by
  cases x with
  | none => cases h
  | some y => injection h with h; exact ⟨y, rfl, h.symm⟩
theorem pure_move (R : RelS base n0 Γ β s a) {x : Operand} (ho : o.op = .move x ∨ o.op = .assign x) (h : oper C K f o s = some s') : PureOk P Γ β s a o s' := by
  have h' : (s.slot x).map (s.put o.dst) = some s' := by
    unfold oper at h
    rcases ho with ho | ho <;> (rw [ho] at h; exact h)
  obtain ⟨y, hy, e⟩ := put_of_map h'
  refine ⟨y, a.eval x, ?_, R.slot hy, e⟩
  unfold execOp
  rcases ho with ho | ho <;> rw [ho] <;> rfl
theorem pure_pick (R : RelS base n0 Γ β s a) {c x y : Operand} (ho : o.op = .pick c x y) (h : oper C K f o s = some s') : PureOk P Γ β s a o s' := by
  unfold oper at h
  rw [ho] at h
  dsimp only at h
  split at h
  · rename_i hc
    obtain ⟨z, hz, e⟩ := put_of_map h
    refine ⟨z, a.eval x, ?_, R.slot hz, e⟩
    have := R.val hc
    cases hv : a.eval c <;> rw [hv] at this <;> cases this
    unfold execOp
    rw [ho]
    simp [hv, asBool]
  · rename_i hc
    obtain ⟨z, hz, e⟩ := put_of_map h
    refine ⟨z, a.eval y, ?_, R.slot hz, e⟩
    have := R.val hc
    cases hv : a.eval c <;> rw [hv] at this <;> cases this
    unfold execOp
    rw [ho]
    simp [hv, asBool]
  · cases h
theorem pure_load (hT : TabOk P C.tab) (R : RelS base n0 Γ β s a) {t : TypeId} {x : Operand} (ho : o.op = .load t x) (h : oper C K f o s = some s') : PureOk P Γ β s a o s' := by
  unfold oper at h
  rw [ho] at h
  dsimp only at h
  have key : ∀ (ad : Addr) (v : Value) (r : AV), a.eval x = .pointer (some ad) → (loadVar t ad).run P Γ.w = .ok v Γ.w → RelV Γ r v → s' = s.put o.dst (.v r) → PureOk P Γ β s a o s' := by
    intro ad v r hx hv hr e
    refine ⟨.v r, v, ?_, hr, e⟩
    unfold execOp
    rw [ho]
    simp [hx, Instr.loadAt, Instr.sureAddr, hv]
  split at h
  · rename_i ti d off ht hx
    split at h
    · rename_i xs hl
      obtain ⟨r, hr, e⟩ := putv_of_map h
      obtain ⟨g, h1, h2⟩ := R.locCells hl
      obtain ⟨v, hv, hrel⟩ := load_sound (hT t ti ht) _ g h1 h2 off hr
      rw [add_zero'] at hv
      exact key _ v r (R.slot hx) hv hrel e
    · cases h
  · rename_i ti id n off ht hx
    split at h
    · rename_i T xs hH
      split at h
      · rename_i hn
        obtain ⟨r, hr, e⟩ := putv_of_map h
        have hH' : Γ.H[id]? = some (.cells T xs) := by rw [R.heap]; exact hH
        obtain ⟨b, hb, hv⟩ := hp_ptr (R.slot hx) hH' hn
        obtain ⟨g, h1, h2⟩ := R.inv.objCells hb hH'
        obtain ⟨v, hv', hrel⟩ := load_sound (hT t ti ht) _ g h1 h2 off hr
        rw [add_zero'] at hv'
        exact key _ v r hv hv' hrel e
      · cases h
    · cases h
  · rename_i ti xs ht hx
    obtain ⟨r, hr, e⟩ := putv_of_map h
    have hr' : RelV Γ (.rp xs) (a.eval x) := R.slot hx
    generalize hv : a.eval x = u at hr'
    cases hr' with
    | rp g h1 hmem hrel =>
      rename_i ad
      have h2 : ∀ (j : Nat) (x : AV), xs[j]? = some x → Γ.w.cell? (ad.add j) = some (g j) ∧ RelV Γ x (g j) := fun j x hj => by
        refine ⟨(hmem j ?_).1, (hrel j x hj).toV⟩
        rcases Nat.lt_or_ge j xs.length with h' | h'
        · exact h'
        · rw [List.getElem?_eq_none h'] at hj; cases hj
      obtain ⟨v, hv', hrel'⟩ := load_sound (hT t ti ht) ad g h1 h2 0 hr
      rw [add_nil] at hv'
      exact key _ v r hv hv' hrel' e
  · cases h
theorem pure_nilCheck (R : RelS base n0 Γ β s a) {x : Operand} (ho : o.op = .nilCheck x) (h : oper C K f o s = some s') : PureOk P Γ β s a o s' := by
  unfold oper at h
  rw [ho] at h
  dsimp only at h
  have key : ∀ (ad : Addr) (y : Slot), a.eval x = .pointer (some ad) → RelX Γ β y (a.eval x) → s' = s.put o.dst y → PureOk P Γ β s a o s' := by
    intro ad y hx hr e
    refine ⟨y, a.eval x, ?_, hr, e⟩
    unfold execOp
    rw [ho]
    simp [hx]
  split at h
  · rename_i d off hx
    injection h with h
    exact key _ _ (R.slot hx) (R.slot hx) h.symm
  · rename_i id n off hx
    injection h with h
    obtain ⟨ad, hv⟩ := somePtr_sound (a := .hp id n off) rfl (R.slot hx)
    exact key _ _ hv (R.slot hx) h.symm
  · rename_i xs hx
    injection h with h
    have hr' : RelV Γ (.rp xs) (a.eval x) := R.slot hx
    have h3 : ∃ ad, a.eval x = .pointer (some ad) := by
      generalize a.eval x = u at hr'
      cases hr'; exact ⟨_, rfl⟩
    obtain ⟨ad, hv⟩ := h3
    exact key _ _ hv (R.slot hx) h.symm
  · cases h
/- Objects that nobody writes any more: the values that lead to them become values that bear what they hold. -/
variable {base : Nat} {Γ : Ctx} {S : Nat → Prop} {w : World}
theorem chunks_len (sz : Nat) : ∀ (n : Nat) (xs : List AV), (chunks sz n xs).length = n
  | 0, _ => rfl
  | n + 1, xs => by simp [chunks, chunks_len sz n]
theorem chunks_get (sz : Nat) : ∀ (n : Nat) (xs : List AV) (i : Nat) (r : List AV), (chunks sz n xs)[i]? = some r → i < n ∧ r = (xs.drop (i * sz)).take sz
  | 0, xs, i, r, h => by simp [chunks] at h
  | n + 1, xs, 0, r, h => by simp [chunks] at h; subst h; simp
  | n + 1, xs, i + 1, r, h => by
    simp only [chunks, List.getElem?_cons_succ] at h
    obtain ⟨h1, h2⟩ := chunks_get sz n _ i r h
    refine ⟨by omega, ?_⟩
    rw [h2, List.drop_drop, Nat.succ_mul, Nat.add_comm sz]
theorem all_static {xs : List AV} (h : xs.all static = true) {x : AV} (hx : x ∈ xs) : static x = true := List.all_eq_true.1 h x hx
/-- A row of a block that stays. -/
theorem relT_chunks {b T off len sz c : Nat} {fr : Nat × Nat} {arr : Array Value} {xs : List AV} (hw : w.heap[b]? = some (.cells arr T fr)) (hS : S b) (hsz : xs.length ≤ arr.size) (h1 : ∀ x, x ∈ xs → oneCell x = true)
    (hr : ∀ (i : Nat) (x : AV), xs[i]? = some x → RelT S w x (arr.getD i undef)) (hl : off + len * sz = xs.length) (hc : len ≤ c) :
    RelT S w (.vs sz (chunks sz len (xs.drop off))) (.slice (some ⟨b, off, none⟩) len c) := by
  have hlen : ∀ i r, (chunks sz len (xs.drop off))[i]? = some r → r.length = sz ∧ i < len ∧ ∀ j x, r[j]? = some x → j < sz ∧ xs[off + (i * sz + j)]? = some x := fun i r hi => by
    obtain ⟨q1, q2⟩ := chunks_get _ _ _ _ _ hi
    have hle : i * sz + sz ≤ len * sz := by rw [← Nat.succ_mul]; exact Nat.mul_le_mul_right _ q1
    refine ⟨by rw [q2]; simp; omega, q1, fun j x hj => ?_⟩
    have hjl : j < sz := by
      rcases Nat.lt_or_ge j sz with h' | h'
      · exact h'
      · rw [q2, List.getElem?_take_eq_none h'] at hj; cases hj
    rw [q2, List.getElem?_take_of_lt hjl, List.drop_drop, List.getElem?_drop] at hj
    exact ⟨hjl, by rw [← hj]; congr 1; omega⟩
  refine .vs (fun i j => arr.getD (off + (i * sz + j)) undef) (by rw [chunks_len]) hc (fun r hr' => ?_) (fun _ => ⟨_, rfl⟩) (fun ad had i j hi hj => ?_) (fun i j r x hi hj => ?_)
  · obtain ⟨i, hi⟩ := List.mem_iff_getElem?.1 hr'
    obtain ⟨q1, _, q3⟩ := hlen i r hi
    refine ⟨q1, fun x hx => ?_⟩
    obtain ⟨j, hj⟩ := List.mem_iff_getElem?.1 hx
    exact h1 x (List.mem_of_getElem? (q3 j x hj).2)
  · injection had with had; subst had
    rw [add_off]
    have hle : i * sz + sz ≤ len * sz := by rw [← Nat.succ_mul]; exact Nat.mul_le_mul_right _ hi
    have := cell_at (w := w) (j := off + (i * sz + j)) hw (by omega)
    rw [add_zero'] at this
    exact ⟨this, hS⟩
  · exact hr _ x ((hlen i r hi).2.2 j x hj).2
/-- The context behind a call whose own objects are frozen. -/
def Ctx.frz (Γ Γ1 : Ctx) : Ctx := { H := Γ.H, ρ := Γ.ρ, S := fun b => Γ1.S b ∨ ∃ id, Γ.H.length ≤ id ∧ Γ1.ρ id = some b, w := Γ1.w }
variable {Γ1 : Ctx}
theorem frz0_sound (I1 : Inv base Γ1) {a a' : AV} {v : Value} (h : frz0 Γ1.H Γ.H.length a = some a') (hr : RelV Γ1 a v) : RelT (Γ.frz Γ1).S (Γ.frz Γ1).w a' v := by
  unfold frz0 at h
  split at h
  · rename_i id sz off len
    split at h
    · rename_i T xs hx
      split at h
      · rename_i hc
        injection h with h; subst h
        obtain ⟨c1, c2, c3⟩ := hc
        obtain ⟨b, c, arr, T', fr, hb, hv, hle, hh, hsz⟩ := sl_slice hr hx c2
        obtain ⟨arr2, k1, k2, k3, k4⟩ := I1.cells id b T xs hb hx
        rw [k1] at hh
        injection hh with hh; injection hh with e1 _ _; subst e1
        subst hv
        exact relT_chunks k1 (.inr ⟨id, c1, hb⟩) k2 k3 (fun i x hi => ((k4 i x hi).toT (all_static c3 (List.mem_of_getElem? hi))).mono fun b hs => ⟨.inl hs, rfl⟩) c2 hle
      · cases h
    · cases h
  · split at h
    · rename_i hs
      injection h with h; subst h
      exact (hr.toT hs).mono fun b hs => ⟨.inl hs, rfl⟩
    · cases h
theorem frz0_one {h : Heap} {lo : Nat} {a b : AV} (hf : frz0 h lo a = some b) : oneCell b = true := by
  unfold frz0 at hf
  split at hf
  · split at hf
    · split at hf
      · injection hf with hf; subst hf; rfl
      · cases hf
    · cases hf
  · split at hf
    · rename_i hs
      injection hf with hf; subst hf
      cases a <;> first | rfl | (cases hs; done)
    · cases hf
theorem frzL0_sound (I1 : Inv base Γ1) : ∀ {xs ys : List AV}, frzL0 Γ1.H Γ.H.length xs = some ys → ys.length = xs.length ∧ ∀ (i : Nat) (y : AV), ys[i]? = some y → ∃ x, xs[i]? = some x ∧ frz0 Γ1.H Γ.H.length x = some y
  | [], ys, h => by injection h with h; subst h; simp
  | a :: l, ys, h => by
    simp only [frzL0] at h
    split at h
    · rename_i b hb
      split at h
      · rename_i m hm
        injection h with h; subst h
        obtain ⟨h1, h2⟩ := frzL0_sound I1 hm
        refine ⟨by simp [h1], fun i y hi => ?_⟩
        cases i with
        | zero => simp at hi; subst hi; exact ⟨a, rfl, hb⟩
        | succ i => simp at hi; simpa using h2 i y hi
      · cases h
    · cases h
theorem frz1_sound (I1 : Inv base Γ1) {a a' : AV} {v : Value} (h : frz1 Γ1.H Γ.H.length a = some a') (hr : RelV Γ1 a v) : RelT (Γ.frz Γ1).S (Γ.frz Γ1).w a' v := by
  unfold frz1 at h
  split at h
  · rename_i id sz off len
    split at h
    · rename_i T xs hx
      split at h
      · rename_i hc
        refine frz0_sound I1 (a := .sl id sz off len) ?_ hr
        unfold frz0
        dsimp only
        rw [hx]
        dsimp only
        rw [if_pos hc]
        exact h
      · split at h
        · rename_i ys hy
          split at h
          · rename_i hc
            injection h with h; subst h
            obtain ⟨c1, c2⟩ := hc
            obtain ⟨l1, l2⟩ := frzL0_sound I1 hy
            obtain ⟨b, c, arr, T', fr, hb, hv, hle, hh, hsz⟩ := sl_slice hr hx c2
            obtain ⟨arr2, k1, k2, k3, k4⟩ := I1.cells id b T xs hb hx
            rw [k1] at hh
            injection hh with hh; injection hh with e1 _ _; subst e1
            subst hv
            refine relT_chunks k1 (.inr ⟨id, c1, hb⟩) (by rw [l1]; exact k2) (fun y hy' => ?_) (fun i y hi => ?_) (by rw [l1]; exact c2) hle
            · obtain ⟨i, hi⟩ := List.mem_iff_getElem?.1 hy'
              obtain ⟨x, _, q⟩ := l2 i y hi
              exact frz0_one q
            · obtain ⟨x, q1, q2⟩ := l2 i y hi
              exact frz0_sound I1 q2 (k4 i x q1)
          · cases h
        · cases h
    · cases h
  · split at h
    · rename_i hs
      injection h with h; subst h
      exact (hr.toT hs).mono fun b hs => ⟨.inl hs, rfl⟩
    · cases h
theorem frzL_sound (I1 : Inv base Γ1) : ∀ {xs ys : List AV}, frzL Γ1.H Γ.H.length xs = some ys → ys.length = xs.length ∧ ∀ (i : Nat) (y : AV), ys[i]? = some y → ∃ x, xs[i]? = some x ∧ frz1 Γ1.H Γ.H.length x = some y
  | [], ys, h => by injection h with h; subst h; simp
  | a :: l, ys, h => by
    simp only [frzL] at h
    split at h
    · rename_i b hb
      split at h
      · rename_i m hm
        injection h with h; subst h
        obtain ⟨h1, h2⟩ := frzL_sound I1 hm
        refine ⟨by simp [h1], fun i y hi => ?_⟩
        cases i with
        | zero => simp at hi; subst hi; exact ⟨a, rfl, hb⟩
        | succ i => simp at hi; simpa using h2 i y hi
      · cases h
    · cases h
theorem frz1_one {h : Heap} {lo : Nat} {a b : AV} (hf : frz1 h lo a = some b) : oneCell b = true := by
  unfold frz1 at hf
  split at hf
  · split at hf
    · split at hf
      · injection hf with hf; subst hf; rfl
      · split at hf
        · split at hf
          · injection hf with hf; subst hf; rfl
          · cases hf
        · cases hf
    · cases hf
  · split at hf
    · rename_i hs
      injection hf with hf; subst hf
      cases a <;> first | rfl | (cases hs; done)
    · cases hf
theorem frz2_sound (I1 : Inv base Γ1) {a a' : AV} {v : Value} (h : frz2 Γ1.H Γ.H.length a = some a') (hr : RelV Γ1 a v) : RelV (Γ.frz Γ1) a' v := by
  unfold frz2 at h
  split at h
  · rename_i xs
    split at h
    · rename_i ys hy
      injection h with h; subst h
      obtain ⟨h1, h2⟩ := frzL_sound I1 hy
      cases hr with
      | agg hn ho hrel =>
        refine .agg (by rw [h1]; exact hn) (fun y hy => ?_) (fun i y hi => ?_)
        · obtain ⟨i, hi⟩ := List.mem_iff_getElem?.1 hy
          obtain ⟨x, _, q⟩ := h2 i y hi
          exact frz1_one q
        · obtain ⟨x, q1, q2⟩ := h2 i y hi
          exact (frz1_sound I1 q2 (hrel i x q1)).toV
    · cases h
  · exact (frz1_sound I1 h hr).toV
theorem frzM_sound (I1 : Inv base Γ1) : ∀ {xs ys : List AV}, frzM Γ1.H Γ.H.length xs = some ys → ys.length = xs.length ∧ ∀ (i : Nat) (y : AV), ys[i]? = some y → ∃ x, xs[i]? = some x ∧ frz2 Γ1.H Γ.H.length x = some y
  | [], ys, h => by injection h with h; subst h; simp
  | a :: l, ys, h => by
    simp only [frzM] at h
    split at h
    · rename_i b hb
      split at h
      · rename_i m hm
        injection h with h; subst h
        obtain ⟨h1, h2⟩ := frzM_sound I1 hm
        refine ⟨by simp [h1], fun i y hi => ?_⟩
        cases i with
        | zero => simp at hi; subst hi; exact ⟨a, rfl, hb⟩
        | succ i => simp at hi; simpa using h2 i y hi
      · cases h
    · cases h
theorem frz_sound (I1 : Inv base Γ1) {a a' : AV} {v : Value} (h : frz Γ1.H Γ.H.length a = some a') (hr : RelV Γ1 a v) : RelV (Γ.frz Γ1) a' v := by
  unfold frz at h
  split at h
  · rename_i xs
    split at h
    · rename_i ys hy
      injection h with h; subst h
      obtain ⟨h1, h2⟩ := frzM_sound I1 hy
      cases hr with
      | tup hn hrel =>
        refine .tup (by rw [h1]; exact hn) (fun i y hi => ?_)
        obtain ⟨x, q1, q2⟩ := h2 i y hi
        exact frz2_sound I1 q2 (hrel i x q1)
    · cases h
  · exact frz2_sound I1 h hr
/-- Behind a call that could not write what there was, whose own objects are frozen. -/
theorem frz_ext {lo : Nat} (I : Inv base Γ) (I1 : Inv base Γ1) (h : Ext Γ.H.length (fun _ => False) Γ Γ1) : Ext lo (fun _ => False) Γ (Γ.frz Γ1) where
  len := Nat.le_refl _
  cells _ _ xs' _ h := ⟨xs', h, .inr ⟨rfl, rfl⟩⟩
  map _ es' _ h := ⟨es', h, rfl⟩
  loop _ r' _ h := ⟨r', h, rfl⟩
  absent _ _ h := h
  barrier id _ hid := ⟨rfl, rfl, (h.barrier id hid hid).2.2⟩
  sizes := h.sizes
  keep := h.keep
  fresh id b h := .inl ⟨id, h⟩
  stab b hb := .inl (h.stab b hb)
  stabN b hb := by
    rcases hb with hb | ⟨id, _, hb⟩
    · exact h.stabN b hb
    · rcases h.fresh id b hb with ⟨id0, e⟩ | e
      · exact .inr (.inl ⟨id0, e⟩)
      · exact .inr (.inr e)
  size := h.size
  os := h.os
  tape := h.tape
  output := h.output
theorem frz_inv (I : Inv base Γ) (I1 : Inv base Γ1) (h : Ext Γ.H.length (fun _ => False) Γ Γ1) : Inv base (Γ.frz Γ1) := by
  have hx := frz_ext (lo := Γ.H.length) I I1 h
  have hρ : ∀ id b, Γ.ρ id = some b → Γ1.ρ id = some b := fun id b e => (h.barrier id (I.dom id b e).1 (I.dom id b e).1).2.1.trans e
  have hB : ∀ b, Γ.S b → ¬ (fun _ : Nat => False) b := fun _ _ h => h
  refine ⟨fun id b e => ?_, I.inj, fun id b T xs e hh => ?_, fun id b es e hh => ?_, fun id b r e hh => ?_, fun b hb => ?_⟩
  · obtain ⟨q1, q2, q3, q4⟩ := I.dom id b e
    refine ⟨q1, Nat.lt_of_lt_of_le q2 h.size, q3, fun hs => ?_⟩
    rcases hs with hs | ⟨id', q5, q6⟩
    · exact (I1.dom id b (hρ id b e)).2.2.2 hs
    · have := I1.inj id id' b (hρ id b e) q6
      omega
  · obtain ⟨arr, k1, k2, k3, k4⟩ := I.cells id b T xs e hh
    have hd := I.dom id b e
    exact ⟨arr, ((h.barrier id hd.1 hd.1).2.2 b e hd.2.1).trans k1, k2, k3, fun i x hi => (k4 i x hi).ext hx I hB⟩
  · obtain ⟨ms, cl, k1, k2, k3, k4⟩ := I.map id b es e hh
    have hd := I.dom id b e
    refine ⟨ms, cl, ((h.barrier id hd.1 hd.1).2.2 b e hd.2.1).trans k1, k2, fun i x hi => ?_, k4⟩
    obtain ⟨m, q1, q2, q3⟩ := k3 i x hi
    exact ⟨m, q1, q2.ext hx I hB, q3.ext hx I hB⟩
  · obtain ⟨l, k1, k2⟩ := I.loop id b r e hh
    have hd := I.dom id b e
    exact ⟨l, ((h.barrier id hd.1 hd.1).2.2 b e hd.2.1).trans k1, { k2 with env := fun t a ha => let ⟨x, y⟩ := k2.env t a ha; ⟨x, y.ext hx I hB⟩ }⟩
  · rcases hb with hb | ⟨id, _, hb⟩
    · exact I1.stab b hb
    · exact (I1.dom id b hb).2.1
/-- A new block that is only read. -/
def Ctx.stay (Γ : Ctx) (o : Obj) : Ctx := { Γ with w := Γ.w.alloc o, S := fun b => Γ.S b ∨ b = Γ.w.heap.size }
theorem stay_ext (lo : Nat) (o : Obj) : Ext lo (fun _ => False) Γ (Γ.stay o) :=
  { Ext.alloc lo Γ o with
    stab := fun b hb => .inl hb
    stabN := fun b hb => hb.elim .inl fun e => .inr (.inr (by omega)) }
theorem stay_inv (I : Inv base Γ) (o : Obj) : Inv base (Γ.stay o) := by
  have hx := stay_ext (Γ := Γ) Γ.H.length o
  have hB : ∀ b, Γ.S b → ¬ (fun _ : Nat => False) b := fun _ _ h => h
  refine ⟨fun id b e => ?_, I.inj, fun id b T xs e hh => ?_, fun id b es e hh => ?_, fun id b r e hh => ?_, fun b hb => ?_⟩
  · obtain ⟨q1, q2, q3, q4⟩ := I.dom id b e
    refine ⟨q1, Nat.lt_of_lt_of_le q2 hx.size, q3, fun hs => ?_⟩
    rcases hs with hs | hs
    · exact q4 hs
    · omega
  · obtain ⟨arr, k1, k2, k3, k4⟩ := I.cells id b T xs e hh
    exact ⟨arr, (heap_push_old (I.dom id b e).2.1).trans k1, k2, k3, fun i x hi => (k4 i x hi).ext hx I hB⟩
  · obtain ⟨ms, cl, k1, k2, k3, k4⟩ := I.map id b es e hh
    refine ⟨ms, cl, (heap_push_old (I.dom id b e).2.1).trans k1, k2, fun i x hi => ?_, k4⟩
    obtain ⟨m, q1, q2, q3⟩ := k3 i x hi
    exact ⟨m, q1, q2.ext hx I hB, q3.ext hx I hB⟩
  · obtain ⟨l, k1, k2⟩ := I.loop id b r e hh
    exact ⟨l, (heap_push_old (I.dom id b e).2.1).trans k1, { k2 with env := fun t a ha => let ⟨x, y⟩ := k2.env t a ha; ⟨x, y.ext hx I hB⟩ }⟩
  · rcases hb with hb | hb
    · exact Nat.lt_of_lt_of_le (I.stab b hb) hx.size
    · subst hb; simp [Ctx.stay, -World.alloc_eq, World.alloc]
theorem nzA_sound {z : Nz} {a : AV} {v : Value} (h : RelV Γ a v) : RelV Γ (nzA z a) v := by
  cases a with
  | nils => exact nilz_V h
  | vs sz xs =>
    have hT := h.toT rfl
    simp only [nzA]
    refine RelV.vs ?_
    cases hT with
    | vs g hn hc hsz hA hmem hrel =>
      refine .vs g (by rw [List.length_map]; exact hn) hc (fun r hr => ?_) hA hmem (fun i j r x hi hj => ?_)
      · obtain ⟨q, q1, rfl⟩ := List.mem_map.1 hr
        exact ⟨by rw [nilzL_len]; exact (hsz q q1).1, nilzL_one (hsz q q1).2⟩
      · rw [List.getElem?_map] at hi
        cases hq : xs[i]? with
        | none => rw [hq] at hi; cases hi
        | some q =>
          rw [hq] at hi
          injection hi with hi; subst hi
          obtain ⟨n, y, hy, e⟩ := nilzL_get _ _ _ _ hj
          have := hrel i j q y hq hy
          rcases e with rfl | rfl
          · exact nilz_T this
          · exact this
  | agg xs => exact nilzL_agg h
  | tup xs =>
    simp only [nzA]
    cases h with
    | tup hn hrel =>
      cases xs with
      | nil => exact .tup hn hrel
      | cons a l =>
        cases a with
        | agg ys =>
          refine .tup hn fun i x hi => ?_
          cases i with
          | zero =>
            simp only [nzT, List.getElem?_cons_zero, Option.some.injEq] at hi
            subst hi
            exact nilzL_agg (hrel 0 _ rfl)
          | succ i => exact hrel (i + 1) x (by simpa [nzT] using hi)
        | _ => exact .tup hn hrel
  | _ => exact h
/-! ### A slice that is not written any more -/
def Ctx.froze (Γ : Ctx) (id : Nat) : Ctx := { H := Γ.H.set id .dead, ρ := fun i => if i = id then none else Γ.ρ i, S := fun b => Γ.S b ∨ Γ.ρ id = some b, w := Γ.w }
theorem froze_get {Γ : Ctx} {id i : Nat} {o : HObj} (h : (Γ.froze id).H[i]? = some o) (hd : ∀ (hi : i = id), o ≠ .dead) : i ≠ id ∧ Γ.H[i]? = some o := by
  have hn : i ≠ id := fun e => by
    subst e
    simp only [Ctx.froze] at h
    rw [List.getElem?_set_self (by have := cells_lt h; simpa using this)] at h
    injection h with h
    exact hd rfl h.symm
  refine ⟨hn, ?_⟩
  simp only [Ctx.froze] at h
  rwa [List.getElem?_set_ne (fun e => hn e.symm)] at h
theorem froze_ext {lo id : Nat} (hlo : lo ≤ id) : Ext lo (fun _ => False) Γ (Γ.froze id) where
  len := by simp [Ctx.froze]
  cells i T xs' _ h := by
    obtain ⟨h1, h2⟩ := froze_get h (fun _ => by simp)
    exact ⟨xs', h2, .inr ⟨rfl, by simp [Ctx.froze, h1]⟩⟩
  map i es' _ h := by
    obtain ⟨h1, h2⟩ := froze_get h (fun _ => by simp)
    exact ⟨es', h2, by simp [Ctx.froze, h1]⟩
  loop i r' _ h := by
    obtain ⟨h1, h2⟩ := froze_get h (fun _ => by simp)
    exact ⟨r', h2, by simp [Ctx.froze, h1]⟩
  absent i _ h := by simp only [Ctx.froze]; split <;> first | rfl | exact h
  barrier i hi _ := by
    have hn : i ≠ id := by omega
    exact ⟨by simp only [Ctx.froze]; rw [List.getElem?_set_ne (fun e => hn e.symm)], by simp [Ctx.froze, hn], fun _ _ _ => rfl⟩
  sizes _ arr _ fr h := ⟨arr, fr, h, rfl⟩
  keep _ _ _ _ := rfl
  fresh i b h := by
    simp only [Ctx.froze] at h
    split at h
    · cases h
    · exact .inl ⟨i, h⟩
  stab _ h := .inl h
  stabN b h := by
    rcases h with h | h
    · exact .inl h
    · exact .inr (.inl ⟨id, h⟩)
  size := Nat.le_refl _
  os := rfl
  tape := rfl
  output := rfl
theorem froze_inv (I : Inv base Γ) {id : Nat} : Inv base (Γ.froze id) := by
  have hx := froze_ext (Γ := Γ) (lo := 0) (id := id) (Nat.zero_le _)
  have hB : ∀ b, Γ.S b → ¬ (fun _ : Nat => False) b := fun _ _ h => h
  have hρ : ∀ i b, (Γ.froze id).ρ i = some b → i ≠ id ∧ Γ.ρ i = some b := fun i b e => by
    simp only [Ctx.froze] at e
    split at e
    · cases e
    · rename_i h; exact ⟨h, e⟩
  refine ⟨fun i b e => ?_, fun i j b e1 e2 => I.inj i j b (hρ i b e1).2 (hρ j b e2).2, fun i b T xs e hh => ?_, fun i b es e hh => ?_, fun i b r e hh => ?_, fun b hb => ?_⟩
  · obtain ⟨h1, h2⟩ := hρ i b e
    obtain ⟨q1, q2, q3, q4⟩ := I.dom i b h2
    refine ⟨by simpa [Ctx.froze] using q1, q2, q3, fun hs => ?_⟩
    rcases hs with hs | hs
    · exact q4 hs
    · exact h1 (I.inj i id b h2 hs)
  · obtain ⟨h1, h2⟩ := froze_get hh (fun _ => by simp)
    obtain ⟨arr, k1, k2, k3, k4⟩ := I.cells i b T xs (hρ i b e).2 h2
    exact ⟨arr, k1, k2, k3, fun j x hj => (k4 j x hj).ext hx I hB⟩
  · obtain ⟨h1, h2⟩ := froze_get hh (fun _ => by simp)
    obtain ⟨ms, cl, k1, k2, k3, k4⟩ := I.map i b es (hρ i b e).2 h2
    refine ⟨ms, cl, k1, k2, fun j x hj => ?_, k4⟩
    obtain ⟨m, q1, q2, q3⟩ := k3 j x hj
    exact ⟨m, q1, q2.ext hx I hB, q3.ext hx I hB⟩
  · obtain ⟨h1, h2⟩ := froze_get hh (fun _ => by simp)
    obtain ⟨l, k1, k2⟩ := I.loop i b r (hρ i b e).2 h2
    exact ⟨l, k1, { k2 with env := fun t a ha => let ⟨x, y⟩ := k2.env t a ha; ⟨x, y.ext hx I hB⟩ }⟩
  · rcases hb with hb | hb
    · exact I.stab b hb
    · exact (I.dom id b hb).2.1
theorem frzSlot_sound {base n0 : Nat} {β : Nat → Nat} {s : St} {a : Act} (R : RelS base n0 Γ β s a) (t : Nat) :
    ∃ Γ', Γ'.w = Γ.w ∧ RelS base n0 Γ' β (frzSlot t s) a ∧ Ext s.lo (fun _ => False) Γ Γ' ∧ (frzSlot t s).lo = s.lo ∧ (frzSlot t s).inRound = s.inRound := by
  have triv : ∃ Γ', Γ'.w = Γ.w ∧ RelS base n0 Γ' β s a ∧ Ext s.lo (fun _ => False) Γ Γ' ∧ s.lo = s.lo ∧ s.inRound = s.inRound := ⟨Γ, rfl, R, Ext.refl _ _ _, rfl, rfl⟩
  unfold frzSlot
  split
  · rename_i id sz off len hl
    split
    · rename_i T xs hH
      split
      · rename_i hc
        obtain ⟨c1, c2, c3⟩ := hc
        have hH' : Γ.H[id]? = some (.cells T xs) := by rw [R.heap]; exact hH
        obtain ⟨ht, hv⟩ := R.env t _ hl
        obtain ⟨b, c, arr, T', fr, hb, hv', hle, hh, hsz⟩ := sl_slice hv hH' c2
        obtain ⟨arr2, k1, k2, k3, k4⟩ := R.inv.cells id b T xs hb hH'
        have hx := froze_ext (Γ := Γ) (lo := s.lo) (id := id) c1
        have R1 := R.ext hx (froze_inv R.inv)
        refine ⟨Γ.froze id, rfl, { R1 with heap := by show Γ.H.set id .dead = s.heap.set id .dead; rw [R.heap], env := fun t' x hx' => ?_ }, hx, rfl, rfl⟩
        simp only [look_cons] at hx'
        split at hx'
        · rename_i e
          subst e
          injection hx' with hx'; subst hx'
          refine ⟨ht, ?_⟩
          show RelV (Γ.froze id) _ _
          rw [hv']
          have hT := relT_chunks (S := (Γ.froze id).S) (w := Γ.w) k1 (.inr hb) k2 k3 (fun i x hi => ((k4 i x hi).toT (all_static c3 (List.mem_of_getElem? hi))).mono fun b hs => ⟨.inl hs, rfl⟩) c2 hle
          exact .vs hT
        · exact R1.env t' x hx'
      · exact triv
    · exact triv
  · exact triv
theorem frzSlots_sound {base n0 : Nat} {β : Nat → Nat} {a : Act} : ∀ (l : List Nat) {Γ : Ctx} {s : St}, RelS base n0 Γ β s a →
    ∃ Γ', Γ'.w = Γ.w ∧ RelS base n0 Γ' β (frzSlots l s) a ∧ Ext s.lo (fun _ => False) Γ Γ' ∧ (frzSlots l s).lo = s.lo ∧ (frzSlots l s).inRound = s.inRound
  | [], Γ, s, R => ⟨Γ, rfl, R, Ext.refl _ _ _, rfl, rfl⟩
  | t :: l, Γ, s, R => by
    obtain ⟨Γ1, e1, R1, x1, l1, r1⟩ := frzSlot_sound R t
    obtain ⟨Γ2, e2, R2, x2, l2, r2⟩ := frzSlots_sound l R1
    exact ⟨Γ2, e2.trans e1, R2, x1.trans x2 (by rw [l1]; exact Nat.le_refl _) (fun _ _ _ h => h.elim), l2.trans l1, r2.trans r1⟩
/- More operations that change no memory. -/
variable {P : Program} {C : Cfg} {Γ : Ctx} {t : Nat} {ti : TI} {base n0 f : Nat} {β : Nat → Nat} {s s' : St} {a : Act} {o : Oper} {K : Callee}
theorem rp_drop {xs : List AV} {ad : Addr} (h : RelV Γ (.rp xs) (.pointer (some ad))) (off : Nat) : RelV Γ (.rp (xs.drop off)) (.pointer (some (ad.add off))) := by
  cases h with
  | rp g h1 hmem hrel =>
    refine .rp (fun j => g (off + j)) (fun x hx => h1 x (List.mem_of_mem_drop hx)) (fun j hj => ?_) (fun j x hj => ?_)
    · rw [List.length_drop] at hj
      rw [add_add, add_block]
      exact hmem (off + j) (by omega)
    · rw [List.getElem?_drop] at hj
      exact hrel _ x hj
theorem hp_off {id n off k : Nat} {ad : Addr} (h : RelV Γ (.hp id n off) (.pointer (some ad))) : RelV Γ (.hp id n (off + k)) (.pointer (some (ad.add k))) := by
  cases h with
  | hp hin h1 hh =>
    refine .hp hin ⟨_, rfl⟩ fun T xs hx => ⟨(hh T xs hx).1, fun hn => ?_⟩
    obtain ⟨b', hb, hv⟩ := (hh T xs hx).2 hn
    injection hv with hv; injection hv with hv; subst hv
    exact ⟨b', hb, by rw [add_off]⟩
theorem run_fieldAt {s : TypeId} {fs : List (Nat × Nat)} (ht : TIOk P s ti) (hk : ti.kind = .struct fs) {j off ft : Nat} (hj : fs[j]? = some (off, ft)) {fi : TI} (hf : TIOk P ft fi) (hsz : fi.sz ≠ 0) (ad : Addr) (w : World) :
    (Instr.fieldAt s (.pointer (some ad)) j).run P w = .ok (.pointer (some (ad.add off))) w := by
  obtain ⟨gs, h1, h2⟩ := ht.struct hk
  have hg : ∃ g : Field, gs[j]? = some g ∧ g.offset = off ∧ g.type = ft := by
    rw [← h2, List.getElem?_map] at hj
    cases hg : gs[j]? with
    | none => rw [Array.getElem?_toList, hg] at hj; cases hj
    | some g => rw [Array.getElem?_toList, hg] at hj; injection hj with hj; injection hj with e1 e2; exact ⟨g, rfl, e1, e2⟩
  obtain ⟨g, hg, rfl, rfl⟩ := hg
  simp [Instr.fieldAt, run_underlying h1, hg, Instr.sureAddr, fieldPlace, hf.run_size, hsz]
theorem pure_fieldAddr (hT : TabOk P C.tab) (R : RelS base n0 Γ β s a) {t : TypeId} {x : Operand} {j : Nat} (ho : o.op = .fieldAddr t x j) (h : oper C K f o s = some s') : PureOk P Γ β s a o s' := by
  unfold oper at h
  rw [ho] at h
  dsimp only at h
  have hex : execOp a.eval o = (do pure (.value (← Instr.fieldAt t (a.eval x) j))) := by unfold execOp; rw [ho]
  split at h
  · rename_i fs sz by_ zr sl ht hx
    split at h
    · rename_i off ft hj
      split at h
      · rename_i fi hf
        split at h
        · cases h
        · rename_i hsz
          have key : ∀ (ad : Addr) (y : Slot), a.eval x = .pointer (some ad) → RelX Γ β y (.pointer (some (ad.add off))) → s' = s.put o.dst y → PureOk P Γ β s a o s' := by
            intro ad y hx hr e
            refine ⟨y, _, ?_, hr, e⟩
            rw [hex, hx]
            simp [run_fieldAt (hT _ _ ht) rfl hj (hT _ _ hf) hsz ad Γ.w]
          split at h
          · rename_i d o'
            injection h with h
            refine key _ _ (R.slot hx) ?_ h.symm
            rw [add_off]; rfl
          · rename_i id n o'
            injection h with h
            have hr : RelV Γ (.hp id n o') (a.eval x) := R.slot hx
            obtain ⟨ad, hv⟩ := somePtr_sound (a := .hp id n o') rfl hr
            refine key _ _ hv ?_ h.symm
            rw [hv] at hr
            exact hp_off hr
          · rename_i xs
            injection h with h
            have hr : RelV Γ (.rp xs) (a.eval x) := R.slot hx
            generalize hv : a.eval x = u at hr
            cases hr with
            | rp g h1 hmem hrel => exact key _ (.v (.rp (xs.drop off))) hv (rp_drop (.rp g h1 hmem hrel) off) h.symm
          · cases h
      · cases h
    · cases h
  · cases h
/-- A field of a value, or of a zero value. -/
theorem part_sound {t : Nat} (ht : TIOk P t ti) {xs : List AV} {cs : Array Value} (hc : RelC Γ xs cs) {off : Nat} {r : AV} (h : part ti xs off = some r) (w : World) : ∃ v, (_root_.Go.part t cs off).run P w = .ok v w ∧ RelV Γ r v := by
  unfold part at h
  unfold Go.part
  simp only [Sem.run_bind, ht.run_agg, Result.andThen_ok]
  split at h
  · rename_i hk
    split at h
    · rename_i hle
      injection h with h; subst h
      refine ⟨.agg (cs.extract off (off + ti.sz)), by simp [hk, ht.run_size], .agg ?_ (fun x hx => hc.2.1 x (List.mem_of_mem_drop (List.mem_of_mem_take hx))) (fun i x hx => ?_)⟩
      · have := hc.1; simp; omega
      · have hi : i < ti.sz := by
          rcases Nat.lt_or_ge i ti.sz with h' | h'
          · exact h'
          · rw [List.getElem?_take_eq_none h'] at hx; cases hx
        rw [List.getElem?_take_of_lt hi, List.getElem?_drop] at hx
        have h2 := hc.2.2 _ x hx
        have h1 := hc.1
        have e : (cs.extract off (off + ti.sz)).getD i undef = cs.getD (off + i) undef := by
          rw [Array.getD_eq_getD_getElem?, Array.getD_eq_getD_getElem?, Array.getElem?_extract, if_pos (by omega)]
        rw [e]; exact h2
    · cases h
  · rename_i hk
    have hlt : off < cs.size := by
      rcases Nat.lt_or_ge off xs.length with h' | h'
      · have := hc.1; omega
      · rw [List.getElem?_eq_none h'] at h; cases h
    refine ⟨cs.getD off undef, ?_, hc.2.2 off r h⟩
    simp [hk, hlt, Array.getD_eq_getD_getElem?]
theorem pure_field (hT : TabOk P C.tab) (R : RelS base n0 Γ β s a) {t : TypeId} {x : Operand} {j : Nat} (ho : o.op = .field t x j) (h : oper C K f o s = some s') : PureOk P Γ β s a o s' := by
  unfold oper at h
  rw [ho] at h
  dsimp only at h
  split at h
  · rename_i fs sz by_ zr xs ht hx
    split at h
    · rename_i off ft hj
      split at h
      · rename_i fi hf
        obtain ⟨r, hr, e⟩ := putv_of_map h
        have hv := R.val hx
        generalize hv' : a.eval x = u at hv
        cases hv with
        | agg hn h1 hrel =>
          rename_i cs
          obtain ⟨gs, e1, e2⟩ := (hT _ _ ht).struct rfl
          have hg : ∃ g : Field, gs[j]? = some g ∧ g.offset = off ∧ g.type = ft := by
            rw [← e2, List.getElem?_map] at hj
            cases hg : gs[j]? with
            | none => rw [Array.getElem?_toList, hg] at hj; cases hj
            | some g => rw [Array.getElem?_toList, hg] at hj; injection hj with hj; injection hj with e1 e2; exact ⟨g, rfl, e1, e2⟩
          obtain ⟨g, hg, rfl, rfl⟩ := hg
          obtain ⟨v, hv, hrv⟩ := part_sound (hT _ _ hf) (⟨hn, h1, hrel⟩ : RelC Γ xs cs) hr Γ.w
          refine ⟨.v r, v, ?_, hrv, e⟩
          unfold execOp
          rw [ho]
          simp [hv', Instr.field, run_underlying e1, hg, asAgg, hv]
      · cases h
    · cases h
  · cases h
theorem rp_row {sz : Nat} {xs : List (List AV)} {A : Option Addr} {n c : Nat} (h : RelT Γ.S Γ.w (.vs sz xs) (.slice A n c)) {i : Nat} {r : List AV} (hi : xs[i]? = some r) : ∃ ad, A = some ad ∧ i < n ∧ RelV Γ (.rp r) (.pointer (some (ad.add (i * sz)))) := by
  cases h with
  | vs g hn hc hsz hA hmem hrel =>
    have hlt : i < xs.length := by
      rcases Nat.lt_or_ge i xs.length with h' | h'
      · exact h'
      · rw [List.getElem?_eq_none h'] at hi; cases hi
    obtain ⟨ad, rfl⟩ := hA (by omega)
    have hm := hsz r (List.mem_of_getElem? hi)
    refine ⟨ad, rfl, by omega, .rp (fun j => g i j) hm.2 (fun j hj => ?_) (fun j x hj => hrel i j r x hi hj)⟩
    rw [add_add, add_block]
    have := hmem ad rfl i j (by omega) (by omega)
    exact this
theorem pure_indexAddr (hT : TabOk P C.tab) (R : RelS base n0 Γ β s a) {t : TypeId} {x i : Operand} (ho : o.op = .indexAddr t x i) (h : oper C K f o s = some s') : PureOk P Γ β s a o s' := by
  unfold oper at h
  rw [ho] at h
  dsimp only at h
  split at h
  · rename_i e sz0 by_ zr av k iv ht hx hi
    split at h
    · rename_i ei he
      split at h
      · rename_i h0
        have hi' : a.eval i = .int k iv := by
          have := R.val hi
          generalize a.eval i = u at this
          cases this; rfl
        have key : ∀ (ad : Addr) (len c : Nat) (y : AV), a.eval x = .slice (some ad) len c → iv < len → RelV Γ y (.pointer (some (ad.add (iv.toNat * ei.sz)))) → s' = s.put o.dst (.v y) → PureOk P Γ β s a o s' := by
          intro ad len c y hx hlt hr e'
          refine ⟨.v y, _, ?_, hr, e'⟩
          unfold execOp
          rw [ho]
          simp [hx, hi', Instr.indexAt, asIntOf, run_underlying ((hT _ _ ht).slice rfl), h0, hlt, (hT _ _ he).run_size]
        split at h
        · rename_i id sz off len
          split at h
          · rename_i T xs hH
            split at h
            · rename_i hc
              injection h with h
              obtain ⟨c1, c2, c3⟩ := hc
              subst c1
              rw [← R.heap] at hH
              obtain ⟨b, c, arr, T', fr, hb, hv, hle, hh, hsz⟩ := sl_slice (R.val hx) hH c3
              refine key _ _ _ _ hv c2 ?_ h.symm
              rw [add_off]
              refine .hp (R.inv.dom id b hb).1 ⟨_, rfl⟩ fun T2 ys hy => ?_
              rw [hH] at hy
              injection hy with hy; injection hy with _ hy; subst hy
              exact ⟨Nat.le_refl _, fun _ => ⟨b, hb, rfl⟩⟩
            · cases h
          · cases h
        · rename_i sz xs
          split at h
          · rename_i hsz
            subst hsz
            cases hr : xs[iv.toNat]? with
            | none => rw [hr] at h; cases h
            | some r =>
              rw [hr] at h
              injection h with h
              have hv := R.val hx
              generalize hv' : a.eval x = u at hv
              cases hv with
              | vs hT => cases hT with
               | vs g hn hc hsz hA hmem hrel =>
                obtain ⟨ad, rfl, hlt, hrp⟩ := rp_row (.vs g hn hc hsz hA hmem hrel) hr
                exact key _ _ _ _ hv' (by omega) hrp h.symm
          · cases h
        · cases h
      · cases h
    · cases h
  · cases h
/- More operations that change no memory: operators, maps read, values built. -/
variable {P : Program} {C : Cfg} {Γ : Ctx} {t : Nat} {ti : TI} {base n0 f : Nat} {β : Nat → Nat} {s s' : St} {a : Act} {o : Oper} {K : Callee}
theorem val_int (R : RelS base n0 Γ β s a) {x : Operand} {k : IntKind} {n : Int} (h : s.val x = some (.int k n)) : a.eval x = .int k n := by
  have := R.val h
  generalize a.eval x = u at this
  cases this; rfl
theorem val_str (R : RelS base n0 Γ β s a) {x : Operand} {b : ByteArray} (h : s.val x = some (.str b)) : a.eval x = .string b := by
  have := R.val h
  generalize a.eval x = u at this
  cases this; rfl
theorem val_bool (R : RelS base n0 Γ β s a) {x : Operand} {b : Bool} (h : s.val x = some (.bool b)) : a.eval x = .bool b := by
  have := R.val h
  generalize a.eval x = u at this
  cases this; rfl
theorem pure_index (hT : TabOk P C.tab) (R : RelS base n0 Γ β s a) {t : TypeId} {x i : Operand} (ho : o.op = .index t x i) (h : oper C K f o s = some s') : PureOk P Γ β s a o s' := by
  unfold oper at h
  rw [ho] at h
  dsimp only at h
  split at h
  · rename_i sz by_ zr b k iv ht hx hi
    split at h
    · rename_i h0
      cases hb : b[iv.toNat]? with
      | none => rw [hb] at h; cases h
      | some c =>
        rw [hb] at h
        injection h with h
        refine ⟨.v (.int .u8 c.toNat), .int .u8 c.toNat, ?_, .int _ _, h.symm⟩
        unfold execOp
        rw [ho]
        simp [val_int R hi, val_str R hx, Instr.index, asIntOf, run_underlying ((hT _ _ ht).str rfl), h0, hb]
    · cases h
  · cases h
theorem pure_binOp (hT : TabOk P C.tab) (hE : ∀ t, t ∈ C.eqs → EqOk P t) (R : RelS base n0 Γ β s a) {op : BinOp} {t t' : TypeId} {x y : Operand} (ho : o.op = .binOp op t x y t') (h : oper C K f o s = some s') : PureOk P Γ β s a o s' := by
  unfold oper at h
  rw [ho] at h
  dsimp only at h
  split at h
  · rename_i av bv hx hy
    obtain ⟨r, hr, e⟩ := putv_of_map h
    obtain ⟨z, hz, hrel⟩ := binop_sound (w := Γ.w) hT hE hr (R.val hx) (R.val hy) x y
    refine ⟨.v r, z, ?_, hrel, e⟩
    unfold execOp
    rw [ho]
    dsimp only
    rw [Sem.run_bind, hz]
    rfl
  · cases h
theorem pure_unOp (R : RelS base n0 Γ β s a) {op : UnOp} {t : TypeId} {x : Operand} (ho : o.op = .unOp op t x) (h : oper C K f o s = some s') : PureOk P Γ β s a o s' := by
  unfold oper at h
  rw [ho] at h
  dsimp only at h
  split at h
  · rename_i av hx
    obtain ⟨r, hr, e⟩ := putv_of_map h
    obtain ⟨z, hz, hrel⟩ := unop_sound (P := P) (w := Γ.w) hr (R.val hx)
    refine ⟨.v r, z, ?_, hrel, e⟩
    unfold execOp
    rw [ho]
    dsimp only
    rw [Sem.run_bind, hz]
    rfl
  · cases h
theorem underlying_of (h : TIOk P t ti) : ∃ d, P.underlying t = some d := let ⟨d, h1, _⟩ := h.kind; ⟨d, h1⟩
theorem pure_convert (hT : TabOk P C.tab) (R : RelS base n0 Γ β s a) {u t : TypeId} {x : Operand} (ho : o.op = .convert u t x) (h : oper C K f o s = some s') : PureOk P Γ β s a o s' := by
  unfold oper at h
  rw [ho] at h
  dsimp only at h
  have hex : execOp a.eval o = (do pure (.value (← convert u t (a.eval x)))) := by unfold execOp; rw [ho]
  split at h
  · rename_i tu k sz by_ zr k' n hu ht hx
    injection h with h
    obtain ⟨d, hd⟩ := underlying_of (hT _ _ hu)
    refine ⟨.v (.int k (k.wrap n)), .int k (k.wrap n), ?_, .int _ _, h.symm⟩
    rw [hex]
    have hr : (convert u t (.int k' n)).run P Γ.w = .ok (.int k (k.wrap n)) Γ.w := by
      unfold convert
      simp only [Sem.run_bind, run_underlying hd, run_underlying ((hT _ _ ht).int rfl), Result.andThen_ok]
      cases d <;> rfl
    rw [val_int R hx, Sem.run_bind, hr]
    rfl
  · rename_i tu sz by_ zr b hu ht hx
    injection h with h
    obtain ⟨d, hd⟩ := underlying_of (hT _ _ hu)
    refine ⟨.v (.str b), .string b, ?_, .str _, h.symm⟩
    rw [hex]
    have hr : (convert u t (.string b)).run P Γ.w = .ok (.string b) Γ.w := by
      unfold convert
      simp only [Sem.run_bind, run_underlying hd, run_underlying ((hT _ _ ht).str rfl), Result.andThen_ok]
      cases d <;> rfl
    rw [val_str R hx, Sem.run_bind, hr]
    rfl
  · cases h
theorem pure_makeFunc (R : RelS base n0 Γ β s a) {n : Nat} {first caps : Array Operand} (ho : o.op = .makeFunc (.func n) first caps) (h : oper C K f o s = some s') : PureOk P Γ β s a o s' := by
  unfold oper at h
  rw [ho] at h
  dsimp only at h
  split at h
  · rename_i vs hvs
    split at h
    · rename_i hf
      injection h with h
      have hr := R.vals hvs
      refine ⟨.v (.fn (.func n) vs), .func (.func n) #[] (caps.map a.eval), ?_, ?_, h.symm⟩
      · unfold execOp
        rw [ho]
        have : first = #[] := by simpa using hf
        subst this
        simp [Instr.makeFunc]
      · refine .fn ?_ fun i x hx => ?_
        · have := hr.len; simpa using this
        · obtain ⟨v, hv, hrel⟩ := hr.get i x hx
          have e : (caps.map a.eval).getD i undef = v := by
            rw [Array.getD_eq_getD_getElem?, ← Array.getElem?_toList, Array.toList_map, hv]; rfl
          rw [e]; exact hrel
    · cases h
  · cases h
theorem pure_extract (R : RelS base n0 Γ β s a) {x : Operand} {i : Nat} (ho : o.op = .extract x i) (h : oper C K f o s = some s') : PureOk P Γ β s a o s' := by
  unfold oper at h
  rw [ho] at h
  dsimp only at h
  split at h
  · rename_i vs hx
    obtain ⟨r, hr, e⟩ := putv_of_map h
    have hv := R.val hx
    generalize hv' : a.eval x = u at hv
    cases hv with
    | tup hn hrel =>
      rename_i us
      have hlt : i < us.size := by
        rcases Nat.lt_or_ge i vs.length with h' | h'
        · omega
        · rw [List.getElem?_eq_none h'] at hr; cases hr
      refine ⟨.v r, us.getD i undef, ?_, hrel i r hr, e⟩
      unfold execOp
      rw [ho]
      simp [hv', Instr.extract, hlt, Array.getD_eq_getD_getElem?]
  · cases h
theorem pure_makeInterface (hT : TabOk P C.tab) (R : RelS base n0 Γ β s a) {t : TypeId} {x : Operand} (ho : o.op = .makeInterface t x) (h : oper C K f o s = some s') : PureOk P Γ β s a o s' := by
  unfold oper at h
  rw [ho] at h
  dsimp only at h
  split at h
  · cases h
  · rename_i ti v hne ht hx
    injection h with h
    refine ⟨.v (.iface t v), .iface t (a.eval x), ?_, .iface (R.val hx), h.symm⟩
    obtain ⟨d, hd, hk⟩ := (hT _ _ ht).kind
    unfold execOp
    rw [ho]
    dsimp only
    have hr : (Instr.makeInterface t (a.eval x)).run P Γ.w = .ok (.iface t (a.eval x)) Γ.w := by
      unfold Instr.makeInterface
      simp only [Sem.run_bind, run_underlying hd, Result.andThen_ok]
      cases d <;> first | rfl | skip
      rename_i ms
      exfalso
      obtain ⟨kind, sz, by_, zr⟩ := ti
      cases kind <;> first | exact hk | exact hne _ _ _ rfl
    rw [Sem.run_bind, hr]
    rfl
  · cases h
/- Maps read; structs built. -/
variable {P : Program} {C : Cfg} {Γ : Ctx} {t : Nat} {ti : TI} {base n0 f : Nat} {β : Nat → Nat} {s s' : St} {a : Act} {o : Oper} {K : Callee}
inductive RelMs (Γ : Ctx) : List (AV × AV) → List MapEntry → Prop
  | nil : RelMs Γ [] []
  | cons {k v : AV} {m : MapEntry} {l : List (AV × AV)} {ms : List MapEntry} (hk : RelV Γ k m.key) (hv : RelV Γ v m.val) (h : RelMs Γ l ms) : RelMs Γ ((k, v) :: l) (m :: ms)
theorem RelMs.of_array : ∀ {l : List (AV × AV)} {ms : List MapEntry}, ms.length = l.length → (∀ (i : Nat) (e : AV × AV), l[i]? = some e → ∃ m : MapEntry, ms[i]? = some m ∧ RelV Γ e.1 m.key ∧ RelV Γ e.2 m.val) → RelMs Γ l ms
  | [], [], _, _ => .nil
  | [], _ :: _, h, _ => by simp at h
  | _ :: _, [], h, _ => by simp at h
  | (k, v) :: l, m :: ms, hn, h => by
    obtain ⟨m', h1, h2, h3⟩ := h 0 (k, v) rfl
    simp at h1; subst h1
    exact .cons h2 h3 (RelMs.of_array (by simpa using hn) fun i e he => by simpa using h (i + 1) e (by simpa using he))
/-- The kinds of keys. -/
def keyDesc : TK → TypeDesc → Prop
  | .int k, d => d = .int k
  | .bool, d => d = .bool
  | .str, d => d = .string
  | _, _ => False
theorem keyKind_desc (hT : TabOk P C.tab) {kt : Nat} {x : AV} {kk : TK} (h : keyKind C.tab kt x = some kk) : ∃ d, P.underlying kt = some d ∧ keyDesc kk d := by
  unfold keyKind at h
  split at h
  · rename_i hl; injection h with h; subst h; exact ⟨_, (hT _ _ hl).int rfl, rfl⟩
  · rename_i hl; injection h with h; subst h; exact ⟨_, (hT _ _ hl).bool rfl, rfl⟩
  · rename_i hl; injection h with h; subst h; exact ⟨_, (hT _ _ hl).str rfl, rfl⟩
  · cases h
theorem run_checkKey {kk : TK} {d : TypeDesc} {kt : TypeId} (hd : P.underlying kt = some d) (hk : keyDesc kk d) (e : Bool) (n : Nat) (v : Value) (w : World) : (Instr.checkKey e (n + 1) kt v).run P w = .ok () w := by
  unfold Instr.checkKey
  simp only [Sem.run_bind, run_underlying hd, Result.andThen_ok]
  cases kk <;> simp only [keyDesc] at hk <;> (subst hk; rfl)
theorem sameNow_sound {kk : TK} {d : TypeDesc} (hk : keyDesc kk d) {x y : AV} {v u : Value} {r : Bool} (h : keyEq kk x y = some r) (hx : RelV Γ x v) (hy : RelV Γ y u) : Instr.sameNow d v u = some r := by
  unfold keyEq at h
  split at h
  · split at h
    · rename_i e; subst e
      injection h with h; subst h
      cases hx; cases hy
      simp only [keyDesc] at hk; subst hk
      simp [Instr.sameNow]
    · cases h
  · injection h with h; subst h
    cases hx; cases hy
    simp only [keyDesc] at hk; subst hk
    rfl
  · injection h with h; subst h
    cases hx; cases hy
    simp only [keyDesc] at hk; subst hk
    rfl
  · cases h
theorem mapFind_sound {kk : TK} {d : TypeDesc} (hk : keyDesc kk d) {x : AV} {v : Value} (hx : RelV Γ x v) : ∀ {l : List (AV × AV)} {ms : List MapEntry} (i : Nat) {r : Option AV}, RelMs Γ l ms → mapFind kk l x = some r →
    ∃ q, Instr.findNow d v ms i = some q ∧ match r, q with
      | none, none => True
      | some y, some (_, u) => RelV Γ y u
      | _, _ => False
  | [], _, i, r, .nil, h => by
    injection h with h; subst h
    exact ⟨none, rfl, trivial⟩
  | (k, y) :: l, m :: ms, i, r, .cons h1 h2 h3, h => by
    unfold mapFind at h
    split at h
    · rename_i e
      injection h with h; subst h
      exact ⟨some (i, m.val), by simp only [Instr.findNow, sameNow_sound hk e hx h1], h2⟩
    · rename_i e
      obtain ⟨q, hq, hr⟩ := mapFind_sound hk hx (i + 1) h3 h
      exact ⟨q, by simp only [Instr.findNow, sameNow_sound hk e hx h1, hq], hr⟩
    · cases h
theorem mp_map {id : Nat} {v : Value} (h : RelV Γ (.mp id) v) {es : List (AV × AV)} (hx : Γ.H[id]? = some (.map es)) : ∃ b, Γ.ρ id = some b ∧ v = .map (some b) := by
  cases h with
  | mp hin h1 hh => exact hh es hx
theorem zero_sound (ht : TIOk P t ti) (w : World) {y : AV} (hp : part ti ti.zero 0 = some y) : ∃ z, (zeroValue t).run P w = .ok z w ∧ RelV Γ y z := by
  obtain ⟨z, hz, h1, h2, h3⟩ := ht.run_zero w
  refine ⟨z, hz, ?_⟩
  have hc : RelC Γ ti.zero z.cells := .of_zero h2
  unfold part at hp
  cases hk : ti.kind.isAgg with
  | true =>
    rw [hk] at h3
    have e : ∃ cs, z = .agg cs := by cases z <;> first | exact ⟨_, rfl⟩ | (simp [zShape] at h3)
    obtain ⟨cs, rfl⟩ := e
    rw [if_pos hk] at hp
    split at hp
    · injection hp with hp
      subst hp
      have hl : ti.zero.length = ti.sz := by have := hc.1; omega
      rw [List.drop_zero, List.take_of_length_le (by omega)]
      exact hc.agg
    · cases hp
  | false =>
    rw [hk] at h3
    have e : z.cells = #[z] := by cases z <;> first | rfl | (simp [zShape] at h3)
    rw [hk] at hp
    have := hc.2.2 0 y (by simpa using hp)
    rw [e] at this
    simpa using this
theorem pure_lookup (hT : TabOk P C.tab) (R : RelS base n0 Γ β s a) {t : TypeId} {m k : Operand} {ok : Bool} (ho : o.op = .lookup t m k ok) (h : oper C K f o s = some s') : PureOk P Γ β s a o s' := by
  unfold oper at h
  rw [ho] at h
  dsimp only at h
  split at h
  · rename_i kt e sz by_ zr id x ht hm hx
    split at h
    · rename_i es ti hH he
      split at h
      · rename_i kk hkk
        rw [← R.heap] at hH
        obtain ⟨b, hb, hmv⟩ := mp_map (R.val hm) hH
        obtain ⟨ms, cl, h1, h2, h3, _⟩ := R.inv.map id b es hb hH
        obtain ⟨d, hd, hkd⟩ := keyKind_desc hT hkk
        have hMs : RelMs Γ es ms.toList := RelMs.of_array (by simpa using h2) (fun i e he => by
          obtain ⟨m, a1, a2⟩ := h3 i e he
          exact ⟨m, by rw [Array.getElem?_toList]; exact a1, a2⟩)
        have hu : P.underlying t = some (.map kt e) := (hT _ _ ht).map rfl
        have hxr := R.val hx
        have key : ∀ (r : Option AV) (y : AV) (okb : Bool), mapFind kk es x = some r → (∀ q : Option (Nat × Value), (match r, q with
            | none, none => True
            | some y, some (_, u) => RelV Γ y u
            | _, _ => False) → (∃ i u, q = some (i, u) ∧ okb = true ∧ RelV Γ y u) ∨ (q = none ∧ okb = false ∧ ∃ u, (zeroValue e).run P Γ.w = .ok u Γ.w ∧ RelV Γ y u)) →
            s' = s.put o.dst (.v (if ok then .tup [y, .bool okb] else y)) → PureOk P Γ β s a o s' := by
          intro r y okb hf hq e'
          obtain ⟨q, hq1, hq2⟩ := mapFind_sound hkd hxr 0 hMs hf
          have hl : ∃ u, (Instr.lookup t (a.eval m) (a.eval k) ok).run P Γ.w = .ok (if ok then .tuple #[u, .bool okb] else u) Γ.w ∧ RelV Γ y u := by
            rw [hmv]
            unfold Instr.lookup
            simp only [Sem.run_bind, run_underlying hu, Result.andThen_ok]
            have hg : (getObj b).run P Γ.w = .ok (.map ms cl) Γ.w := by
              simp only [getObj, Sem.run, h1]
            simp only [Sem.run_bind, hg, Result.andThen_ok, Sem.run_pure]
            rw [show (10000 : Nat) = 9999 + 1 from rfl, run_checkKey hd hkd]
            simp only [Result.andThen_ok, Instr.findKey, Sem.run_bind, run_underlying hd, hq1, Sem.run_pure]
            rcases hq q hq2 with ⟨i, u, rfl, rfl, hr⟩ | ⟨rfl, rfl, u, hz, hr⟩
            · exact ⟨u, rfl, hr⟩
            · refine ⟨u, ?_, hr⟩
              simp only [Sem.run_bind, hz, Result.andThen_ok, Sem.run_pure]
          obtain ⟨u, hl, hu2⟩ := hl
          refine ⟨_, if ok then .tuple #[u, .bool okb] else u, ?_, ?_, e'⟩
          · unfold execOp
            rw [ho]
            dsimp only
            rw [Sem.run_bind, hl]
            rfl
          · cases ok
            · exact hu2
            · refine RelV.tup rfl fun i x hx => ?_
              match i, hx with
              | 0, hx => simp at hx; subst hx; exact hu2
              | 1, hx => simp at hx; subst hx; exact .bool _
        split at h
        · rename_i v hf
          injection h with h
          refine key _ v true hf (fun q hr => ?_) h.symm
          cases q with
          | none => exact hr.elim
          | some p => exact .inl ⟨p.1, p.2, rfl, rfl, hr⟩
        · rename_i hf
          cases hp : part ti ti.zero 0 with
          | none => rw [hp] at h; cases h
          | some y =>
            rw [hp] at h
            injection h with h
            refine key _ y false hf (fun q hr => ?_) h.symm
            cases q with
            | some p => exact hr.elim
            | none =>
              obtain ⟨z, hz, hr⟩ := zero_sound (hT _ _ he) Γ.w hp
              exact .inr ⟨rfl, rfl, z, hz, hr⟩
        · cases h
      · cases h
    · cases h
  · cases h
/- Structs built; operations that make objects. -/
variable {P : Program} {C : Cfg} {Γ : Ctx} {t : Nat} {ti : TI} {base n0 f : Nat} {β : Nat → Nat} {s s' : St} {a : Act} {o : Oper} {K : Callee}
theorem run_mapM_list {α β : Type} {F : α → Sem β} {g : α → β} {w : World} : ∀ (l : List α), (∀ x, x ∈ l → (F x).run P w = .ok (g x) w) → (l.mapM F).run P w = .ok (l.map g) w
  | [], _ => rfl
  | x :: l, h => by
    rw [List.mapM_cons]
    simp only [Sem.run_bind, h x (List.mem_cons_self ..), Result.andThen_ok, run_mapM_list l (fun y hy => h y (List.mem_cons_of_mem _ hy)), Sem.run_pure, List.map_cons]
theorem run_mapM_array {α β : Type} {F : α → Sem β} {g : α → β} {w : World} (l : Array α) (h : ∀ x, x ∈ l.toList → (F x).run P w = .ok (g x) w) : (l.mapM F).run P w = .ok (l.map g) w := by
  rw [Array.mapM_eq_mapM_toList]
  simp only [Sem.run_map, run_mapM_list l.toList h, Result.andThen_ok]
  congr 1
  apply Array.ext'
  simp
theorem vals_parts (R : RelS base n0 Γ β s a) {parts : Array (Nat × Operand)} {vs : List AV} (h : s.vals (parts.toList.map (·.2)) = some vs) :
    ((parts.toList.map (·.1)).zip vs).map (·.1) = ((parts.map fun (i, x) => (i, a.eval x)).toList).map (·.1) ∧ RelVs Γ (((parts.toList.map (·.1)).zip vs).map (·.2)) (((parts.map fun (i, x) => (i, a.eval x)).toList).map (·.2)) := by
  have hr := R.vals h
  have hl := hr.len
  simp only [List.length_map, Array.length_toList] at hl
  constructor
  · rw [List.map_fst_zip (by simp only [List.length_map, Array.length_toList]; omega), Array.toList_map, List.map_map]
    rfl
  · rw [List.map_snd_zip (by simp only [List.length_map, Array.length_toList]; omega), Array.toList_map, List.map_map]
    rw [List.map_map] at hr
    exact hr
theorem pure_build (hT : TabOk P C.tab) (R : RelS base n0 Γ β s a) {t : TypeId} {parts : Array (Nat × Operand)} (ho : o.op = .build t parts) (h : oper C K f o s = some s') : PureOk P Γ β s a o s' := by
  unfold oper at h
  rw [ho] at h
  dsimp only at h
  split at h
  · rename_i fs sz by_ zr vs ht hv
    simp only [Option.map_eq_some_iff] at h
    obtain ⟨ys, hf, e⟩ := h
    obtain ⟨p1, p2⟩ := vals_parts R hv
    have hti := hT _ _ ht
    obtain ⟨gs, hg, hfs⟩ := hti.struct rfl
    obtain ⟨z, hz, hz1, hz2, hz3⟩ := hti.run_zero Γ.w
    have hsz : ∀ g, g ∈ gs.toList → (do pure (g.offset, ← sizeOf g.type) : Sem (Nat × Nat)).run P Γ.w = .ok (g.offset, ((P.info? g.type).map (·.size)).getD 0) Γ.w := fun g hgm => by
      obtain ⟨i, hi⟩ := hti.flds gs hg g hgm
      simp [sizeOf, typeInfo, hi]
    have hpl := run_mapM_array (P := P) (w := Γ.w) gs hsz
    obtain ⟨ds, hds, hrel⟩ := fill_sound (Γ := Γ) (place := fun i => (gs.map fun g => (g.offset, ((P.info? g.type).map (·.size)).getD 0))[i]?) (fun i p hp => by
      cases hi : fs[i]? with
      | none => rw [hi] at hp; cases hp
      | some q =>
        obtain ⟨off, ft⟩ := q
        rw [hi] at hp
        dsimp only at hp
        cases hft : look C.tab ft with
        | none => rw [hft] at hp; cases hp
        | some fi =>
          rw [hft] at hp
          injection hp with hp; subst hp
          obtain ⟨i', e1, e2, _⟩ := (hT _ _ hft).info
          rw [← hfs, List.getElem?_map] at hi
          cases hg2 : gs.toList[i]? with
          | none => rw [hg2] at hi; cases hi
          | some g =>
            rw [hg2] at hi
            injection hi with hi; injection hi with a1 a2
            rw [Array.getElem?_map, ← Array.getElem?_toList, hg2]
            simp [a1, a2, e1, e2]) _ _ zr ys z.cells hf p1 p2 (.of_zero hz2)
    refine ⟨.v (.agg (nilzL (C.nb f t) ys)), .agg ds, ?_, nilzL_agg hrel.agg, e.symm⟩
    unfold execOp
    rw [ho]
    dsimp only
    have hb : (Instr.build t (parts.map fun (i, x) => (i, a.eval x))).run P Γ.w = .ok (.agg ds) Γ.w := by
      unfold Instr.build
      simp only [Sem.run_bind, hz, Result.andThen_ok, run_underlying hg, hpl, hds, Sem.run_pure]
    rw [Sem.run_bind, hb]
    rfl
  · cases h
/- Operations that make objects or write them. -/
variable {P : Program} {C : Cfg} {Γ : Ctx} {t : Nat} {ti : TI} {base n0 f : Nat} {β : Nat → Nat} {s s' : St} {a : Act} {o : Oper} {K : Callee}
/-- What an operation leaves that makes or writes objects, and nothing of the activation's own but the slot it writes. -/
def HeapPost (base : Nat) (Γ : Ctx) (β : Nat → Nat) (s : St) (d : Option Tmp) (s' : St) (v : Value) (w' : World) : Prop :=
  ∃ Γ' x, Γ'.w = w' ∧ Ext s.lo (fun _ => False) Γ Γ' ∧ Inv base Γ' ∧ RelX Γ' β x v ∧ s' = ({ s with heap := Γ'.H } : St).put d x
/-- It yields a value, or nothing. -/
def Runs (P : Program) (o : Oper) (a : Act) (w w' : World) (v : Value) : Prop :=
  (execOp a.eval o).run P w = .ok (.value v) w' ∨ ((execOp a.eval o).run P w = .ok .skip w' ∧ v = undef)
theorem PureOk.post (R : RelS base n0 Γ β s a) (h : PureOk P Γ β s a o s') : ∃ v w', Runs P o a Γ.w w' v ∧ HeapPost base Γ β s o.dst s' v w' := by
  obtain ⟨x, v, h1, h2, h3⟩ := h
  refine ⟨v, Γ.w, .inl h1, Γ, x, rfl, Ext.refl _ _ _, R.inv, h2, ?_⟩
  rw [h3, R.heap]
theorem put_heap (s : St) (d : Option Tmp) (x : Slot) (h : Heap) : { s.put d x with heap := h } = ({ s with heap := h } : St).put d x := by
  cases d <;> rfl
theorem push_post (R : RelS base n0 Γ β s a) {ob : HObj} {o' : Obj} (hob : ObjOk Γ ob o') {x : Slot} {v : Value} {d : Option Tmp} (hx : RelX (Γ.push ob o') β x v) (e : s' = ({ s with heap := s.heap ++ [ob] } : St).put d x) :
    HeapPost base Γ β s d s' v (Γ.w.alloc o') := by
  refine ⟨Γ.push ob o', x, rfl, Ext.push _ _ _, R.inv.push hob (Nat.le_trans R.sz.1 R.sz.2), hx, ?_⟩
  rw [e, ← R.heap]
  rfl
theorem push_self {ob : HObj} {o' : Obj} : (Γ.push ob o').H[Γ.H.length]? = some ob ∧ (Γ.push ob o').ρ Γ.H.length = some Γ.w.heap.size := by
  simp [Ctx.push]
theorem hp_new {T : Nat} {xs : List AV} {o' : Obj} : RelV (Γ.push (.cells T xs) o') (.hp Γ.H.length xs.length 0) (.pointer (some ⟨Γ.w.heap.size, 0, none⟩)) := by
  refine .hp (by simp [Ctx.push]) ⟨_, rfl⟩ fun T2 ys hy => ?_
  rw [push_self.1] at hy
  injection hy with hy; injection hy with _ hy; subst hy
  exact ⟨Nat.le_refl _, fun _ => ⟨_, push_self.2, rfl⟩⟩
theorem sl_new {T sz len c : Nat} {xs : List AV} {arr : Array Value} (hl : xs.length = len * sz) (hc : len ≤ c) (ha : c * sz ≤ arr.size) :
    RelV (Γ.push (.cells T xs) (.cells arr T (0, 0))) (.sl Γ.H.length sz 0 len) (.slice (some ⟨Γ.w.heap.size, 0, none⟩) len c) := by
  refine .sl (by simp [Ctx.push]) ⟨_, _, rfl⟩ fun T2 ys hy => ?_
  rw [push_self.1] at hy
  injection hy with hy; injection hy with _ hy; subst hy
  exact ⟨by omega, fun _ => ⟨_, c, arr, T, (0, 0), push_self.2, rfl, hc, heap_push_new _ _, by omega⟩⟩
theorem post_alloc (hT : TabOk P C.tab) (R : RelS base n0 Γ β s a) {t : TypeId} (ho : o.op = .alloc t) {d : Tmp} (hd : o.dst = some d) (hesc : d ∈ C.esc f) (h : oper C K f o s = some s') :
    ∃ v w', Runs P o a Γ.w w' v ∧ HeapPost base Γ β s o.dst s' v w' := by
  unfold oper at h
  rw [ho, hd] at h
  dsimp only at h
  split at h
  · rename_i ti d' ht hd'
    injection hd' with hd'; subst hd'
    rw [if_pos hesc] at h
    injection h with h
    obtain ⟨z, hz, h1, h2, h3⟩ := (hT _ _ ht).run_zero Γ.w
    have hc : RelC Γ ti.zero z.cells := .of_zero h2
    have hlen : ti.zero.length = ti.sz := by have := hc.1; omega
    refine ⟨.pointer (some ⟨Γ.w.heap.size, 0, none⟩), Γ.w.alloc (.cells z.cells t (0, 0)), .inl ?_, push_post R (ob := .cells t ti.zero) ⟨_, rfl, Nat.le_of_eq hc.1.symm, hc.2.1, hc.2.2⟩ (x := .v (.hp Γ.H.length ti.zero.length 0)) hp_new ?_⟩
    · unfold execOp
      rw [ho]
      dsimp only
      have : (Instr.alloc t true (.tuple #[])).run P Γ.w = .ok (.pointer (some ⟨Γ.w.heap.size, 0, none⟩)) (Γ.w.alloc (.cells z.cells t (0, 0))) := by
        unfold Instr.alloc
        simp only [Sem.run_bind, hz, Result.andThen_ok]
        rfl
      rw [Sem.run_bind, this]
      rfl
    · rw [← h, hd, hlen, R.heap]; rfl
  · cases h
theorem post_box (R : RelS base n0 Γ β s a) {t : TypeId} {x : Operand} (ho : o.op = .box t x) {d : Tmp} (hd : o.dst = some d) (hesc : d ∈ C.esc f) (h : oper C K f o s = some s') :
    ∃ v w', Runs P o a Γ.w w' v ∧ HeapPost base Γ β s o.dst s' v w' := by
  unfold oper at h
  rw [ho, hd] at h
  dsimp only at h
  split at h
  · rename_i d' ys hd' hx
    injection hd' with hd'; subst hd'
    rw [if_pos hesc] at h
    injection h with h
    obtain ⟨v, hv, hc⟩ := Option.bind_eq_some_iff.1 hx
    obtain ⟨c1, c2, c3⟩ := cells_rel (R.val hv) hc
    refine ⟨.pointer (some ⟨Γ.w.heap.size, 0, none⟩), Γ.w.alloc (.cells (a.eval x).cells t (0, 0)), .inl ?_, push_post R (ob := .cells t ys) ⟨_, rfl, Nat.le_of_eq c1.symm, c2, c3⟩ (x := .v (.hp Γ.H.length ys.length 0)) hp_new ?_⟩
    · unfold execOp
      rw [ho]
      rfl
    · rw [← h, hd, R.heap]; rfl
  · cases h
theorem post_buildSlice (hT : TabOk P C.tab) (R : RelS base n0 Γ β s a) {t : TypeId} {len : Nat} {parts : Array (Nat × Operand)} (ho : o.op = .buildSlice t len parts) (h : oper C K f o s = some s') :
    ∃ v w', Runs P o a Γ.w w' v ∧ HeapPost base Γ β s o.dst s' v w' := by
  unfold oper at h
  rw [ho] at h
  dsimp only at h
  split at h
  · rename_i e sz0 by_ zr vs ht hv
    split at h
    · rename_i ti he
      split at h
      · rename_i hle
        split at h
        case h_2 => cases h
        rename_i cs hf
        obtain ⟨p1, p2⟩ := vals_parts R hv
        obtain ⟨z, hz, h1, h2, h3⟩ := (hT _ _ he).run_zero Γ.w
        have hc : RelC Γ ti.zero z.cells := .of_zero h2
        have hlen : ti.zero.length = ti.sz := by have := hc.1; omega
        have hrep := hc.rep (by omega) len
        rw [hlen] at hrep
        obtain ⟨ds, hds, hrel⟩ := fill_sound (Γ := Γ) (fun i p hp => hp) _ _ _ cs _ hf p1 p2 hrep
        have hcs : cs.length = len * ti.sz := by
          have := fillA_length hf
          simp [hlen] at this
          exact this
        have hpost : HeapPost base Γ β s o.dst s' (.slice (some ⟨Γ.w.heap.size, 0, none⟩) len len) (Γ.w.alloc (.cells ds e (0, 0))) := by
          split at h
          · split at h
            · rename_i hst
              injection h with h
              refine ⟨Γ.stay (.cells ds e (0, 0)), .v (.vs ti.sz (chunks ti.sz len cs)), rfl, stay_ext _ _, stay_inv R.inv _, .vs ?_, ?_⟩
              · have hx := stay_ext (Γ := Γ) Γ.H.length (.cells ds e (0, 0))
                have := relT_chunks (S := (Γ.stay (.cells ds e (0, 0))).S) (w := (Γ.stay (.cells ds e (0, 0))).w) (b := Γ.w.heap.size) (off := 0) (len := len) (sz := ti.sz) (c := len) (xs := cs) (heap_push_new Γ.w _) (.inr rfl) (Nat.le_of_eq hrel.1.symm) hrel.2.1
                  (fun i x hi => RelV.toT (Γ := Γ.stay (.cells ds e (0, 0))) ((hrel.2.2 i x hi).ext hx R.inv (fun _ _ h => h)) (all_static hst (List.mem_of_getElem? hi))) (by omega) (Nat.le_refl _)
                rw [List.drop_zero] at this
                exact this
              · rw [← h]
                show s.putv o.dst _ = ({ s with heap := Γ.H } : St).put o.dst _
                rw [R.heap]; rfl
            · cases h
          · injection h with h
            refine push_post R (ob := .cells e cs) ⟨_, rfl, Nat.le_of_eq hrel.1.symm, hrel.2.1, hrel.2.2⟩ (x := .v (.sl Γ.H.length ti.sz 0 len)) (sl_new hcs (Nat.le_refl _) (by have := hrel.1; omega)) ?_
            rw [← h, R.heap]; exact put_heap _ _ _ _
        refine ⟨.slice (some ⟨Γ.w.heap.size, 0, none⟩) len len, Γ.w.alloc (.cells ds e (0, 0)), .inl ?_, hpost⟩
        · unfold execOp
          rw [ho]
          dsimp only
          have hb : (Instr.buildSlice t len (parts.map fun (i, x) => (i, a.eval x))).run P Γ.w = .ok (.slice (some ⟨Γ.w.heap.size, 0, none⟩) len len) (Γ.w.alloc (.cells ds e (0, 0))) := by
            unfold Instr.buildSlice
            have hn : ¬ len * ti.sz > 2 ^ 24 := by omega
            simp only [Sem.run_bind, run_underlying ((hT _ _ ht).slice rfl), Result.andThen_ok, (hT _ _ he).run_size, if_neg hn, Sem.run_pure]
            by_cases h0 : len * ti.sz = 0
            · have hl0 : len = 0 := by
                rcases Nat.eq_zero_or_pos len with h' | h'
                · exact h'
                · have := Nat.mul_pos h' hle.2; omega
              subst hl0
              simp only [h0, if_true, pure_bind]
              have e2 : (Array.range 0).map (fun x => (#[] : Array Value)[x % (#[] : Array Value).size]!) = (Array.range 0).map (fun x => z.cells[x % z.cells.size]!) := by simp
              rw [e2]
              rw [h0] at hds
              rw [hds]
              rfl
            · simp only [if_neg h0, Sem.run_bind, hz, Result.andThen_ok, Sem.run_pure, hds]
              rfl
          rw [Sem.run_bind, hb]
          rfl
      · cases h
    · cases h
  · cases h
/- Maps made and written; objects written. -/
variable {P : Program} {C : Cfg} {Γ : Ctx} {t : Nat} {ti : TI} {base n0 f : Nat} {β : Nat → Nat} {s s' : St} {a : Act} {o : Oper} {K : Callee}
theorem post_makeMap (R : RelS base n0 Γ β s a) {t : TypeId} (ho : o.op = .makeMap t none) (h : oper C K f o s = some s') :
    ∃ v w', Runs P o a Γ.w w' v ∧ HeapPost base Γ β s o.dst s' v w' := by
  unfold oper at h
  rw [ho] at h
  dsimp only at h
  injection h with h
  refine ⟨.map (some Γ.w.heap.size), Γ.w.alloc (.map #[] 0), .inl ?_, push_post R (ob := .map []) ⟨_, _, rfl, rfl, fun i e he => by simp at he, by simp, by simp⟩ (x := .v (.mp Γ.H.length)) ?_ ?_⟩
  · unfold execOp
    rw [ho]
    rfl
  · exact RelV.mp (by simp [Ctx.push]) ⟨_, rfl⟩ fun es hy => ⟨_, push_self.2, rfl⟩
  · rw [← h, R.heap]; exact put_heap _ _ _ _
theorem upd_post {x : Slot} {v : Value} {d : Option Tmp} {id b : Nat} {ob : HObj} {o' : Obj} (R : RelS base n0 Γ β s a) (hρ : Γ.ρ id = some b) (e : Ext s.lo (fun _ => False) Γ (Γ.upd id b ob o')) (hob : ObjOk Γ ob o')
    (hx : RelX (Γ.upd id b ob o') β x v) (e' : s' = ({ s with heap := s.heap.set id ob } : St).put d x) : HeapPost base Γ β s d s' v { Γ.w with heap := Γ.w.heap.setIfInBounds b o' } := by
  refine ⟨Γ.upd id b ob o', x, rfl, e, R.inv.upd hρ e hob, hx, ?_⟩
  rw [e', ← R.heap]
  rfl
theorem post_store (hT : TabOk P C.tab) (R : RelS base n0 Γ β s a) {t : TypeId} {x y : Operand} (ho : o.op = .store t x y) (hnl : ∀ d off, s.slot x ≠ some (.p d off)) (h : oper C K f o s = some s') :
    ∃ v w', Runs P o a Γ.w w' v ∧ HeapPost base Γ β s o.dst s' v w' := by
  unfold oper at h
  rw [ho] at h
  dsimp only at h
  split at h
  · rename_i hx _
    exact absurd hx (hnl _ _)
  · rename_i ti id n off ys ht hx hy
    split at h
    · rename_i e xs hH
      split at h
      · rename_i hc
        obtain ⟨c1, c2, c3, c4⟩ := hc
        injection h with h
        rw [← R.heap] at hH
        obtain ⟨b, hb, hv⟩ := hp_ptr (R.slot hx) hH c2
        obtain ⟨arr, h1, h2, h3, h4⟩ := R.inv.cells id b e xs hb hH
        obtain ⟨yv, hyv, hyc⟩ := Option.bind_eq_some_iff.1 hy
        have hr := R.val hyv
        have hfit : off + ys.length ≤ xs.length := by omega
        obtain ⟨q1, q2, q3⟩ := cells_rel hr hyc
        have hsz : (arr.toList.take off ++ (a.eval y).cells.toList ++ arr.toList.drop (off + ys.length)).toArray.size = arr.size := by
          have : (a.eval y).cells.toList.length = ys.length := by simpa using q1
          simp [q1]; omega
        have hst := store_sound (w := Γ.w) (off := off) (hT _ _ ht) h1 hr hyc c3 (by omega)
        refine ⟨undef, _, .inr ⟨?_, rfl⟩, upd_post R hb (Ext.updCells R.inv c1 hb hH h1 hsz (Nat.le_of_eq (setCells_length _ _ _ hfit).symm)) ⟨_, rfl, ?_, fun z hz => ?_, fun i z hz => ?_⟩ (x := .v (.tup [])) (RelV.tup rfl (by simp)) h.symm⟩
        · unfold execOp
          rw [ho]
          dsimp only
          rw [hv]
          have : (Instr.storeAt t (.pointer (some ⟨b, off, none⟩)) (a.eval y)) = storeVar t ⟨b, off, none⟩ (a.eval y) := by
            unfold Instr.storeAt Instr.sureAddr
            rw [pure_bind]
          rw [this, Sem.run_bind, hst]
          rfl
        · rw [setCells_length _ _ _ hfit, hsz]; exact h2
        · rcases setCells_mem hz with hz | hz
          · exact h3 z hz
          · exact q2 z hz
        · exact splice_rel hr hyc hfit h2 h4 i z hz
      · cases h
    · cases h
  · cases h
theorem sameBits_of {kk : TK} {d : TypeDesc} (hk : keyDesc kk d) {v u : Value} (h : Instr.sameNow d v u = some true) (n : Nat) : Instr.sameBits (n + 1) u v = true := by
  cases kk <;> simp only [keyDesc] at hk <;> subst hk
  · cases v <;> cases u <;> simp only [Instr.sameNow] at h <;> first | (cases h; done) | skip
    split at h
    · rename_i e; subst e
      injection h with h
      simp [Instr.sameBits] at h ⊢
      exact h.symm
    · cases h
  · cases v <;> cases u <;> simp only [Instr.sameNow] at h <;> first | (cases h; done) | skip
    injection h with h
    simp [Instr.sameBits] at h ⊢
    exact h.symm
  · cases v <;> cases u <;> simp only [Instr.sameNow] at h <;> first | (cases h; done) | skip
    injection h with h
    simp only [Instr.sameBits]
    rw [beq_toListBytes, beq_iff_eq] at h ⊢
    exact h.symm
theorem mapPut_sound {kk : TK} {d : TypeDesc} (hk : keyDesc kk d) {x y : AV} {v u : Value} (hx : RelV Γ x v) (hy : RelV Γ y u) : ∀ {l l' : List (AV × AV)} {ms : List MapEntry} (i : Nat), RelMs Γ l ms → mapPut kk l x y = some l' →
    (∃ q m, Instr.findNow d v ms i = some (some (i + q, m.val)) ∧ ms[q]? = some m ∧ Instr.sameNow d v m.key = some true ∧ RelMs Γ l' (ms.modify q fun e => { e with key := v, val := u })) ∨
    (Instr.findNow d v ms i = some none ∧ ∀ c, RelMs Γ l' (ms ++ [{ key := v, val := u, born := c }]))
  | [], l', _, i, .nil, h => by
    injection h with h; subst h
    exact .inr ⟨rfl, fun c => .cons hx hy .nil⟩
  | (k, z) :: l, l', m :: ms, i, .cons h1 h2 h3, h => by
    unfold mapPut at h
    split at h
    · rename_i e
      injection h with h; subst h
      have hs := sameNow_sound hk e hx h1
      exact .inl ⟨0, m, by simp only [Instr.findNow, hs, Nat.add_zero], rfl, hs, .cons hx hy h3⟩
    · rename_i e
      simp only [Option.map_eq_some_iff] at h
      obtain ⟨l2, hl2, rfl⟩ := h
      have hs := sameNow_sound hk e hx h1
      rcases mapPut_sound hk hx hy (i + 1) h3 hl2 with ⟨q, m', a1, a2, a3, a4⟩ | ⟨a1, a2⟩
      · refine .inl ⟨q + 1, m', ?_, by simpa using a2, a3, ?_⟩
        · simp only [Instr.findNow, hs, a1]
          rw [show i + 1 + q = i + (q + 1) by omega]
        · rw [List.modify_succ_cons]
          exact .cons h1 h2 a4
      · exact .inr ⟨by simp only [Instr.findNow, hs, a1], fun c => .cons h1 h2 (a2 c)⟩
    · cases h
theorem RelMs.to_array {l : List (AV × AV)} {ms : List MapEntry} (h : RelMs Γ l ms) : ms.length = l.length ∧ ∀ (i : Nat) (e : AV × AV), l[i]? = some e → ∃ m : MapEntry, ms[i]? = some m ∧ RelV Γ e.1 m.key ∧ RelV Γ e.2 m.val := by
  induction h with
  | nil => exact ⟨rfl, fun i e he => by simp at he⟩
  | cons hk hv _ ih =>
    refine ⟨by simp [ih.1], fun i e he => ?_⟩
    cases i with
    | zero => simp at he; subst he; exact ⟨_, rfl, hk, hv⟩
    | succ i => simpa using ih.2 i e (by simpa using he)
theorem map_modify (f : MapEntry → MapEntry) (hf : ∀ e, (f e).born = e.born) : ∀ (l : List MapEntry) (q : Nat), (l.modify q f).map (·.born) = l.map (·.born)
  | [], q => by cases q <;> rfl
  | e :: l, 0 => by simp [hf]
  | e :: l, q + 1 => by
    rw [List.modify_succ_cons, List.map_cons, List.map_cons, map_modify f hf l q]
theorem Born.modify {ms : Array MapEntry} {cl : Nat} (h : Born ms cl) (q : Nat) (k u : Value) : Born (ms.modify q fun e => { e with key := k, val := u }) cl := by
  have e : (ms.modify q fun e => { e with key := k, val := u }).toList.map (·.born) = ms.toList.map (·.born) := by
    rw [Array.toList_modify]
    exact map_modify (fun e => { e with key := k, val := u }) (fun _ => rfl) _ _
  refine ⟨fun x hx => ?_, by rw [e]; exact h.2⟩
  have hm : x.born ∈ (ms.modify q fun e => { e with key := k, val := u }).toList.map (·.born) := List.mem_map.2 ⟨x, hx, rfl⟩
  rw [e] at hm
  obtain ⟨y, hy, hyb⟩ := List.mem_map.1 hm
  rw [← hyb]
  exact h.1 y hy
theorem Born.push {ms : Array MapEntry} {cl : Nat} (h : Born ms cl) (k u : Value) : Born (ms.push { key := k, val := u, born := cl }) (cl + 1) := by
  refine ⟨fun x hx => ?_, ?_⟩
  · simp only [Array.toList_push, List.mem_append, List.mem_singleton] at hx
    rcases hx with hx | rfl
    · have := h.1 x hx; omega
    · exact Nat.lt_succ_self _
  · simp only [Array.toList_push, List.map_append, List.map_cons, List.map_nil]
    rw [List.nodup_append]
    refine ⟨h.2, by simp, fun a ha b hb => ?_⟩
    obtain ⟨y, hy, rfl⟩ := List.mem_map.1 ha
    simp at hb
    subst hb
    have := h.1 y hy
    omega
/-- A map is written: the block, told. -/
theorem run_mapUpdate (hT : TabOk P C.tab) (R : RelS base n0 Γ β s a) {t : TypeId} {m k x : Operand} {id b kt e sz by_ : Nat} {zr : List AV} {kk : TK} {kv xv : AV} {es es' : List (AV × AV)} {ms : Array MapEntry} {cl : Nat}
    (ht : look C.tab t = some { kind := .map kt e, sz := sz, bytes := by_, zero := zr }) (hm : s.val m = some (.mp id)) (hk : s.val k = some kv) (hx : s.val x = some xv) (hkk : keyKind C.tab kt kv = some kk) (hp : mapPut kk es kv xv = some es')
    (hb : Γ.ρ id = some b) (hH : Γ.H[id]? = some (.map es)) (h1 : Γ.w.heap[b]? = some (.map ms cl)) (h2 : ms.size = es.length) (h3 : ∀ (i : Nat) (e : AV × AV), es[i]? = some e → ∃ m : MapEntry, ms[i]? = some m ∧ RelV Γ e.1 m.key ∧ RelV Γ e.2 m.val) (h4 : Born ms cl) :
    ∃ (ms' : Array MapEntry) (cl' : Nat), RelMs Γ es' ms'.toList ∧ Born ms' cl' ∧ (Instr.mapUpdate t (a.eval m) (a.eval k) (a.eval x)).run P Γ.w = .ok () { Γ.w with heap := Γ.w.heap.setIfInBounds b (.map ms' cl') } := by
  have hmv : a.eval m = .map (some b) := by
    obtain ⟨b', q1, q2⟩ := mp_map (R.val hm) hH
    rw [hb] at q1; injection q1 with q1; subst q1; exact q2
  obtain ⟨d, hd, hkd⟩ := keyKind_desc hT hkk
  have hMs : RelMs Γ es ms.toList := RelMs.of_array (by simpa using h2) (fun i e he => by
    obtain ⟨m, a1, a2⟩ := h3 i e he
    exact ⟨m, by rw [Array.getElem?_toList]; exact a1, a2⟩)
  have hu : P.underlying t = some (.map kt e) := (hT _ _ ht).map rfl
  have hset : ∀ (w : World) (o' : Obj), w.heap[b]? = some (.map ms cl) → (setObj b o').run P w = .ok () { w with heap := w.heap.setIfInBounds b o' } := fun w o' hw => by
    simp only [setObj, Sem.run, hw]
  have pre : ∀ (r : Option (Nat × Value)), Instr.findNow d (a.eval k) ms.toList 0 = some r → (Instr.mapUpdate t (a.eval m) (a.eval k) (a.eval x)).run P Γ.w =
      (match r with
        | some (i, _) => do
          let key ← Instr.keyThatStays (((ms[i]?).map (·.key)).getD (a.eval k)) (a.eval k)
          setObj b (.map (ms.modify i fun e => { e with key, val := a.eval x }) cl)
        | none => setObj b (.map (ms.push { key := a.eval k, val := a.eval x, born := cl }) (cl + 1)) : Sem Unit).run P Γ.w := by
    intro r hr
    rw [hmv]
    unfold Instr.mapUpdate
    have hg : (getObj b).run P Γ.w = .ok (.map ms cl) Γ.w := by
      simp only [getObj, Sem.run, h1]
    simp only [Sem.run_bind, run_underlying hu, Result.andThen_ok, hg]
    rw [show (10000 : Nat) = 9999 + 1 from rfl, run_checkKey hd hkd]
    simp only [Result.andThen_ok, Instr.findKey, Sem.run_bind, run_underlying hd, hr, Sem.run_pure]
    cases r with
    | none => rfl
    | some p => rfl
  rcases mapPut_sound hkd (R.val hk) (R.val hx) 0 hMs hp with ⟨q, m', a1, a2, a3, a4⟩ | ⟨a1, a2⟩
  · refine ⟨ms.modify q fun e => { e with key := a.eval k, val := a.eval x }, cl, by simpa using a4, h4.modify _ _ _, ?_⟩
    rw [Nat.zero_add] at a1
    rw [pre _ a1]
    have hq : ms[q]? = some m' := by rw [← Array.getElem?_toList]; exact a2
    have hst : (Instr.keyThatStays (((ms[q]?).map (·.key)).getD (a.eval k)) (a.eval k)).run P Γ.w = .ok (a.eval k) Γ.w := by
      rw [hq]
      unfold Instr.keyThatStays
      simp only [Option.map_some, Option.getD_some]
      rw [show (10000 : Nat) = 9999 + 1 from rfl, sameBits_of hkd a3]
      rfl
    simp only [Sem.run_bind, hst, Result.andThen_ok]
    exact hset _ _ h1
  · refine ⟨ms.push { key := a.eval k, val := a.eval x, born := cl }, cl + 1, by simpa using a2 cl, h4.push _ _, ?_⟩
    rw [pre _ a1]
    exact hset _ _ h1
theorem post_mapUpdate (hT : TabOk P C.tab) (R : RelS base n0 Γ β s a) {t : TypeId} {m k x : Operand} (ho : o.op = .mapUpdate t m k x) (h : oper C K f o s = some s') :
    ∃ v w', Runs P o a Γ.w w' v ∧ HeapPost base Γ β s o.dst s' v w' := by
  unfold oper at h
  rw [ho] at h
  dsimp only at h
  split at h
  · rename_i id kv xv kt e sz by_ zr hm hk hx ht
    split at h
    · rename_i es hH
      split at h
      · rename_i kk hkk
        split at h
        · rename_i hlo
          simp only [Option.map_eq_some_iff] at h
          obtain ⟨es', hp, e'⟩ := h
          rw [← R.heap] at hH
          obtain ⟨b, hb, _⟩ := mp_map (R.val hm) hH
          obtain ⟨ms, cl, h1, h2, h3, h4⟩ := R.inv.map id b es hb hH
          obtain ⟨ms', cl', hr, hbn, hrun⟩ := run_mapUpdate (s := s) hT R ht hm hk hx hkk hp hb hH h1 h2 h3 h4
          obtain ⟨r1, r2⟩ := hr.to_array
          refine ⟨undef, _, .inr ⟨?_, rfl⟩, upd_post R hb (Ext.updMap R.inv (es' := es') (ms' := ms') (cl' := cl') hlo hb hH h1) ⟨ms', cl', rfl, by simpa using r1, fun i e he => ?_, hbn⟩ (x := .v (.tup [])) (RelV.tup rfl (by simp)) e'.symm⟩
          · unfold execOp
            rw [ho]
            dsimp only
            rw [Sem.run_bind, hrun]
            rfl
          · obtain ⟨m', q1, q2⟩ := r2 i e he
            exact ⟨m', by rw [← Array.getElem?_toList]; exact q1, q2⟩
        · cases h
      · cases h
    · cases h
  · cases h
/- append. -/
variable {P : Program} {C : Cfg} {Γ : Ctx} {t : Nat} {ti : TI} {base n0 f : Nat} {β : Nat → Nat} {s s' : St} {a : Act} {o : Oper} {K : Callee}
theorem lenOf_sound {x : AV} {v : Value} {m : Nat} (h : lenOf x = some m) (hr : RelV Γ x v) (w : World) (hs : ∀ b, x ≠ .str b) : (Builtin.lenOf v).run P w = .ok m w := by
  cases hr <;> simp only [lenOf] at h <;> first | (cases h; done) | skip
  · exact absurd rfl (hs _)
  · injection h with h; subst h; rfl
  · rename_i hh h1 hin; obtain ⟨ad, c, rfl⟩ := h1; injection h with h; subst h; rfl
  · rename_i hT
    cases hT with
    | vs g hn hc hsz hA hmem hrel => injection h with h; subst h; subst hn; rfl
theorem flatten_get {α : Type} {sz : Nat} : ∀ (xs : List (List α)), (∀ r, r ∈ xs → r.length = sz) → ∀ k, 0 < sz → xs.flatten[k]? = (xs[k / sz]?).bind (·[k % sz]?)
  | [], _, k, _ => by simp
  | r :: xs, h, k, h0 => by
    have hr := h r (List.mem_cons_self ..)
    rw [List.flatten_cons]
    rcases Nat.lt_or_ge k sz with h1 | h1
    · rw [List.getElem?_append_left (by omega), Nat.div_eq_of_lt h1, Nat.mod_eq_of_lt h1]
      rfl
    · rw [List.getElem?_append_right (by omega), hr, flatten_get xs (fun r hr => h r (List.mem_cons_of_mem _ hr)) (k - sz) h0]
      have e1 : k / sz = (k - sz) / sz + 1 := by
        rw [Nat.div_eq_sub_div h0 h1]
      have e2 : k % sz = (k - sz) % sz := Nat.mod_eq_sub_mod h1
      rw [e1, e2]
      rfl
theorem flatten_len {α : Type} {sz : Nat} : ∀ (xs : List (List α)), (∀ r, r ∈ xs → r.length = sz) → xs.flatten.length = xs.length * sz
  | [], _ => by simp
  | r :: xs, h => by
    rw [List.flatten_cons, List.length_append, flatten_len xs (fun r hr => h r (List.mem_cons_of_mem _ hr)), h r (List.mem_cons_self ..), List.length_cons, Nat.succ_mul]
    omega
/-- The cells that a value of append's second argument yields. -/
theorem src_sound {u e' : TypeId} (hu : P.underlying u = some (.slice e')) (I : Inv base Γ) {sz m : Nat} {x : AV} {v : Value} {ys : List AV} (h : rowOf Γ.H sz x = some ys) (hl : lenOf x = some m) (hr : RelV Γ x v) (h0 : 0 < sz) :
    ∃ news : List Value, Src P sz u v m news Γ.w ∧ RelC Γ ys news.toArray := by
  unfold rowOf at h
  split at h
  · injection h with h; subst h
    injection hl with hl; subst hl
    cases hr
    exact ⟨[], Src.ofNil Γ.w hu 0, rfl, by simp, by simp⟩
  · rename_i sz' xs
    split at h
    · rename_i hc
      injection h with h; subst h
      injection hl with hl; subst hl
      cases hr with
      | vs hT => cases hT with
       | vs g hn hc' hsz hA hmem hrel =>
        rename_i A n c
        subst hn
        by_cases hx : xs = []
        · subst hx
          cases A with
          | none => exact ⟨[], Src.ofNil Γ.w hu c, rfl, by simp, by simp⟩
          | some ad => exact ⟨[], Src.ofSlice Γ.w hu ad 0 c [] (by simp) (by simp) (by simp), rfl, by simp, by simp⟩
        · have hz : sz' = sz := hc.resolve_right hx
          subst hz
          obtain ⟨ad, rfl⟩ := hA (by
            rcases xs with _ | ⟨r, l⟩
            · exact absurd rfl hx
            · simp)
          have hfl := flatten_len xs (fun r hr => (hsz r hr).1)
          have hget : ∀ k y, xs.flatten[k]? = some y → ∃ r, xs[k / sz']? = some r ∧ r[k % sz']? = some y := fun k y hk => by
            rw [flatten_get xs (fun r hr => (hsz r hr).1) k h0] at hk
            obtain ⟨r, h1, h2⟩ := Option.bind_eq_some_iff.1 hk
            exact ⟨r, h1, h2⟩
          have hone : ∀ x, x ∈ xs.flatten → oneCell x = true := fun x hx => by
            obtain ⟨r, h1, h2⟩ := List.mem_flatten.1 hx
            exact (hsz r h1).2 x h2
          refine ⟨(List.range (xs.length * sz')).map fun k => g (k / sz') (k % sz'), Src.ofSlice Γ.w hu ad xs.length c _ (by simp) (fun j u hj => ?_) (fun u hu => ?_), by simp [hfl], hone, fun i x hi => ?_⟩
          · have hlt : j < xs.length * sz' := by
              rcases Nat.lt_or_ge j (xs.length * sz') with h' | h'
              · exact h'
              · rw [List.getElem?_eq_none (by simpa using h')] at hj; cases hj
            simp [hlt] at hj
            subst hj
            have h1 := (hmem ad rfl (j / sz') (j % sz') ((Nat.div_lt_iff_lt_mul h0).2 hlt) (Nat.mod_lt _ h0)).1
            rw [Nat.mul_comm, Nat.div_add_mod] at h1
            exact h1
          · obtain ⟨k, hk, rfl⟩ := List.mem_map.1 hu
            have hlt : k < xs.flatten.length := by rw [hfl]; simpa using hk
            obtain ⟨r, h1, h2⟩ := hget k _ (List.getElem?_eq_getElem hlt)
            exact (hrel _ _ _ _ h1 h2).toV.oneCell (hone _ (List.getElem_mem hlt))
          · obtain ⟨r, h1, h2⟩ := hget i x hi
            have hlt : i < xs.length * sz' := by
              rcases Nat.lt_or_ge i xs.flatten.length with h' | h'
              · omega
              · rw [List.getElem?_eq_none h'] at hi; cases hi
            have := (hrel _ _ _ _ h1 h2).toV
            simpa [Array.getD_eq_getD_getElem?, hlt] using this
    · cases h
  · rename_i id sz' off len
    split at h
    · rename_i T xs hx
      split at h
      · rename_i hc
        obtain ⟨c1, c2⟩ := hc
        subst c1
        injection h with h; subst h
        injection hl with hl; subst hl
        obtain ⟨b, c, arr, T', fr, hb, hv, hle, hh, hsz⟩ := sl_slice hr hx c2
        obtain ⟨arr2, k1, k2, k3, k4⟩ := I.cells id b T xs hb hx
        rw [k1] at hh
        injection hh with hh; injection hh with e1 _ _; subst e1
        subst hv
        have hone : ∀ x, x ∈ xs.drop off → oneCell x = true := fun x hx => k3 x (List.mem_of_mem_drop hx)
        refine ⟨((arr2.toList.drop off).take (len * sz')), Src.ofSlice Γ.w hu _ len c _ (by simp; omega) (fun j u hj => ?_) (fun u hu => ?_), ?_, hone, fun i x hi => ?_⟩
        · have hlt : j < len * sz' := by
            rcases Nat.lt_or_ge j (len * sz') with h' | h'
            · exact h'
            · rw [List.getElem?_take_eq_none h'] at hj; cases hj
          rw [List.getElem?_take_of_lt hlt, List.getElem?_drop] at hj
          rw [add_off]
          unfold World.cell?
          simp only [k1]
          rw [← Array.getElem?_toList]
          simpa using hj
        · obtain ⟨k, hk, rfl⟩ := List.mem_iff_getElem.1 hu
          have hk' : k < len * sz' := by simp at hk; omega
          have hlt : off + k < xs.length := by omega
          have h1 := (k4 (off + k) _ (List.getElem?_eq_getElem hlt)).oneCell (k3 _ (List.getElem_mem hlt))
          have hlt2 : off + k < arr2.size := by omega
          simpa [Array.getD_eq_getD_getElem?, hlt2] using h1
        · simp; omega
        · rw [List.getElem?_drop] at hi
          have h1 := k4 _ x hi
          have hlt : off + i < xs.length := by
            rcases Nat.lt_or_ge (off + i) xs.length with h' | h'
            · exact h'
            · rw [List.getElem?_eq_none h'] at hi; cases hi
          have e : (((arr2.toList.drop off).take (len * sz')).toArray).getD i undef = arr2.getD (off + i) undef := by
            rw [Array.getD_eq_getD_getElem?, Array.getD_eq_getD_getElem?, List.getElem?_toArray, List.getElem?_take_of_lt (by omega), List.getElem?_drop, Array.getElem?_toList]
          rw [e]; exact h1
      · cases h
    · cases h
  · cases h
theorem RelC.append {xs ys : List AV} {arr : Array Value} {news rest : List Value} (hn : xs.length ≤ arr.size) (h1 : ∀ x, x ∈ xs → oneCell x = true) (hr : ∀ (i : Nat) (x : AV), xs[i]? = some x → RelV Γ x (arr.getD i undef)) (hy : RelC Γ ys news.toArray) :
    (∀ x, x ∈ xs ++ ys → oneCell x = true) ∧ ∀ (i : Nat) (x : AV), (xs ++ ys)[i]? = some x → RelV Γ x ((arr.toList.take xs.length ++ news ++ rest).toArray.getD i undef) := by
  refine ⟨fun x hx => ?_, fun i x hi => ?_⟩
  · rcases List.mem_append.1 hx with hx | hx
    · exact h1 x hx
    · exact hy.2.1 x hx
  · have hl : (arr.toList.take xs.length).length = xs.length := by simp; omega
    have hyl : news.length = ys.length := by simpa using hy.1
    rw [Array.getD_eq_getD_getElem?, List.getElem?_toArray]
    rcases Nat.lt_or_ge i xs.length with h | h
    · rw [List.getElem?_append_left h] at hi
      rw [List.append_assoc, List.getElem?_append_left (by omega), List.getElem?_take_of_lt h, Array.getElem?_toList, ← Array.getD_eq_getD_getElem?]
      exact hr i x hi
    · rw [List.getElem?_append_right h] at hi
      have hlt : i - xs.length < ys.length := by
        rcases Nat.lt_or_ge (i - xs.length) ys.length with h' | h'
        · exact h'
        · rw [List.getElem?_eq_none h'] at hi; cases hi
      have := hy.2.2 _ x hi
      rw [List.append_assoc, List.getElem?_append_right (by omega), hl, List.getElem?_append_left (by omega)]
      rw [Array.getD_eq_getD_getElem?, List.getElem?_toArray] at this
      exact this
/-- What a builtin leaves. -/
def BiPost (base lo : Nat) (Γ : Ctx) (r : AV) (h' : Heap) (v : Value) (w' : World) : Prop :=
  ∃ Γ' : Ctx, Γ'.w = w' ∧ Γ'.H = h' ∧ Ext lo (fun _ => False) Γ Γ' ∧ Inv base Γ' ∧ RelV Γ' r v
theorem BiPost.same {lo : Nat} {r : AV} {v : Value} (I : Inv base Γ) (h : RelV Γ r v) : BiPost base lo Γ r Γ.H v Γ.w := ⟨Γ, rfl, rfl, Ext.refl _ _ _, I, h⟩
theorem grown_ge (w : World) (need old : Nat) (e : TypeId) : need ≤ grownCap w need old e := grownCap_ge w need old e
theorem append_sound (hT : TabOk P C.tab) {u e' : TypeId} (hu : P.underlying u = some (.slice e')) (I : Inv base Γ) (hb0 : base ≤ Γ.w.heap.size) {lo : Nat} {sa x r : AV} {vs vx : Value} {h' : Heap} (h : append C.tab lo Γ.H t sa x = some (r, h'))
    (rs : RelV Γ sa vs) (rx : RelV Γ x vx) (ty : TypeId) : ∃ v w', (Builtin.append_ #[t, u] ty #[vs, vx]).run P Γ.w = .ok v w' ∧ BiPost base lo Γ r h' v w' := by
  unfold append at h
  split at h
  · rename_i e sz0 by0 zr0 ht
    split at h
    · rename_i ti he
      have hti := hT _ _ he
      have hut := (hT _ _ ht).slice rfl
      obtain ⟨i, hi1, hi2, hi3, z, hz, hzs, hzm, hzh⟩ := hti.info
      split at h
      · rename_i ys m hy hm
        split at h
        · cases rs
          split at h
          · rename_i h0
            injection h with h; injection h with e1 e2; subst e1 e2
            subst h0
            have hfc : ∃ cs, (Builtin.firstCells ti.sz 0 vx).run P Γ.w = .ok cs Γ.w ∧ (Builtin.lenOf vx).run P Γ.w = .ok 0 Γ.w := by
              have hl : (Builtin.lenOf vx).run P Γ.w = .ok 0 Γ.w := lenOf_sound hm rx Γ.w (fun b e => by subst e; simp [rowOf] at hy)
              cases vx <;> first | (simp [Builtin.lenOf] at hl; done) | skip
              · rename_i s
                exact ⟨_, by simp [Builtin.firstCells]; rfl, hl⟩
              · rename_i A n c
                cases A with
                | none => exact ⟨_, run_firstCells_none _ _ _ _ _, hl⟩
                | some ad => exact ⟨_, run_firstCells_some _ ti.sz 0 ad n c [] (by simp) (by simp), hl⟩
            obtain ⟨cs, f1, f2⟩ := hfc
            refine ⟨.slice none 0 0, Γ.w, ?_, BiPost.same I .nils⟩
            rw [← hi2] at f1
            simp [Builtin.append_, run_underlying hut, run_underlying hu, sizeOf, typeInfo, hi1, f1, f2]
          · rename_i h0
            split at h
            · rename_i hc
              injection h with h; injection h with e1 e2; subst e1 e2
              obtain ⟨c1, c2, c3⟩ := hc
              obtain ⟨news, hs, hrel⟩ := src_sound hu I hy hm rx c2
              rw [← hi2] at hs
              have hyl : ys.length = m * ti.sz := by have h1 := hs.newsLen; have h2 := hrel.1; simp at h2; rw [hi2] at h1; omega
              have hcap := grown_ge Γ.w (0 + m) 0 e
              refine ⟨_, _, run_append_grow_src Γ.w t u ty e i z hut hi1 hz none 0 0 [] (run_firstCells_none _ _ _ _ _) vx m news hs (by omega) (by unfold room at c3; omega) (growslice_fits (by omega) (by unfold room at c1; rw [hi3, Nat.zero_add]; exact c1)), ?_⟩
              have hI1 := I.drawn (Γ.w.drawn + 1)
              have hrel1 : RelC { Γ with w := Γ.w.drew } ys news.toArray := ⟨hrel.1, hrel.2.1, fun i x hx => (hrel.2.2 i x hx).ext (Ext.drawn lo Γ _) I (fun _ _ e => e)⟩
              generalize hA : ((([] ++ news).toArray ++ Builtin.zeroCells z.cells (grownCap Γ.w (0 + m) 0 e - (0 + m))) : Array Value) = A
              have hA' : A = (([] : List Value) ++ news ++ (Builtin.zeroCells z.cells (grownCap Γ.w (0 + m) 0 e - (0 + m))).toList).toArray := by
                rw [← hA]; apply Array.ext'; simp
              have hsz2 : A.size = grownCap Γ.w (0 + m) 0 e * ti.sz := by
                have h1 := hs.newsLen
                rw [hi2] at h1
                rw [← hA]
                simp [size_zeroCells, hzs, h1]
                rw [← Nat.add_mul]
                congr 1
                simp at hcap
                omega
              have hap := RelC.append (Γ := { Γ with w := Γ.w.drew }) (xs := []) (arr := #[]) (rest := (Builtin.zeroCells z.cells (grownCap Γ.w (0 + m) 0 e - (0 + m))).toList) (by simp) (by simp) (by simp) hrel1
              rw [show (#[] : Array Value).toList.take ([] : List AV).length = [] from rfl, ← hA'] at hap
              refine ⟨Ctx.push { Γ with w := Γ.w.drew } (.cells e ys) (.cells A e (0, 0)), rfl, rfl, Ext.trans (Ext.drawn lo Γ _) (Ext.push lo _ _) (Nat.le_refl _) (fun _ _ _ h => h.elim), hI1.push ⟨_, rfl, ?_, hap.1, hap.2⟩ hb0, ?_⟩
              · rw [hsz2, hyl]; exact Nat.mul_le_mul_right _ (by omega)
              · have := sl_new (Γ := { Γ with w := Γ.w.drew }) (T := e) (sz := ti.sz) (len := m) (c := grownCap Γ.w (0 + m) 0 e) (xs := ys) (arr := A) hyl (by omega) (by rw [hsz2]; exact Nat.le_refl _)
                simp only [Nat.zero_add] at this ⊢
                exact this
            · cases h
        · rename_i id sz off len
          split at h
          · rename_i e2 xs hx
            split at h
            · rename_i hc
              injection h with h; injection h with e1 e2; subst e1 e2
              obtain ⟨c1, rfl, rfl, rfl, c5, c6, c7, c8⟩ := hc
              obtain ⟨news, hs, hrel⟩ := src_sound hu I hy hm rx c6
              rw [← hi2] at hs
              have hyl : ys.length = m * ti.sz := by have h1 := hs.newsLen; have h2 := hrel.1; simp at h2; rw [hi2] at h1; omega
              have hnl : news.length = m * ti.sz := by have h1 := hs.newsLen; rw [hi2] at h1; exact h1
              obtain ⟨b, c, arr, T', fr, hb, hv, hle, hh, hcs⟩ := sl_slice rs hx (by omega)
              obtain ⟨arr2, k1, k2, k3, k4⟩ := I.cells id b e2 xs hb hx
              rw [k1] at hh
              injection hh with hh; injection hh with q1 q2 q3; subst q1 q2 q3
              subst hv
              have hblt := (I.dom id b hb).2.1
              have hadd : (len + m) * ti.sz = len * ti.sz + m * ti.sz := Nat.add_mul ..
              by_cases hroom : len + m ≤ c
              · have hmul : (len + m) * ti.sz ≤ c * ti.sz := Nat.mul_le_mul_right _ hroom
                have hst := run_storeCells_at (P := P) b (len * ti.sz) e2 news 0 arr2 Γ.w k1 (by omega) hs.one
                rw [setRow_eq k1, Nat.add_zero] at hst
                have hrun : (Builtin.append_ #[t, u] ty #[.slice (some ⟨b, 0, none⟩) len c, vx]).run P Γ.w = .ok (.slice (some ⟨b, 0, none⟩) (len + m) c)
                    { Γ.w with heap := Γ.w.heap.setIfInBounds b (.cells (arr2.toList.take (len * ti.sz) ++ news ++ arr2.toList.drop (len * ti.sz + news.length)).toArray e2 (0, 0)) } := by
                  have hsl := hs.len
                  have hsc := hs.cells
                  rw [← hi2] at hst ⊢
                  simp [Builtin.append_, run_underlying hut, run_underlying hu, sizeOf, typeInfo, hi1, hsl, hroom, hsc, Addr.add_lit, hst]
                refine ⟨_, _, hrun, ?_⟩
                have hasz : (arr2.toList.take (len * ti.sz) ++ news ++ arr2.toList.drop (len * ti.sz + news.length)).toArray.size = arr2.size := by simp; omega
                have hext : Ext lo (fun _ => False) Γ (Γ.upd id b (.cells e2 (xs ++ ys)) (.cells (arr2.toList.take (len * ti.sz) ++ news ++ arr2.toList.drop (len * ti.sz + news.length)).toArray e2 (0, 0))) :=
                  Ext.updCells I c1 hb hx k1 hasz (by simp)
                have hob : RelC Γ ys news.toArray := hrel
                have hap := RelC.append (rest := arr2.toList.drop (len * ti.sz + news.length)) k2 k3 k4 hob
                rw [← c5] at hap
                refine ⟨_, rfl, rfl, hext, I.upd hb hext ⟨_, rfl, by rw [hasz]; simp; omega, hap.1, hap.2⟩, ?_⟩
                refine .sl (by simp [Ctx.upd]; exact (I.dom id b hb).1) ⟨_, _, rfl⟩ fun T zs hz => ?_
                rw [Ctx.upd, List.getElem?_set_self (I.dom id b hb).1] at hz
                injection hz with hz; injection hz with z1 z2; subst z1 z2
                refine ⟨by simp; omega, fun _ => ⟨b, c, _, e2, (0, 0), hb, rfl, hroom, heap_set_same hblt, by rw [hasz]; omega⟩⟩
              · have hg : c < len + m := by omega
                have hold : (Builtin.firstCells i.size len (.slice (some ⟨b, 0, none⟩) len c)).run P Γ.w.drew = .ok (arr2.toList.take (len * ti.sz)).toArray Γ.w.drew := by
                  refine run_firstCells_some _ i.size len _ len c _ ?_ fun j v hj => ?_
                  · rw [hi2]; simp; omega
                  · have hlt : j < len * ti.sz := by
                      rcases Nat.lt_or_ge j (len * ti.sz) with h' | h'
                      · exact h'
                      · rw [List.getElem?_take_eq_none h'] at hj; cases hj
                    rw [List.getElem?_take_of_lt hlt] at hj
                    rw [add_zero']
                    show World.cell? Γ.w.drew _ = _
                    unfold World.cell?
                    have : Γ.w.drew.heap[b]? = some (.cells arr2 e2 (0, 0)) := k1
                    simp only [this]
                    rw [← Array.getElem?_toList]
                    simpa using hj
                have hcap := grown_ge Γ.w (len + m) c e2
                refine ⟨_, _, run_append_grow_src Γ.w t u ty e2 i z hut hi1 hz (some ⟨b, 0, none⟩) len c _ hold vx m news hs hg (by unfold room at c8; omega) (growslice_fits hg (by unfold room at c7; rw [hi3]; exact c7)), ?_⟩
                have hI1 := I.drawn (Γ.w.drawn + 1)
                have hrel1 : RelC { Γ with w := Γ.w.drew } ys news.toArray := ⟨hrel.1, hrel.2.1, fun i x hx => (hrel.2.2 i x hx).ext (Ext.drawn lo Γ _) I (fun _ _ e => e)⟩
                generalize hA : (((arr2.toList.take (len * ti.sz) ++ news).toArray ++ Builtin.zeroCells z.cells (grownCap Γ.w (len + m) c e2 - (len + m))) : Array Value) = A
                have hA' : A = (arr2.toList.take (len * ti.sz) ++ news ++ (Builtin.zeroCells z.cells (grownCap Γ.w (len + m) c e2 - (len + m))).toList).toArray := by
                  rw [← hA]; apply Array.ext'; simp
                have hsz2 : A.size = grownCap Γ.w (len + m) c e2 * ti.sz := by
                  rw [← hA]
                  have e3 : grownCap Γ.w (len + m) c e2 * ti.sz = (len + m) * ti.sz + (grownCap Γ.w (len + m) c e2 - (len + m)) * ti.sz := by
                    rw [← Nat.add_mul]; congr 1; omega
                  simp [size_zeroCells, hzs, hnl]
                  omega
                have hcm : (len + m) * ti.sz ≤ grownCap Γ.w (len + m) c e2 * ti.sz := Nat.mul_le_mul_right _ hcap
                have hm0 : 0 < m * ti.sz := Nat.mul_pos (by omega) c6
                have hk4 : ∀ (i : Nat) (x : AV), xs[i]? = some x → RelV { Γ with w := Γ.w.drew } x (arr2.getD i undef) := fun i x hx => (k4 i x hx).ext (Ext.drawn lo Γ _) I (fun _ _ e => e)
                have hap := RelC.append (Γ := { Γ with w := Γ.w.drew }) (rest := (Builtin.zeroCells z.cells (grownCap Γ.w (len + m) c e2 - (len + m))).toList) k2 k3 hk4 hrel1
                rw [← c5, ← hA'] at hap
                have hmv : Ext lo (fun _ => False) { Γ with w := Γ.w.drew } (Ctx.move { Γ with w := Γ.w.drew } id (.cells e2 (xs ++ ys)) (.cells A e2 (0, 0))) := Ext.move (b := b) (T := e2) (xs := xs) (xs' := xs ++ ys) c1 hb hx (by simp; omega)
                refine ⟨_, rfl, rfl, Ext.trans (Ext.drawn lo Γ _) hmv (Nat.le_refl _) (fun _ _ _ h => h.elim), Inv.move hI1 hb hmv ⟨_, rfl, by rw [hsz2]; simp; omega, hap.1, hap.2⟩ hb0, ?_⟩
                refine .sl (by simp [Ctx.move]; exact (I.dom id b hb).1) ⟨_, _, rfl⟩ fun T zs hz => ?_
                rw [Ctx.move, List.getElem?_set_self (I.dom id b hb).1] at hz
                injection hz with hz; injection hz with z1 z2; subst z1 z2
                refine ⟨by simp; omega, fun _ => ⟨Γ.w.heap.size, grownCap Γ.w (len + m) c e2, A, e2, (0, 0), by simp [Ctx.move], rfl, hcap, heap_push_new _ _, by rw [hsz2]; omega⟩⟩
            · cases h
          · cases h
        · cases h
      · cases h
    · cases h
  · cases h
/- Builtins called. -/
variable {P : Program} {C : Cfg} {Γ : Ctx} {t : Nat} {ti : TI} {base n0 f : Nat} {β : Nat → Nat} {s s' : St} {a : Act} {o : Oper} {K : Callee}
theorem bi_pure {lo : Nat} {b : Builtin} {ats : Array TypeId} {ty : TypeId} {cs : Array Bool} {args : Array Value} {r : AV} {v : Value} (I : Inv base Γ) (h : ∃ m : Sem Value, Go.builtin b ats ty cs args = (do pure (.value (← m))) ∧ m.run P Γ.w = .ok v Γ.w) (hr : RelV Γ r v) :
    ∃ v w', (Go.builtin b ats ty cs args).run P Γ.w = .ok (.value v) w' ∧ BiPost base lo Γ r Γ.H v w' := by
  obtain ⟨m, h1, h2⟩ := h
  refine ⟨v, Γ.w, ?_, BiPost.same I hr⟩
  rw [h1, Sem.run_bind, h2]
  rfl
theorem toList_one {α : Type} {xs : Array α} {x : α} {l : List α} (h : xs.toList = x :: l) : xs[0]? = some x := by
  rw [← Array.getElem?_toList, h]; rfl
theorem builtin_sound (hT : TabOk P C.tab) (I : Inv base Γ) (hb0 : base ≤ Γ.w.heap.size) {lo : Nat} {b : Builtin} {ats : Array TypeId} {xs : List AV} {args : Array Value} {r : AV} {h' : Heap} (h : builtin C.tab lo b ats.toList xs Γ.H = some (r, h'))
    (rx : RelVs Γ xs args.toList) (ty : TypeId) (cs : Array Bool) : ∃ v w', (Go.builtin b ats ty cs args).run P Γ.w = .ok (.value v) w' ∧ BiPost base lo Γ r h' v w' := by
  unfold builtin at h
  split at h
  · rename_i t ts x hats
    have h0 := toList_one hats
    generalize hal : args.toList = al at rx
    cases rx with
    | cons hx hn =>
      rename_i v l
      cases hn
      have ha0 := toList_one hal
      have key : ∀ (r : AV) (u : Value), (Builtin.len_ ats ty args).run P Γ.w = .ok u Γ.w → RelV Γ r u → ∃ v w', (Go.builtin .len ats ty cs args).run P Γ.w = .ok (.value v) w' ∧ BiPost base lo Γ r Γ.H v w' :=
        fun r u hu hr => bi_pure I ⟨_, rfl, hu⟩ hr
      split at h
      · rename_i e _ _ _ ht
        injection h with h; injection h with e1 e2; subst e1 e2
        cases hx
        refine key _ (.int .i64 0) ?_ (.int _ _)
        simp [Builtin.len_, h0, ha0, run_underlying ((hT _ _ ht).slice rfl), goInt]
      · rename_i e _ _ _ _ _ _ n ht
        injection h with h; injection h with e1 e2; subst e1 e2
        cases hx with
        | sl hin h1 hh =>
          obtain ⟨ad, c, rfl⟩ := h1
          refine key _ (.int .i64 n) ?_ (.int _ _)
          simp [Builtin.len_, h0, ha0, run_underlying ((hT _ _ ht).slice rfl), goInt]
      · rename_i e _ _ _ _ xs ht
        injection h with h; injection h with e1 e2; subst e1 e2
        cases hx with
        | vs hT => cases hT with
         | vs g hn hc hsz hA hmem hrel =>
          subst hn
          refine key _ (.int .i64 xs.length) ?_ (.int _ _)
          simp [Builtin.len_, h0, ha0, run_underlying ((hT _ _ ht).slice rfl), goInt]
      · rename_i _ _ _ b ht
        injection h with h; injection h with e1 e2; subst e1 e2
        cases hx
        refine key _ (.int .i64 b.size) ?_ (.int _ _)
        simp [Builtin.len_, h0, ha0, run_underlying ((hT _ _ ht).str rfl), goInt]
      · rename_i k e _ _ _ id ht
        split at h
        · rename_i es hH
          injection h with h; injection h with e1 e2; subst e1 e2
          obtain ⟨b, hb, rfl⟩ := mp_map hx hH
          obtain ⟨ms, cl, h1, h2, h3, _⟩ := I.map id b es hb hH
          refine key _ (.int .i64 es.length) ?_ (.int _ _)
          have hg : (getObj b).run P Γ.w = .ok (.map ms cl) Γ.w := by
            simp only [getObj, Sem.run, h1]
          simp [Builtin.len_, h0, ha0, run_underlying ((hT _ _ ht).map rfl), goInt, hg, h2]
        · cases h
      · cases h
  · rename_i t u sa x hats
    have e1 : ats = #[t, u] := by apply Array.ext'; simpa using hats
    subst e1
    generalize hal : args.toList = al at rx
    cases rx with
    | cons hs hn =>
      cases hn with
      | cons hx hn =>
        cases hn
        rename_i v1 v2
        have e2 : args = #[v1, v2] := by apply Array.ext'; simpa using hal
        subst e2
        split at h
        · rename_i e _ _ _ hu
          obtain ⟨v, w', h1, h2⟩ := append_sound hT ((hT _ _ hu).slice rfl) I hb0 h hs hx ty
          refine ⟨v, w', ?_, h2⟩
          unfold Go.builtin
          dsimp only
          rw [Sem.run_bind, h1]
          rfl
        · cases h
  · rename_i x r' 
    simp only [Option.map_eq_some_iff] at h
    obtain ⟨y, hy, e⟩ := h
    injection e with e1 e2; subst e1 e2
    generalize hal : args.toList = al at rx
    cases rx with
    | cons hx hn =>
      obtain ⟨z, hz, hr⟩ := minmax_sound (P := P) (w := Γ.w) _ Builtin.min2 (fun k k' a b w => by simp [Builtin.min2]) _ _ _ _ _ hy hx hn
      refine bi_pure I ⟨_, rfl, ?_⟩ hr
      unfold Builtin.min_
      rw [hal]
      exact hz
  · rename_i x r' 
    simp only [Option.map_eq_some_iff] at h
    obtain ⟨y, hy, e⟩ := h
    injection e with e1 e2; subst e1 e2
    generalize hal : args.toList = al at rx
    cases rx with
    | cons hx hn =>
      obtain ⟨z, hz, hr⟩ := minmax_sound (P := P) (w := Γ.w) _ Builtin.max2 (fun k k' a b w => by simp [Builtin.max2]) _ _ _ _ _ hy hx hn
      refine bi_pure I ⟨_, rfl, ?_⟩ hr
      unfold Builtin.max_
      rw [hal]
      exact hz
  · cases h
theorem resolve_builtin (ρ : Operand → Value) {c : Call} {b : Builtin} (h : c.callee = .builtin b) (ty : TypeId) : resolve ρ c ty = pure { target := .builtin b c.argTypes ty (c.args.map fun | .const _ => true | _ => false), args := c.args.map ρ } := by
  unfold resolve; rw [h]; rfl
theorem post_builtin (hT : TabOk P C.tab) (R : RelS base n0 Γ β s a) {c : Call} {b : Builtin} (ho : o.op = .call c) (hc : c.callee = .builtin b) (h : oper C K f o s = some s') :
    ∃ v w', Runs P o a Γ.w w' v ∧ HeapPost base Γ β s o.dst s' v w' := by
  unfold oper at h
  rw [ho] at h
  dsimp only at h
  split at h
  · rename_i vs hvs
    rw [hc] at h
    dsimp only at h
    simp only [Option.map_eq_some_iff] at h
    obtain ⟨⟨r, h'⟩, hb, e⟩ := h
    have hr := R.vals hvs
    rw [← R.heap] at hb
    obtain ⟨v, w', h1, Γ', e1, e2, hext, hI, hrv⟩ := builtin_sound (args := c.args.map a.eval) hT R.inv (Nat.le_trans R.sz.1 R.sz.2) hb (by simpa using hr) o.type (c.args.map fun | .const _ => true | _ => false)
    refine ⟨v, w', .inl ?_, Γ', .v r, e1, hext, hI, hrv, ?_⟩
    · unfold execOp
      rw [ho]
      dsimp only
      rw [resolve_builtin _ hc]
      simp only [pure_bind, invoke]
      exact h1
    · rw [← e, e2]; exact put_heap _ _ _ _
  · cases h
/- Every operation: what it leaves. -/
variable {P : Program} {C : Cfg} {Γ : Ctx} {t : Nat} {ti : TI} {base n0 f : Nat} {β : Nat → Nat} {s s' : St} {a : Act} {o : Oper} {K : Callee}
def Fw (ro : Option Nat) : Fence := { fn := fun _ => True, depth := none, alive := false, round := ro }
/-- What is asked of a call: it returns r, the heap becomes h'. -/
def CallPost (base lo : Nat) (Γ : Ctx) (r : AV) (h' : Heap) : Ending → World → Prop
  | .returned v, w' => BiPost base lo Γ r h' v w'
  | _, _ => False
def SoundK (P : Program) (K : Callee) : Prop := ∀ (lo : Nat) (g : Fn) (vs : List AV) (h : Heap) (r : AV) (h' : Heap), K lo g vs h = some (r, h') →
  ∀ (base : Nat) (Γ : Ctx), Inv base Γ → base ≤ Γ.w.heap.size → Γ.H = h → ∀ args : Array Value, RelVs Γ vs args.toList →
  match g with
  | .func f => (∃ fn, P.funcs[f]? = some fn ∧ fn.name ≠ "runtime.NumGoroutine" ∧ fn.body.isSome = true) ∧ CallsIn Fence.wide 0 P f args Γ.w (CallPost base lo Γ r h')
  | .yield l => (∃ rec_, Γ.H[l]? = some (.loop rec_)) ∧ ∀ b, Γ.ρ l = some b → ∃ fid tmps assign body, (Instr.yield b args).run P Γ.w = .ok (.round b fid tmps assign body) Γ.w ∧ RoundIn Fence.wide 0 P b fid tmps assign body Γ.w (CallPost base lo Γ r h')
  | _ => True
structure Hyp (P : Program) (C : Cfg) (K : Callee) : Prop where
  tab : TabOk P C.tab
  eqs : ∀ t, t ∈ C.eqs → EqOk P t
  sound : SoundK P K
theorem runs_wp {ro : Option Nat} {w w' : World} {v : Value} {next : Act → World → Prop} {Q : Exit → Act → World → Prop} (hnd : ∀ c, o.op ≠ .defer c) (h : Runs P o a w w' v) (hn : next (a.put o.dst v) w') : o.wpIn (Fw ro) 0 P a w next Q := by
  refine ⟨fun _ _ => trivial, ?_⟩
  rw [Oper.semAt_eq _ _ _ hnd]
  rcases h with h | ⟨h, rfl⟩
  · rw [h]; exact hn
  · rw [h]; exact hn
theorem callFunc_enter {f : FuncId} {fn : Func} (h1 : P.funcs[f]? = some fn) (h2 : fn.name ≠ "runtime.NumGoroutine") (h3 : fn.body.isSome = true) (args : Array Value) (w : World) : (callFunc f args).run P w = .ok (.enter f args) w := by
  unfold callFunc
  have h4 : (fn.name == "runtime.NumGoroutine") = false := by simpa using h2
  have h5 : fn.body.isNone = false := by
    cases hb : fn.body with
    | none => rw [hb] at h3; cases h3
    | some b => rfl
  simp only [Sem.run_bind, run_program, Result.andThen_ok, h1, h4, h5, Bool.false_eq_true, if_false, Sem.run_pure]
theorem call_wp (H : Hyp P C K) (R : RelS base n0 Γ β s a) {ro : Option Nat} {next : Act → World → Prop} {Q : Exit → Act → World → Prop} {c : Call} {x : Operand} (ho : o.op = .call c) (hc : c.callee = .value x) (h : oper C K f o s = some s')
    (hn : ∀ v w', HeapPost base Γ β s o.dst s' v w' → next (a.put o.dst v) w') : o.wpIn (Fw ro) 0 P a Γ.w next Q := by
  unfold oper at h
  rw [ho] at h
  dsimp only at h
  split at h
  · rename_i vs hvs
    rw [hc] at h
    dsimp only at h
    split at h
    · rename_i g caps hx
      simp only [Option.map_eq_some_iff] at h
      obtain ⟨⟨r, h'⟩, hk, e⟩ := h
      have hr := R.vals hvs
      have hfn := R.val hx
      have hback : ∀ v w', BiPost base s.lo Γ r h' v w' → next (a.put o.dst v) w' := fun v w' ⟨Γ', e1, e2, hext, hI, hrv⟩ =>
        hn v w' ⟨Γ', .v r, e1, hext, hI, hrv, by rw [← e, e2]; exact put_heap _ _ _ _⟩
      refine ⟨fun _ _ => trivial, ?_⟩
      rw [Oper.semAt_eq _ _ _ (fun c' hc' => by rw [ho] at hc'; cases hc')]
      have hex : execOp a.eval o = (do let d ← resolve a.eval c o.type; invoke d.target d.args) := by unfold execOp; rw [ho]
      have hres : ∀ fv, a.eval x = fv → resolve a.eval c o.type = Deferred.ofValue fv (c.args.map a.eval) := fun fv hfv => by
        unfold resolve; rw [hc, ← hfv]
      generalize hv : a.eval x = u at hfn
      cases hfn with
      | fn hcn hcr =>
        rename_i fid us
        have hargs : RelVs Γ (vs ++ caps) ((c.args.map a.eval) ++ us).toList := by
          rw [Array.toList_append]
          exact RelVs.append (by simpa using hr) (RelVs.of_array (by simpa using hcn) fun i x hx => by
            have := hcr i x hx
            rw [Array.getD_eq_getD_getElem?] at this
            rw [List.getD_eq_getElem?_getD, Array.getElem?_toList]
            exact this)
        obtain ⟨⟨fn, q1, q2, q3⟩, hcalls⟩ := H.sound s.lo (.func fid) (vs ++ caps) s.heap r h' hk base Γ R.inv (Nat.le_trans R.sz.1 R.sz.2) R.heap _ hargs
        have hrun : (execOp a.eval o).run P Γ.w = .ok (.enter fid ((c.args.map a.eval) ++ us)) Γ.w := by
          rw [hex, hres _ hv]
          simp only [Deferred.ofValue, Array.empty_append, pure_bind, invoke]
          exact callFunc_enter q1 q2 q3 _ _
        rw [hrun, Oper.uponIn_enter]
        refine ⟨fun h => (by cases h), CallsIn.mono hcalls fun e w'' he => ?_⟩
        cases e with
        | returned v => exact hback v w'' he
        | panicked chain => exact he.elim
        | outgrown => exact he.elim
      | yield hin h1 hh =>
        rename_i id
        have hargs : RelVs Γ (vs ++ []) (c.args.map a.eval).toList := by
          rw [List.append_nil]; simpa using hr
        obtain ⟨⟨rec_, hrec⟩, hround⟩ := H.sound s.lo (.yield id) (vs ++ []) s.heap r h' hk base Γ R.inv (Nat.le_trans R.sz.1 R.sz.2) R.heap _ hargs
        obtain ⟨b, hb, rfl⟩ := hh rec_ hrec
        obtain ⟨fid, tmps, assign, body, hy, hR⟩ := hround b hb
        have hrun : (execOp a.eval o).run P Γ.w = .ok (.round b fid tmps assign body) Γ.w := by
          rw [hex, hres _ hv]
          simp only [Deferred.ofValue, Array.empty_append, pure_bind, invoke]
          exact hy
        rw [hrun, Oper.uponIn_round]
        refine ⟨fun h => (by cases h), RoundIn.mono hR fun e w'' he => ?_⟩
        cases e with
        | returned v => exact hback v w'' he
        | panicked chain => exact he.elim
        | outgrown => exact he.elim
    · cases h
  · cases h
/-- Does it make or write a variable of the activation's own? -/
def ofLocal (C : Cfg) (f : Nat) (s : St) (o : Oper) : Prop :=
  match o.op with
  | .alloc _ | .box .. => ∃ d, o.dst = some d ∧ d ∉ C.esc f
  | .store _ x _ => ∃ d off, s.slot x = some (.p d off)
  | _ => False
theorem oper_heap (H : Hyp P C K) (R : RelS base n0 Γ β s a) {ro : Option Nat} {next : Act → World → Prop} {Q : Exit → Act → World → Prop} (hl : ¬ ofLocal C f s o) (h : oper C K f o s = some s')
    (hn : ∀ v w', HeapPost base Γ β s o.dst s' v w' → next (a.put o.dst v) w') : o.wpIn (Fw ro) 0 P a Γ.w next Q := by
  have fin : (∃ v w', Runs P o a Γ.w w' v ∧ HeapPost base Γ β s o.dst s' v w') → (∀ c, o.op ≠ .defer c) → o.wpIn (Fw ro) 0 P a Γ.w next Q := fun ⟨v, w', h1, h2⟩ hnd => runs_wp hnd h1 (hn v w' h2)
  cases ho : o.op
  case move x => exact fin ((pure_move R (.inl ho) h).post R) (fun c e => by rw [ho] at e; cases e)
  case assign x => exact fin ((pure_move R (.inr ho) h).post R) (fun c e => by rw [ho] at e; cases e)
  case pick => exact fin ((pure_pick R ho h).post R) (fun c e => by rw [ho] at e; cases e)
  case load => exact fin ((pure_load H.tab R ho h).post R) (fun c e => by rw [ho] at e; cases e)
  case nilCheck => exact fin ((pure_nilCheck R ho h).post R) (fun c e => by rw [ho] at e; cases e)
  case fieldAddr => exact fin ((pure_fieldAddr H.tab R ho h).post R) (fun c e => by rw [ho] at e; cases e)
  case field => exact fin ((pure_field H.tab R ho h).post R) (fun c e => by rw [ho] at e; cases e)
  case indexAddr => exact fin ((pure_indexAddr H.tab R ho h).post R) (fun c e => by rw [ho] at e; cases e)
  case index => exact fin ((pure_index H.tab R ho h).post R) (fun c e => by rw [ho] at e; cases e)
  case binOp => exact fin ((pure_binOp H.tab H.eqs R ho h).post R) (fun c e => by rw [ho] at e; cases e)
  case unOp => exact fin ((pure_unOp R ho h).post R) (fun c e => by rw [ho] at e; cases e)
  case convert => exact fin ((pure_convert H.tab R ho h).post R) (fun c e => by rw [ho] at e; cases e)
  case extract => exact fin ((pure_extract R ho h).post R) (fun c e => by rw [ho] at e; cases e)
  case makeInterface => exact fin ((pure_makeInterface H.tab R ho h).post R) (fun c e => by rw [ho] at e; cases e)
  case lookup => exact fin ((pure_lookup H.tab R ho h).post R) (fun c e => by rw [ho] at e; cases e)
  case build => exact fin ((pure_build H.tab R ho h).post R) (fun c e => by rw [ho] at e; cases e)
  case buildSlice => exact fin (post_buildSlice H.tab R ho h) (fun c e => by rw [ho] at e; cases e)
  case mapUpdate => exact fin (post_mapUpdate H.tab R ho h) (fun c e => by rw [ho] at e; cases e)
  case makeFunc g first caps =>
    cases g with
    | func n => exact fin ((pure_makeFunc R ho h).post R) (fun c e => by rw [ho] at e; cases e)
    | _ => unfold oper at h; rw [ho] at h; cases h
  case makeMap t r =>
    cases r with
    | none => exact fin (post_makeMap R ho h) (fun c e => by rw [ho] at e; cases e)
    | some x => unfold oper at h; rw [ho] at h; cases h
  case alloc t =>
    cases hd : o.dst with
    | none => unfold oper at h; rw [ho, hd] at h; dsimp only at h; cases hh : look C.tab t <;> rw [hh] at h <;> cases h
    | some d =>
      by_cases hesc : d ∈ C.esc f
      · exact fin (post_alloc H.tab R ho hd hesc h) (fun c e => by rw [ho] at e; cases e)
      · exact absurd (by unfold ofLocal; rw [ho]; exact ⟨d, hd, hesc⟩) hl
  case box t x =>
    cases hd : o.dst with
    | none => unfold oper at h; rw [ho, hd] at h; cases h
    | some d =>
      by_cases hesc : d ∈ C.esc f
      · exact fin (post_box R ho hd hesc h) (fun c e => by rw [ho] at e; cases e)
      · exact absurd (by unfold ofLocal; rw [ho]; exact ⟨d, hd, hesc⟩) hl
  case store t x y => exact fin (post_store H.tab R ho (fun d off e => hl (by unfold ofLocal; rw [ho]; exact ⟨d, off, e⟩)) h) (fun c e => by rw [ho] at e; cases e)
  case call c =>
    cases hc : c.callee with
    | builtin b => exact fin (post_builtin H.tab R ho hc h) (fun c e => by rw [ho] at e; cases e)
    | value x => exact call_wp H R ho hc h hn
    | invoke r m =>
      unfold oper at h
      rw [ho] at h
      dsimp only at h
      split at h
      · rw [hc] at h; cases h
      · cases h
  all_goals (unfold oper at h; rw [ho] at h; cases h)
end Go.Ev
