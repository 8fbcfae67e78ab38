/- An evaluator over the program's code, on values of its own: what a call comes to, whatever the memory, the capacities and the orders are. Its soundness is proved in EvSound. -/
import Derived.OrdersIn
import Derived.RangeFuncIn
namespace Go.Ev
set_option linter.unusedVariables false
set_option linter.unusedSimpArgs false

/-- A value: whole slices that are only read ('vs', with the cells of each element) and pointers to such cells ('rp') bear what they hold; 'sl', 'hp', 'mp' lead to objects of the evaluator's heap. -/
inductive AV where
  | int (k : IntKind) (n : Int)
  | bool (b : Bool)
  | str (s : ByteArray)
  | nils
  | nilp
  | nilm
  | nilf
  | nili
  | sl (id sz off len : Nat)
  | hp (id n off : Nat)
  | mp (id : Nat)
  | vs (sz : Nat) (xs : List (List AV))
  | rp (xs : List AV)
  | fn (f : Fn) (caps : List AV)
  | agg (xs : List AV)
  | tup (xs : List AV)
  | iface (t : Nat) (v : AV)

/-- What a slot holds: a value, or the address of a variable of this activation (made at slot d). -/
inductive Slot where
  | v (a : AV)
  | p (d off : Nat)
  | junk

structure LoopA where
  fn : Nat
  env : List (Nat × Slot)
  params : List Nat
  assign : Code
  body : Code
  /-- 0: ready; 1: busy; 2: done -/
  st : Nat
  pending : Option Code

inductive HObj where
  | cells (t : Nat) (xs : List AV)
  | map (es : List (AV × AV))
  | loop (r : LoopA)
  | dead

abbrev Heap := List HObj

structure St where
  env : List (Nat × Slot)
  loc : List (Nat × List AV)
  heap : Heap
  /-- is it a round of a range over a function -/
  inRound : Bool
  /-- objects before this one are not to be changed -/
  lo : Nat

/-- What the evaluator knows of a type: how many cells, their zero values, how many bytes, its kind. -/
inductive TK where
  | int (k : IntKind)
  | bool
  | str
  | slice (e : Nat)
  | struct (fs : List (Nat × Nat))
  | ptr
  | map (k e : Nat)
  | func
  | iface
  | other
structure TI where
  kind : TK
  sz : Nat
  bytes : Nat
  zero : List AV
abbrev Tab := List (Nat × TI)

def look {α : Type} : List (Nat × α) → Nat → Option α
  | [], _ => none
  | (k, a) :: r, n => if k == n then some a else look r n

def TK.isAgg : TK → Bool
  | .struct _ => true
  | _ => false

def cellsOf : AV → Option (List AV)
  | .agg xs => some xs
  | .tup _ => none
  | v => some [v]
def oneCell : AV → Bool
  | .agg _ | .tup _ => false
  | _ => true

/-- A value of n cells out of cells. -/
def part (ti : TI) (xs : List AV) (off : Nat) : Option AV :=
  if ti.kind.isAgg then
    if off + ti.sz ≤ xs.length then some (.agg ((xs.drop off).take ti.sz)) else none
  else xs[off]?

def setCells (xs : List AV) (off : Nat) (ys : List AV) : List AV := xs.take off ++ ys ++ xs.drop (off + ys.length)

def simpleV : Value → Option AV
  | .int k n => some (.int k n)
  | .bool b => some (.bool b)
  | .string s => some (.str s)
  | .slice none 0 0 => some .nils
  | .pointer none => some .nilp
  | .map none => some .nilm
  | .nilFunc => some .nilf
  | .nilIface => some .nili
  | _ => none
def constV : Value → Option AV
  | .agg cs => (cs.toList.mapM simpleV).map .agg
  | .func (.func f) first caps => if first.isEmpty && caps.isEmpty then some (.fn (.func f) []) else none
  | v => simpleV v

def St.slot (s : St) : Operand → Option Slot
  | .tmp t => look s.env t
  | .const v => (constV v).map .v
  | .func f => some (.v (.fn (.func f) []))
  | .global _ => none
def St.val (s : St) (x : Operand) : Option AV :=
  match s.slot x with
  | some (.v a) => some a
  | _ => none
def St.vals (s : St) : List Operand → Option (List AV)
  | [] => some []
  | x :: r => match s.val x with
    | some a => match s.vals r with
      | some l => some (a :: l)
      | none => none
    | none => none
def St.put (s : St) (d : Option Tmp) (x : Slot) : St :=
  match d with
  | some d => { s with env := (d, x) :: s.env }
  | none => s
def St.putv (s : St) (d : Option Tmp) (a : AV) : St := s.put d (.v a)

/-- The variable d is made anew: what led to the old one is forgotten. -/
def killP (d : Nat) : Slot → Slot
  | .p e off => if e == d then .junk else .p e off
  | x => x
def kills (d : Nat) : List (Nat × Slot) → List (Nat × Slot)
  | [] => []
  | (t, x) :: l => (t, killP d x) :: kills d l

def bitsOf (op : BinOp) (k : IntKind) (x y : Int) : Option Int :=
  let a := BitVec.ofInt k.bits x
  let b := BitVec.ofInt k.bits y
  match op with
  | .and => some (k.wrap (a &&& b).toNat)
  | .or => some (k.wrap (a ||| b).toNat)
  | .xor => some (k.wrap (a ^^^ b).toNat)
  | .andNot => some (k.wrap (a &&& ~~~b).toNat)
  | _ => none
def intOp (op : BinOp) (k : IntKind) (a b : Int) : Option AV :=
  match op with
  | .add => some (.int k (k.wrap (a + b)))
  | .sub => some (.int k (k.wrap (a - b)))
  | .mul => some (.int k (k.wrap (a * b)))
  | .quo => if b = 0 then none else some (.int k (k.wrap (a.tdiv b)))
  | .rem => if b = 0 then none else some (.int k (a.tmod b))
  | .eql => some (.bool (a == b))
  | .neq => some (.bool (a != b))
  | .lss => some (.bool (decide (a < b)))
  | .leq => some (.bool (decide (a ≤ b)))
  | .gtr => some (.bool (decide (a > b)))
  | .geq => some (.bool (decide (a ≥ b)))
  | op => (bitsOf op k a b).map (.int k)
def shiftOp (op : BinOp) (k : IntKind) (a b : Int) : Option AV :=
  if b < 0 then none else
  match op with
  | .shl => some (.int k (k.wrap (a * 2 ^ (min b.toNat k.bits))))
  | .shr => some (.int k (a.fdiv (2 ^ (min b.toNat k.bits))))
  | _ => none
def strOp (op : BinOp) (a b : ByteArray) : Option AV :=
  match op with
  | .eql => some (.bool (a.toList == b.toList))
  | .neq => some (.bool (!(a.toList == b.toList)))
  | .lss => some (.bool (Op.bytesLess a.toList b.toList))
  | .geq => some (.bool (!(Op.bytesLess a.toList b.toList)))
  | .add => if a.size + b.size ≤ 9223372036854775807 then some (.str (a ++ b)) else none
  | _ => none
/-- Are two keys, or two cells that hold numbers, bools, strings, the same. -/
def keyEq : TK → AV → AV → Option Bool
  | .int _, .int k a, .int k' b => if k = k' then some (a == b) else none
  | .bool, .bool a, .bool b => some (a == b)
  | .str, .str a, .str b => some (a == b)
  | _, _, _ => none
/-- Is it a slice that is surely not nil. -/
def someRow : AV → Bool
  | .sl _ _ _ _ => true
  | .vs _ (_ :: _) => true
  | _ => false
def somePtr : AV → Bool
  | .hp _ _ _ => true
  | .rp _ => true
  | _ => false
/-- Are two values of a kind equal: where that can be told. -/
def eqv : TK → AV → AV → Option Bool
  | .bool, .bool a, .bool b => some (a == b)
  | .ptr, .nilp, .nilp => some true
  | .ptr, x, .nilp => if somePtr x then some false else none
  | .slice _, .nils, .nils => some true
  | .slice _, x, .nils => if someRow x then some false else none
  | .map _ _, .nilm, .nilm => some true
  | .func, .nilf, .nilf => some true
  | .func, .fn (.func _) _, .nilf => some false
  | _, _, _ => none
def eqAll (T : Tab) : List (Nat × Nat) → List AV → List AV → Option Bool
  | [], [], [] => some true
  | (_, t) :: fs, a :: x, b :: y => match look T t with
    | some ti => match keyEq ti.kind a b with
      | some true => eqAll T fs x y
      | some false => some false
      | none => none
    | none => none
  | _, _, _ => none
def eqStruct (T : Tab) (eqs : List Nat) (t : Nat) (a b : List AV) : Option Bool :=
  if t ∈ eqs then match look T t with
    | some { kind := .struct fs, .. } => eqAll T fs a b
    | _ => none
  else none
def binop (T : Tab) (eqs : List Nat) (op : BinOp) (t : Nat) (x y : AV) : Option AV :=
  match op, x, y with
  | .shl, .int k a, .int _ b => shiftOp .shl k a b
  | .shr, .int k a, .int _ b => shiftOp .shr k a b
  | op, .int k a, .int k' b => if k = k' then intOp op k a b else none
  | op, .str a, .str b => strOp op a b
  | .eql, .agg a, .agg b => (eqStruct T eqs t a b).map .bool
  | .neq, .agg a, .agg b => (eqStruct T eqs t a b).map fun r => .bool !r
  | .eql, a, b => match look T t with
    | some ti => (eqv ti.kind a b).map .bool
    | none => none
  | .neq, a, b => match look T t with
    | some ti => (eqv ti.kind a b).map fun r => .bool !r
    | none => none
  | _, _, _ => none
def unop (op : UnOp) (x : AV) : Option AV :=
  match op, x with
  | .neg, .int k n => some (.int k (k.wrap (0 - n)))
  | .not, .bool b => some (.bool !b)
  | .xor, .int k n => (bitsOf .xor k (if k.signed then -1 else k.max) n).map (.int k)
  | _, _ => none

/-- The cells of an element, the row's own or one that is only read. -/
def lenOf : AV → Option Nat
  | .nils => some 0
  | .sl _ _ _ n => some n
  | .vs _ xs => some xs.length
  | .str s => some s.size
  | _ => none
/-- All cells that a slice shows, if it shows its object to the end. -/
def rowOf (h : Heap) (sz : Nat) : AV → Option (List AV)
  | .nils => some []
  | .vs sz' xs => if sz' = sz ∨ xs = [] then some xs.flatten else none
  | .sl id sz' off len => match h[id]? with
    | some (.cells _ xs) => if sz' = sz ∧ off + len * sz = xs.length then some (xs.drop off) else none
    | _ => none
  | _ => none

/-- make, append: at most so many bytes. -/
def room : Nat := 140737488355328

def append (T : Tab) (lo : Nat) (h : Heap) (t : Nat) (s x : AV) : Option (AV × Heap) :=
  match look T t with
  | some { kind := .slice e, .. } => match look T e with
    | some ti => match rowOf h ti.sz x, lenOf x with
      | some ys, some m => match s with
        | .nils => if m = 0 then some (.nils, h) else
            if m * ti.bytes ≤ room ∧ 0 < ti.sz ∧ m ≤ room then some (.sl h.length ti.sz 0 m, h ++ [.cells e ys]) else none
        | .sl id sz off len => match h[id]? with
          | some (.cells e' xs) =>
            if lo ≤ id ∧ e' = e ∧ sz = ti.sz ∧ off = 0 ∧ len * sz = xs.length ∧ 0 < sz ∧ (len + m) * ti.bytes ≤ room ∧ len + m ≤ room
            then some (.sl id sz 0 (len + m), h.set id (.cells e (xs ++ ys))) else none
          | _ => none
        | _ => none
      | _, _ => none
    | none => none
  | _ => none

def mapFind (kk : TK) : List (AV × AV) → AV → Option (Option AV)
  | [], _ => some none
  | (k, v) :: r, x => match keyEq kk x k with
    | some true => some (some v)
    | some false => mapFind kk r x
    | none => none
def mapPut (kk : TK) : List (AV × AV) → AV → AV → Option (List (AV × AV))
  | [], x, y => some [(x, y)]
  | (k, v) :: r, x, y => match keyEq kk x k with
    | some true => some ((x, y) :: r)
    | some false => (mapPut kk r x y).map ((k, v) :: ·)
    | none => none
def keyKind (T : Tab) (t : Nat) (x : AV) : Option TK :=
  match look T t, x with
  | some { kind := .int k, .. }, .int _ _ => some (.int k)
  | some { kind := .bool, .. }, .bool _ => some .bool
  | some { kind := .str, .. }, .str _ => some .str
  | _, _ => none

def fillA (xs : List AV) (place : Nat → Option (Nat × Nat)) : List (Nat × AV) → Option (List AV)
  | [] => some xs
  | (i, v) :: r => match place i with
    | some (off, sz) => match cellsOf v with
      | some ys => if ys.length = sz ∧ off + sz ≤ xs.length then fillA (setCells xs off ys) place r else none
      | none => none
    | none => none

def minmax (lt : Int → Int → Bool) : AV → List AV → Option AV
  | x, [] => some x
  | .int k a, .int k' b :: r => if k = k' then minmax lt (.int k (if lt b a then b else a)) r else none
  | _, _ => none

/-- A callee, by what it is: its arguments and those that it has caught; the heap. -/
abbrev Callee := Nat → Fn → List AV → Heap → Option (AV × Heap)

/-- What leads to no object. -/
def static : AV → Bool
  | .int .. | .bool _ | .str _ | .nils | .nilp | .nilm | .nilf | .nili | .vs .. => true
  | _ => false
def chunks (sz : Nat) : Nat → List AV → List (List AV)
  | 0, _ => []
  | n + 1, xs => xs.take sz :: chunks sz n (xs.drop sz)
/-- A cell of a value whose objects (those from lo on) are not written any more; one level. -/
def frz0 (h : Heap) (lo : Nat) : AV → Option AV
  | .sl id sz off len => match h[id]? with
    | some (.cells _ xs) => if lo ≤ id ∧ off + len * sz = xs.length ∧ xs.all static = true then some (.vs sz (chunks sz len (xs.drop off))) else none
    | _ => none
  | a => if static a then some a else none
def frzL0 (h : Heap) (lo : Nat) : List AV → Option (List AV)
  | [] => some []
  | a :: l => match frz0 h lo a with
    | some b => match frzL0 h lo l with
      | some m => some (b :: m)
      | none => none
    | none => none
/-- The same; two levels. -/
def frz1 (h : Heap) (lo : Nat) : AV → Option AV
  | .sl id sz off len => match h[id]? with
    | some (.cells _ xs) => if lo ≤ id ∧ off + len * sz = xs.length ∧ xs.all static = true then some (.vs sz (chunks sz len (xs.drop off))) else
      match frzL0 h lo xs with
      | some ys => if lo ≤ id ∧ off + len * sz = xs.length then some (.vs sz (chunks sz len (ys.drop off))) else none
      | none => none
    | _ => none
  | a => if static a then some a else none
def frzL (h : Heap) (lo : Nat) : List AV → Option (List AV)
  | [] => some []
  | a :: l => match frz1 h lo a with
    | some b => match frzL h lo l with
      | some m => some (b :: m)
      | none => none
    | none => none
def frz2 (h : Heap) (lo : Nat) : AV → Option AV
  | .agg xs => match frzL h lo xs with
    | some ys => some (.agg ys)
    | none => none
  | a => frz1 h lo a
def frzM (h : Heap) (lo : Nat) : List AV → Option (List AV)
  | [] => some []
  | a :: l => match frz2 h lo a with
    | some b => match frzM h lo l with
      | some m => some (b :: m)
      | none => none
    | none => none
/-- A value whose objects (those from lo on) are not written any more. -/
def frz (h : Heap) (lo : Nat) : AV → Option AV
  | .tup xs => match frzM h lo xs with
    | some ys => some (.tup ys)
    | none => none
  | a => frz2 h lo a
/-- What a function hands back: as it is, or with its objects frozen and the heap cut back. -/
def hand (cut : Bool) (h0 : Heap) (a : AV) (h : Heap) : Option (AV × Heap) :=
  if cut then match frz h h0.length a with
    | some b => some (b, h0)
    | none => none
  else some (a, h)

/-- Where a nil slice may stand for a row without elements of so many cells each: the result itself, its rows' cells. -/
structure Nz where
  top : Nat := 0
  row : List Nat := []
def nilz (n : Nat) : AV → AV
  | .nils => if n = 0 then .nils else .vs n []
  | a => a
def nilzL : List Nat → List AV → List AV
  | n :: ns, a :: l => nilz n a :: nilzL ns l
  | _, l => l
def nzA (z : Nz) : AV → AV
  | .nils => nilz z.top .nils
  | .vs sz xs => .vs sz (xs.map (nilzL z.row))
  | .agg xs => .agg (nilzL z.row xs)
  | a => a
/-- What a function hands back, nil slices shown as rows. -/
def handF (nz : Option Nz) (cut : Bool) (h0 : Heap) (a : AV) (h : Heap) : Option (AV × Heap) :=
  match nz with
  | none => hand cut h0 a h
  | some z => match hand cut h0 a h with
    | some (b, h1) => some (nzA z b, h1)
    | none => none

structure Cfg where
  tab : Tab
  /-- the slots of a function's variables that outlive it -/
  esc : Nat → List Nat
  /-- the slots that live at a loop's head: by the function, by the loop's first region -/
  live : Nat → Nat → Option (List Nat)
  /-- the struct types whose values are compared cell by cell -/
  eqs : List Nat
  /-- is the heap cut back behind a function -/
  cut : Nat → Bool
  /-- calls of which it is known otherwise what they come to -/
  orc : Callee := fun _ _ _ _ => none
  /-- the slots of slice literals that nobody writes -/
  fz : Nat → List Nat := fun _ => []
  /-- where a function's result shows nil slices as rows without elements -/
  nz : Nat → Option Nz := fun _ => none

def builtin (T : Tab) (lo : Nat) (b : Builtin) (ts : List TypeId) (xs : List AV) (h : Heap) : Option (AV × Heap) :=
  match b, ts, xs with
  | .len, t :: _, [x] => match look T t, x with
    | some { kind := .slice _, .. }, .nils => some (.int .i64 0, h)
    | some { kind := .slice _, .. }, .sl _ _ _ n => some (.int .i64 n, h)
    | some { kind := .slice _, .. }, .vs _ xs => some (.int .i64 xs.length, h)
    | some { kind := .str, .. }, .str b => some (.int .i64 b.size, h)
    | some { kind := .map _ _, .. }, .mp id => match h[id]? with
      | some (.map es) => some (.int .i64 es.length, h)
      | _ => none
    | _, _ => none
  | .append, [t, u], [s, x] => match look T u with
    | some { kind := .slice _, .. } => append T lo h t s x
    | _ => none
  | .min, _, x :: r => (minmax (fun b a => decide (b < a)) x r).map (·, h)
  | .max, _, x :: r => (minmax (fun b a => decide (a < b)) x r).map (·, h)
  | _, _, _ => none

def isFz (l : List Nat) : Option Tmp → Bool
  | some d => l.contains d
  | none => false

/-- One operation. -/
def oper (C : Cfg) (K : Callee) (f : Nat) (o : Oper) (s : St) : Option St :=
  match o.op with
  | .move x | .assign x => (s.slot x).map (s.put o.dst)
  | .pick c a b => match s.val c with
    | some (.bool true) => (s.slot a).map (s.put o.dst)
    | some (.bool false) => (s.slot b).map (s.put o.dst)
    | _ => none
  | .alloc t => match look C.tab t, o.dst with
    | some ti, some d =>
      if d ∈ C.esc f then some { s with env := (d, .v (.hp s.heap.length ti.sz 0)) :: s.env, heap := s.heap ++ [.cells t ti.zero] }
      else some { s with env := (d, .p d 0) :: kills d s.env, loc := (d, ti.zero) :: s.loc }
    | _, _ => none
  | .box t x => match o.dst, (s.val x).bind cellsOf with
    | some d, some ys =>
      if d ∈ C.esc f then some { s with env := (d, .v (.hp s.heap.length ys.length 0)) :: s.env, heap := s.heap ++ [.cells t ys] }
      else some { s with env := (d, .p d 0) :: kills d s.env, loc := (d, ys) :: s.loc }
    | _, _ => none
  | .build t parts => match look C.tab t, s.vals (parts.toList.map (·.2)) with
    | some { kind := .struct fs, zero, .. }, some vs =>
      (fillA zero (fun i => match fs[i]? with
        | some (off, ft) => (look C.tab ft).map fun ti => (off, ti.sz)
        | none => none) ((parts.toList.map (·.1)).zip vs)).map fun cs => s.putv o.dst (.agg cs)
    | _, _ => none
  | .buildSlice t len parts => match look C.tab t, s.vals (parts.toList.map (·.2)) with
    | some { kind := .slice e, .. }, some vs => match look C.tab e with
      | some ti =>
        if len * ti.sz ≤ 16777216 ∧ 0 < ti.sz then
        match fillA (List.replicate len ti.zero).flatten (fun i => some (i * ti.sz, ti.sz)) ((parts.toList.map (·.1)).zip vs) with
        | some cs =>
          if isFz (C.fz f) o.dst then if cs.all static = true then some (s.putv o.dst (.vs ti.sz (chunks ti.sz len cs))) else none
          else some { s.putv o.dst (.sl s.heap.length ti.sz 0 len) with heap := s.heap ++ [.cells e cs] }
        | none => none
        else none
      | none => none
    | _, _ => none
  | .load t x => match look C.tab t, s.slot x with
    | some ti, some (.p d off) => match look s.loc d with
      | some xs => (part ti xs off).map (s.putv o.dst)
      | none => none
    | some ti, some (.v (.hp id n off)) => match s.heap[id]? with
      | some (.cells _ xs) => if n = xs.length then (part ti xs off).map (s.putv o.dst) else none
      | _ => none
    | some ti, some (.v (.rp xs)) => (part ti xs 0).map (s.putv o.dst)
    | _, _ => none
  | .store t x y => match look C.tab t, s.slot x, (s.val y).bind cellsOf with
    | some ti, some (.p d off), some ys => match look s.loc d with
      | some xs => if ys.length = ti.sz ∧ off + ti.sz ≤ xs.length then
          some ({ s with loc := (d, setCells xs off ys) :: s.loc }.putv o.dst (.tup [])) else none
      | none => none
    | some ti, some (.v (.hp id n off)), some ys => match s.heap[id]? with
      | some (.cells e xs) => if s.lo ≤ id ∧ n = xs.length ∧ ys.length = ti.sz ∧ off + ti.sz ≤ xs.length then
          some ({ s with heap := s.heap.set id (.cells e (setCells xs off ys)) }.putv o.dst (.tup [])) else none
      | _ => none
    | _, _, _ => none
  | .nilCheck x => match s.slot x with
    | some (.p d off) => some (s.put o.dst (.p d off))
    | some (.v (.hp id n off)) => some (s.putv o.dst (.hp id n off))
    | some (.v (.rp xs)) => some (s.putv o.dst (.rp xs))
    | _ => none
  | .fieldAddr t x j => match look C.tab t, s.slot x with
    | some { kind := .struct fs, .. }, some a => match fs[j]? with
      | some (off, ft) => match look C.tab ft with
        | some ti => if ti.sz = 0 then none else match a with
          | .p d o' => some (s.put o.dst (.p d (o' + off)))
          | .v (.hp id n o') => some (s.putv o.dst (.hp id n (o' + off)))
          | .v (.rp xs) => some (s.putv o.dst (.rp (xs.drop off)))
          | _ => none
        | none => none
      | none => none
    | _, _ => none
  | .field t x j => match look C.tab t, s.val x with
    | some { kind := .struct fs, .. }, some (.agg xs) => match fs[j]? with
      | some (off, ft) => match look C.tab ft with
        | some ti => (part ti xs off).map (s.putv o.dst)
        | none => none
      | none => none
    | _, _ => none
  | .indexAddr t x i => match look C.tab t, s.val x, s.val i with
    | some { kind := .slice e, .. }, some a, some (.int _ i) => match look C.tab e with
      | some ti => if 0 ≤ i then match a with
        | .sl id sz off len => match s.heap[id]? with
          | some (.cells _ xs) => if sz = ti.sz ∧ i < len ∧ off + len * sz = xs.length then some (s.putv o.dst (.hp id xs.length (off + i.toNat * sz))) else none
          | _ => none
        | .vs sz xs => if sz = ti.sz then (xs[i.toNat]?).map fun r => s.putv o.dst (.rp r) else none
        | _ => none
        else none
      | none => none
    | _, _, _ => none
  | .index t x i => match look C.tab t, s.val x, s.val i with
    | some { kind := .str, .. }, some (.str b), some (.int _ i) => if 0 ≤ i then (b[i.toNat]?).map fun c => s.putv o.dst (.int .u8 c.toNat) else none
    | _, _, _ => none
  | .binOp op t x y _ => match s.val x, s.val y with
    | some a, some b => (binop C.tab C.eqs op t a b).map (s.putv o.dst)
    | _, _ => none
  | .unOp op _ x => match s.val x with
    | some a => (unop op a).map (s.putv o.dst)
    | none => none
  | .convert u t x => match look C.tab u, look C.tab t, s.val x with
    | some _, some { kind := .int k, .. }, some (.int _ n) => some (s.putv o.dst (.int k (k.wrap n)))
    | some _, some { kind := .str, .. }, some (.str b) => some (s.putv o.dst (.str b))
    | _, _, _ => none
  | .makeFunc (.func g) first caps => match s.vals caps.toList with
    | some vs => if first.isEmpty then some (s.putv o.dst (.fn (.func g) vs)) else none
    | none => none
  | .makeMap _ none => some { s.putv o.dst (.mp s.heap.length) with heap := s.heap ++ [.map []] }
  | .lookup t m k ok => match look C.tab t, s.val m, s.val k with
    | some { kind := .map kt e, .. }, some (.mp id), some x => match s.heap[id]?, look C.tab e with
      | some (.map es), some ti => match keyKind C.tab kt x with
        | some kk => match mapFind kk es x with
          | some (some v) => some (s.putv o.dst (if ok then .tup [v, .bool true] else v))
          | some none => (part ti ti.zero 0).map fun v => s.putv o.dst (if ok then .tup [v, .bool false] else v)
          | none => none
        | none => none
      | _, _ => none
    | _, _, _ => none
  | .mapUpdate t m k x => match s.val m, s.val k, s.val x, look C.tab t with
    | some (.mp id), some k, some v, some { kind := .map kt _, .. } => match s.heap[id]? with
      | some (.map es) => match keyKind C.tab kt k with
        | some kk => if s.lo ≤ id then (mapPut kk es k v).map fun es' => { s with heap := s.heap.set id (.map es') }.putv o.dst (.tup []) else none
        | none => none
      | _ => none
    | _, _, _, _ => none
  | .extract x i => match s.val x with
    | some (.tup vs) => (vs[i]?).map (s.putv o.dst)
    | _ => none
  | .makeInterface t x => match look C.tab t, s.val x with
    | some { kind := .iface, .. }, _ => none
    | some _, some v => some (s.putv o.dst (.iface t v))
    | _, _ => none
  | .call c => match s.vals c.args.toList with
    | some vs => match c.callee with
      | .builtin b => (builtin C.tab s.lo b c.argTypes.toList vs s.heap).map fun r => { s.putv o.dst r.1 with heap := r.2 }
      | .value x => match s.val x with
        | some (.fn g caps) => (K s.lo g (vs ++ caps) s.heap).map fun r => { s.putv o.dst r.1 with heap := r.2 }
        | _ => none
      | .invoke .. => none
    | none => none
  | _ => none

def guardOn (ops : Array Oper) (o : Oper) (s : St) : Option Bool :=
  match o.guard with
  | none => some true
  | some (j, want) => match (ops[j]?).bind (·.dst) with
    | some d => match look s.env d with
      | some (.v (.bool b)) => some (b == want)
      | some (.v (.tup [])) => some false
      | _ => none
    | none => none

def opers (C : Cfg) (K : Callee) (f : Nat) (ops : Array Oper) : List Oper → St → Option St
  | [], s => some s
  | o :: r, s => match guardOn ops o s with
    | some true => match oper C K f o s with
      | some s' => opers C K f ops r s'
      | none => none
    | some false => opers C K f ops r (s.putv o.dst (.tup []))
    | none => none

inductive Ex where
  | normal
  | exit (id : Nat)
  | ret

def firstRegion : Code → Nat
  | .region id _ _ => id
  | .seq a _ => firstRegion a
  | .block _ b => firstRegion b
  | .loop b => firstRegion b
  | _ => 0

def restr {α : Type} (l : List Nat) (env : List (Nat × α)) : List (Nat × α) := l.filterMap fun t => (look env t).map fun x => (t, x)
def keep (s : St) (l : List Nat) : St :=
  { s with env := l.filterMap fun t => (look s.env t).map fun x => (t, x), loc := l.filterMap fun t => (look s.loc t).map fun x => (t, x) }

def prune (l : Option (List Nat)) (s : St) : St :=
  match l with
  | some l => keep s l
  | none => s
def rounds (step : St → Option (Ex × St)) (l : Option (List Nat)) : Nat → St → Option (Ex × St)
  | 0, _ => none
  | n + 1, s => match step (prune l s) with
    | some (.normal, s') => rounds step l n s'
    | r => r

/-- The slots that an operation looks at or writes. -/
def namesOf (ops : Array Oper) (o : Oper) : List Nat :=
  o.dst.toList ++ (o.op.operands.toList.filterMap fun | .tmp t => some t | _ => none) ++
    (match o.guard with | some (j, _) => ((ops[j]?).bind (·.dst)).toList | none => [])
/-- For each operation those that stand ahead of it, as bits. -/
def bitsBefore (acc : List Nat) (o : Oper) : Nat :=
  o.after.toList.foldl (fun s e => if Region.binds .any e then s ||| 2 ^ e.on ||| acc.getD e.on 0 else s) 0
def befores : List Oper → List Nat → List Nat
  | [], acc => acc
  | o :: r, acc => befores r (acc ++ [bitsBefore acc o])
def befs (ops : Array Oper) : List Nat := befores ops.toList []
/-- Stands operation i ahead of or behind each other one, whatever the order is? -/
def alone (b : List Nat) (n i : Nat) : Bool :=
  (List.range n).all fun j => j == i || (if j < i then (b.getD i 0).testBit j else (b.getD j 0).testBit i)
def isLocal (C : Cfg) (f : Nat) (o : Oper) : Bool := match o.op with
  | .alloc _ | .box .. => match o.dst with
    | some d => !(d ∈ C.esc f)
    | none => true
  | .store .. => true
  | _ => false
/-- An operation of a region that draws its order, that may come before or behind another: what lay there stays as it is. -/
def stepD (C : Cfg) (K : Callee) (f : Nat) (ops : Array Oper) (o : Oper) (s : St) : Option St :=
  if isLocal C f o then none else
  match oper C K f o { s with env := restr (namesOf ops o) s.env, lo := s.heap.length } with
  | some s' => match o.dst with
    | none => some { s with heap := s.heap ++ s'.heap.drop s.heap.length }
    | some d => match look s'.env d with
      | some x => some { s with env := (d, x) :: s.env, heap := s.heap ++ s'.heap.drop s.heap.length }
      | none => none
  | none => none
def opersD (C : Cfg) (K : Callee) (f : Nat) (ops : Array Oper) (b : List Nat) : List Oper → Nat → St → Option St
  | [], _, s => some s
  | o :: r, i, s => match guardOn ops o s with
    | some true => match (if alone b ops.size i then oper C K f o s else stepD C K f ops o s) with
      | some s' => opersD C K f ops b r (i + 1) s'
      | none => none
    | some false => opersD C K f ops b r (i + 1) (s.putv o.dst (.tup []))
    | none => none

def exec (C : Cfg) (K : Callee) (f : Nat) (fuel : Nat) : Code → St → Option (Ex × St)
  | .skip, s => some (.normal, s)
  | .region _ ops draw, s => (if draw then opersD C K f ops (befs ops) ops.toList 0 s else opers C K f ops ops.toList s).map (Ex.normal, ·)
  | .seq a b, s => match exec C K f fuel a s with
    | some (.normal, s') => exec C K f fuel b s'
    | r => r
  | .cond c x y, s => match s.val c with
    | some (.bool true) => exec C K f fuel x s
    | some (.bool false) => exec C K f fuel y s
    | _ => none
  | .block id b, s => match exec C K f fuel b s with
    | some (.exit i, s') => if i == id then some (.normal, s') else some (.exit i, s')
    | r => r
  | .loop b, s => rounds (exec C K f fuel b) (C.live f (firstRegion b)) fuel s
  | .rangeFunc g ps assign body, s => match s.val g, s.inRound with
    | some (.fn (.func h) caps), false =>
      let l := s.heap.length
      if s.lo ≤ l then
      let rec_ : LoopA := { fn := f, env := s.env.map fun x => (x.1, match x.2 with | .v a => Slot.v a | _ => Slot.junk), params := ps.toList, assign, body, st := 0, pending := none }
      match K s.lo (.func h) ([.fn (.yield l) []] ++ caps) (s.heap ++ [.loop rec_]) with
      | some (_, heap') => match heap'[l]? with
        | some (.loop r) => if r.st = 1 then none else match r.pending with
          | none => some (.normal, { s with heap := heap'.set l .dead })
          | some .ret => some (.ret, { s with heap := heap'.set l .dead })
          | some (.exit id) => some (.exit id, { s with heap := heap'.set l .dead })
          | _ => none
        | _ => none
      | none => none
      else none
    | _, _ => none
  | .exit id, s => some (.exit id, s)
  | .ret, s => some (.ret, s)
  | .label _, s => some (.normal, s)
  | _, _ => none

def resultOf (C : Cfg) (s : St) : ResultVar → Option AV
  | .tmp t => match look s.env t with
    | some (.v a) => some a
    | _ => none
  | .cell a t => match look C.tab t, look s.env a with
    | some ti, some (.p d off) => match look s.loc d with
      | some xs => part ti xs off
      | none => none
    | some ti, some (.v (.hp id n off)) => match s.heap[id]? with
      | some (.cells _ xs) => if n = xs.length then part ti xs off else none
      | _ => none
    | _, _ => none
def resultsOf (C : Cfg) (s : St) : List ResultVar → Option (List AV)
  | [] => some []
  | r :: l => match resultOf C s r with
    | some a => match resultsOf C s l with
      | some m => some (a :: m)
      | none => none
    | none => none

def number : Nat → List AV → List (Nat × Slot)
  | _, [] => []
  | n, a :: l => (n, .v a) :: number (n + 1) l

/-- The parameters of a round, one behind the other. -/
def setParams : List (Nat × Slot) → List Nat → List AV → List (Nat × Slot)
  | env, p :: ps, a :: as => setParams ((p, .v a) :: env) ps as
  | env, _, _ => env

def scalarAV : AV → Bool
  | .int .. | .bool _ | .str _ | .nils | .nilp | .nilm | .nilf | .nili => true
  | _ => false

/-- A call, with so much depth left. -/
def call (P : Program) (C : Cfg) : Nat → Callee
  | 0, _, _, _, _ => none
  | k + 1, lo, .func f, args, h => match C.orc lo (.func f) args h with
    | some r => some r
    | none => match P.funcs[f]? with
    | some fn => match fn.body with
      | some b =>
        if args.length ≤ fn.ntmps then
        match exec C (call P C k) f k b { env := number 0 args, loc := [], heap := h, inRound := false, lo := if C.cut f then h.length else lo } with
        | some (.normal, s) | some (.ret, s) => match resultsOf C s fn.results.toList with
          | some [a] => handF (C.nz f) (C.cut f) h a s.heap
          | some l => handF (C.nz f) (C.cut f) h (.tup l) s.heap
          | none => none
        | _ => none
        else none
      | none => none
    | none => none
  | k + 1, lo, .yield l, args, h => match h[l]? with
    | some (.loop r) =>
      if lo ≤ l ∧ r.st = 0 ∧ args.length = r.params.length then
        match exec C (call P C k) r.fn k r.assign { env := setParams r.env r.params args, loc := [], heap := h, inRound := true, lo := lo } with
        | some (.normal, s) => match s.heap[l]? with
          | some (.loop r1) => if r1.st = 0 then
            match exec C (call P C k) r.fn k r.body { s with heap := s.heap.set l (.loop { r1 with st := 1 }) } with
            | some (e, s') => match s'.heap[l]? with
              | some (.loop r') => match e with
                | .normal => some (.bool true, s'.heap.set l (.loop { r' with st := 0, pending := none }))
                | .ret => some (.bool false, s'.heap.set l (.loop { r' with st := 2, pending := some .ret }))
                | .exit i => some (.bool false, s'.heap.set l (.loop { r' with st := 2, pending := some (.exit i) }))
              | _ => none
            | none => none
            else none
          | _ => none
        | _ => none
      else none
    | _ => none
  | _ + 1, _, _, _, _ => none

/-- Every slot that is written is there. -/
def dstOk (n : Nat) (ops : Array Oper) : Bool := ops.toList.all fun o => match o.dst with | some d => decide (d < n) | none => true

def drawOk (ops : Array Oper) : Bool :=
  let b := befs ops
  (List.range ops.size).all fun i => match ops[i]? with
    | none => false
    | some o => (o.after.all fun e => !Region.binds .any e || decide (e.on < i)) &&
      (List.range ops.size).all fun j => j == i || (match (ops[j]?).bind (·.dst) with
        | some d => !((namesOf ops o).contains d) || (if j < i then (b.getD i 0).testBit j else (b.getD j 0).testBit i)
        | none => true)
def codeOk (n : Nat) : Code → Bool
  | .region _ ops draw => dstOk n ops && (!draw || drawOk ops)
  | .seq a b => codeOk n a && codeOk n b
  | .cond _ a b => codeOk n a && codeOk n b
  | .block _ b => codeOk n b
  | .loop b => codeOk n b
  | .rangeFunc _ ps a b => ps.all (· < n) && codeOk n a && codeOk n b
  | _ => true

end Go.Ev
