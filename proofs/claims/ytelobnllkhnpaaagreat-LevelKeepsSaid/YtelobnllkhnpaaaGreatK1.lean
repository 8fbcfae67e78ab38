/- An evaluator over the program's code, on values of its own: what a call comes to, whatever the memory, the capacities and the orders are. Its soundness is proved in EvSound. -/
import Derived.OrdersIn
import Derived.RangeFuncIn
import Derived.DataReads
import Derived.Below
import Derived.Laws.Sem
import Derived.Laws.CopyRow
import Derived.Laws.Cells
import Derived.Laws.Entries
import Derived.Laws.StructEq
import Derived.WalkSpells
import Derived.Deep.AppendSrc
set_option linter.unusedVariables false
set_option linter.unusedSimpArgs false
set_option maxHeartbeats 40000000
set_option maxRecDepth 1000000
namespace Go.Ev
inductive AV where
 | int (k : IntKind) (n : Int)
 | bool (b : Bool)
 | str (s : ByteArray)
 | nils
 | nilp
 | nilm
 | nilf
 | nili
 | sl (id sz off len : Nat)
 | hp (id n off : Nat)
 | mp (id : Nat)
 | vs (sz : Nat) (xs : List (List AV))
 | rp (xs : List AV)
 | fn (f : Fn) (caps : List AV)
 | agg (xs : List AV)
 | tup (xs : List AV)
 | iface (t : Nat) (v : AV)
inductive co where
 | v (a : AV)
 | p (d off : Nat)
 | junk
structure fL where
 fn : Nat
 env : List (Nat × co)
 params : List Nat
 assign : Code
 body : Code
 st : Nat
 pending : Option Code
inductive ap where
 | cells (t : Nat) (xs : List AV)
 | map (es : List (AV × AV))
 | loop (r : fL)
 | dead
abbrev aj := List ap
structure St where
 env : List (Nat × co)
 loc : List (Nat × List AV)
 heap : aj
 inRound : Bool
 lo : Nat
inductive TK where
 | int (k : IntKind)
 | bool
 | str
 | slice (e : Nat)
 | struct (fs : List (Nat × Nat))
 | ptr
 | map (k e : Nat)
 | func
 | iface
 | other
structure TI where
 kind : TK
 sz : Nat
 bytes : Nat
 zero : List AV
abbrev wb := List (Nat × TI)
def look {α : Type} : List (Nat × α) -> Nat -> Option α
 | [], _ => none
 | (k, a) :: r, n => if k == n then some a else look r n
def TK.isAgg : TK -> Bool
 | .struct _ => true
 | _ => false
def cellsOf : AV -> Option (List AV)
 | .agg xs => some xs
 | .tup _ => none
 | v => some [v]
def oneCell : AV -> Bool
 | .agg _ | .tup _ => false
 | _ => true
def part (ti : TI) (xs : List AV) (off : Nat) : Option AV :=
 if ti.kind.isAgg then
  if off + ti.sz <= xs.length then some (.agg ((xs.drop off).take ti.sz)) else none
 else xs[off]?
def bb (xs : List AV) (off : Nat) (ys : List AV) : List AV := xs.take off ++ ys ++ xs.drop (off + ys.length)
def eN : Value -> Option AV
 | .int k n => some (.int k n)
 | .bool b => some (.bool b)
 | .string s => some (.str s)
 | .slice none 0 0 => some .nils
 | .pointer none => some .nilp
 | .map none => some .nilm
 | .nilFunc => some .nilf
 | .nilIface => some .nili
 | _ => none
def yw : Value -> Option AV
 | .agg cs => (cs.toList.mapM eN).map .agg
 | .func (.func f) first caps => if first.isEmpty && caps.isEmpty then some (.fn (.func f) []) else none
 | v => eN v
def St.slot (s : St) : Operand -> Option co
 | .tmp t => look s.env t
 | .const v => (yw v).map .v
 | .func f => some (.v (.fn (.func f) []))
 | .global _ => none
def St.val (s : St) (x : Operand) : Option AV :=
 match s.slot x with
 | some (.v a) => some a
 | _ => none
def St.vals (s : St) : List Operand -> Option (List AV)
 | [] => some []
 | x :: r => match s.val x with
  | some a => match s.vals r with
   | some l => some (a :: l)
   | none => none
  | none => none
def St.put (s : St) (d : Option Tmp) (x : co) : St :=
 match d with
 | some d => { s with env := (d, x) :: s.env }
 | none => s
def St.putv (s : St) (d : Option Tmp) (a : AV) : St := s.put d (.v a)
def tk (d : Nat) : co -> co
 | .p e off => if e == d then .junk else .p e off
 | x => x
def tr (d : Nat) : List (Nat × co) -> List (Nat × co)
 | [] => []
 | (t, x) :: l => (t, tk d x) :: tr d l
def mj (op : BinOp) (k : IntKind) (x y : Int) : Option Int :=
 let a := BitVec.ofInt k.bits x
 let b := BitVec.ofInt k.bits y
 match op with
 | .and => some (k.wrap (a &&& b).toNat)
 | .or => some (k.wrap (a ||| b).toNat)
 | .xor => some (k.wrap (a ^^^ b).toNat)
 | .andNot => some (k.wrap (a &&& ~~~b).toNat)
 | _ => none
def qr (op : BinOp) (k : IntKind) (a b : Int) : Option AV :=
 match op with
 | .add => some (.int k (k.wrap (a + b)))
 | .sub => some (.int k (k.wrap (a - b)))
 | .mul => some (.int k (k.wrap (a * b)))
 | .quo => if b = 0 then none else some (.int k (k.wrap (a.tdiv b)))
 | .rem => if b = 0 then none else some (.int k (a.tmod b))
 | .eql => some (.bool (a == b))
 | .neq => some (.bool (a != b))
 | .lss => some (.bool (decide (a < b)))
 | .leq => some (.bool (decide (a <= b)))
 | .gtr => some (.bool (decide (a > b)))
 | .geq => some (.bool (decide (a >= b)))
 | op => (mj op k a b).map (.int k)
def lu (op : BinOp) (k : IntKind) (a b : Int) : Option AV :=
 if b < 0 then none else
 match op with
 | .shl => some (.int k (k.wrap (a * 2 ^ (min b.toNat k.bits))))
 | .shr => some (.int k (a.fdiv (2 ^ (min b.toNat k.bits))))
 | _ => none
def CC (op : BinOp) (a b : ByteArray) : Option AV :=
 match op with
 | .eql => some (.bool (a.toList == b.toList))
 | .neq => some (.bool (!(a.toList == b.toList)))
 | .lss => some (.bool (Op.bytesLess a.toList b.toList))
 | .geq => some (.bool (!(Op.bytesLess a.toList b.toList)))
 | .add => if a.size + b.size <= 9223372036854775807 then some (.str (a ++ b)) else none
 | _ => none
def gm : TK -> AV -> AV -> Option Bool
 | .int _, .int k a, .int k' b => if k = k' then some (a == b) else none
 | .bool, .bool a, .bool b => some (a == b)
 | .str, .str a, .str b => some (a == b)
 | _, _, _ => none
def p8 : AV -> Bool
 | .sl _ _ _ _ => true
 | .vs _ (_ :: _) => true
 | _ => false
def p9 : AV -> Bool
 | .hp _ _ _ => true
 | .rp _ => true
 | _ => false
def Hz : TK -> AV -> AV -> Option Bool
 | .bool, .bool a, .bool b => some (a == b)
 | .ptr, .nilp, .nilp => some true
 | .ptr, x, .nilp => if p9 x then some false else none
 | .slice _, .nils, .nils => some true
 | .slice _, x, .nils => if p8 x then some false else none
 | .map _ _, .nilm, .nilm => some true
 | .func, .nilf, .nilf => some true
 | .func, .fn (.func _) _, .nilf => some false
 | _, _, _ => none
def mU (T : wb) : List (Nat × Nat) -> List AV -> List AV -> Option Bool
 | [], [], [] => some true
 | (_, t) :: fs, a :: x, b :: y => match look T t with
  | some ti => match gm ti.kind a b with
   | some true => mU T fs x y
   | some false => some false
   | none => none
  | none => none
 | _, _, _ => none
def jn (T : wb) (eqs : List Nat) (t : Nat) (a b : List AV) : Option Bool :=
 if t ∈ eqs then match look T t with
  | some { kind := .struct fs, .. } => mU T fs a b
  | _ => none
 else none
def binop (T : wb) (eqs : List Nat) (op : BinOp) (t : Nat) (x y : AV) : Option AV :=
 match op, x, y with
 | .shl, .int k a, .int _ b => lu .shl k a b
 | .shr, .int k a, .int _ b => lu .shr k a b
 | op, .int k a, .int k' b => if k = k' then qr op k a b else none
 | op, .str a, .str b => CC op a b
 | .eql, .agg a, .agg b => (jn T eqs t a b).map .bool
 | .neq, .agg a, .agg b => (jn T eqs t a b).map fun r => .bool !r
 | .eql, a, b => match look T t with
  | some ti => (Hz ti.kind a b).map .bool
  | none => none
 | .neq, a, b => match look T t with
  | some ti => (Hz ti.kind a b).map fun r => .bool !r
  | none => none
 | _, _, _ => none
def Gy (op : UnOp) (x : AV) : Option AV :=
 match op, x with
 | .neg, .int k n => some (.int k (k.wrap (0 - n)))
 | .not, .bool b => some (.bool !b)
 | .xor, .int k n => (mj .xor k (if k.signed then -1 else k.max) n).map (.int k)
 | _, _ => none
def lenOf : AV -> Option Nat
 | .nils => some 0
 | .sl _ _ _ n => some n
 | .vs _ xs => some xs.length
 | .str s => some s.size
 | _ => none
def fh (h : aj) (sz : Nat) : AV -> Option (List AV)
 | .nils => some []
 | .vs sz' xs => if sz' = sz \/ xs = [] then some xs.flatten else none
 | .sl id sz' off len => match h[id]? with
  | some (.cells _ xs) => if sz' = sz /\ off + len * sz = xs.length then some (xs.drop off) else none
  | _ => none
 | _ => none
def ca : Nat := 140737488355328
def append (
      T : wb) (lo : Nat) (h : aj) (t : Nat) (s x : AV) : Option (AV × aj) :=
 match look T t with
 | some { kind := .slice e, .. } => match look T e with
  | some ti => match fh h ti.sz x, lenOf x with
   | some ys, some m => match s with
    | .nils => if m = 0 then some (.nils, h) else
      if m * ti.bytes <= ca /\ 0 < ti.sz /\ m <= ca then some (.sl h.length ti.sz 0 m, h ++ [.cells e ys]) else none
    | .sl id sz off len => match h[id]? with
     | some (.cells e' xs) =>
      if lo <= id /\ e' = e /\ sz = ti.sz /\ off = 0 /\ len * sz = xs.length /\ 0 < sz /\ (len + m) * ti.bytes <= ca /\ len + m <= ca
      then some (.sl id sz 0 (len + m), h.set id (.cells e (xs ++ ys))) else none
     | _ => none
    | _ => none
   | _, _ => none
  | none => none
 | _ => none
def gf (kk : TK) : List (AV × AV) -> AV -> Option (Option AV)
 | [], _ => some none
 | (k, v) :: r, x => match gm kk x k with
  | some true => some (some v)
  | some false => gf kk r x
  | none => none
def gC (kk : TK) : List (AV × AV) -> AV -> AV -> Option (List (AV × AV))
 | [], x, y => some [(x, y)]
 | (k, v) :: r, x, y => match gm kk x k with
  | some true => some ((x, y) :: r)
  | some false => (gC kk r x y).map ((k, v) :: ·)
  | none => none
def fj (T : wb) (t : Nat) (x : AV) : Option TK :=
 match look T t, x with
 | some { kind := .int k, .. }, .int _ _ => some (.int k)
 | some { kind := .bool, .. }, .bool _ => some .bool
 | some { kind := .str, .. }, .str _ => some .str
 | _, _ => none
def qt (xs : List AV) (place : Nat -> Option (Nat × Nat)) : List (Nat × AV) -> Option (List AV)
 | [] => some xs
 | (i, v) :: r => match place i with
  | some (off, sz) => match cellsOf v with
   | some ys => if ys.length = sz /\ off + sz <= xs.length then qt (bb xs off ys) place r else none
   | none => none
  | none => none
def om (lt : Int -> Int -> Bool) : AV -> List AV -> Option AV
 | x, [] => some x
 | .int k a, .int k' b :: r => if k = k' then om lt (.int k (if lt b a then b else a)) r else none
 | _, _ => none
abbrev Callee := Nat -> Fn -> List AV -> aj -> Option (AV × aj)
def bh : AV -> Bool
 | .int .. | .bool _ | .str _ | .nils | .nilp | .nilm | .nilf | .nili | .vs .. => true
 | _ => false
def cv (sz : Nat) : Nat -> List AV -> List (List AV)
 | 0, _ => []
 | n + 1, xs => xs.take sz :: cv sz n (xs.drop sz)
def yx (h : aj) (lo : Nat) : AV -> Option AV
 | .sl id sz off len => match h[id]? with
  | some (.cells _ xs) => if lo <= id /\ off + len * sz = xs.length /\ xs.all bh = true then some (.vs sz (cv sz len (xs.drop off))) else none
  | _ => none
 | a => if bh a then some a else none
def Ah (h : aj) (lo : Nat) : List AV -> Option (List AV)
 | [] => some []
 | a :: l => match yx h lo a with
  | some b => match Ah h lo l with
   | some m => some (b :: m)
   | none => none
  | none => none
def er (h : aj) (lo : Nat) : AV -> Option AV
 | .sl id sz off len => match h[id]? with
  | some (.cells _ xs) => if lo <= id /\ off + len * sz = xs.length /\ xs.all bh = true then some (.vs sz (cv sz len (xs.drop off))) else
   match Ah h lo xs with
   | some ys => if lo <= id /\ off + len * sz = xs.length then some (.vs sz (cv sz len (ys.drop off))) else none
   | none => none
  | _ => none
 | a => if bh a then some a else none
def we (h : aj) (lo : Nat) : List AV -> Option (List AV)
 | [] => some []
 | a :: l => match er h lo a with
  | some b => match we h lo l with
   | some m => some (b :: m)
   | none => none
  | none => none
def i9 (h : aj) (lo : Nat) : AV -> Option AV
 | .agg xs => match we h lo xs with
  | some ys => some (.agg ys)
  | none => none
 | a => er h lo a
def mV (h : aj) (lo : Nat) : List AV -> Option (List AV)
 | [] => some []
 | a :: l => match i9 h lo a with
  | some b => match mV h lo l with
   | some m => some (b :: m)
   | none => none
  | none => none
def frz (h : aj) (lo : Nat) : AV -> Option AV
 | .tup xs => match mV h lo xs with
  | some ys => some (.tup ys)
  | none => none
 | a => i9 h lo a
def ja (cut : Bool) (h0 : aj) (a : AV) (h : aj) : Option (AV × aj) :=
 if cut then match frz h h0.length a with
  | some b => some (b, h0)
  | none => none
 else some (a, h)
structure Nz where
 top : Nat := 0
 row : List Nat := []
def lQ (n : Nat) : AV -> AV
 | .nils => if n = 0 then .nils else .vs n []
 | a => a
def eS : List Nat -> List AV -> List AV
 | n :: ns, a :: l => lQ n a :: eS ns l
 | _, l => l
def nzT (ns : List Nat) : List AV -> List AV
 | .agg xs :: l => .agg (eS ns xs) :: l
 | l => l
def Gz (z : Nz) : AV -> AV
 | .nils => lQ z.top .nils
 | .vs sz xs => .vs sz (xs.map (eS z.row))
 | .agg xs => .agg (eS z.row xs)
 | .tup xs => .tup (nzT z.row xs)
 | a => a
def fk (nz : Option Nz) (cut : Bool) (h0 : aj) (a : AV) (h : aj) : Option (AV × aj) :=
 match nz with
 | none => ja cut h0 a h
 | some z => match ja cut h0 a h with
  | some (b, h1) => some (Gz z b, h1)
  | none => none
def fm (lo : Nat) (r : AV × aj) : AV × aj := match r.1 with
 | .sl id sz off len => match r.2[id]? with
  | some (.cells _ xs) => if lo <= id /\ off + len * sz = xs.length /\ xs.all bh = true then (.vs sz (cv sz len (xs.drop off)), r.2.set id .dead) else r
  | _ => r
 | _ => r
def lR (z : Bool) (lo : Nat) (r : AV × aj) : AV × aj := match z with
 | true => fm lo r
 | false => r
structure dO where
 tab : wb
 esc : Nat -> List Nat
 live : Nat -> Nat -> Option (List Nat)
 eqs : List Nat
 cut : Nat -> Bool
 orc : Callee := fun _ _ _ _ => none
 fz : Nat -> List Nat := fun _ => []
 nz : Nat -> Option Nz := fun _ => none
 vw : Nat -> Bool := fun _ => false
 fr : Nat -> Nat -> List Nat := fun _ _ => []
 nb : Nat -> Nat -> List Nat := fun _ _ => []
 pin : Nat -> Nat -> Option (List (Nat × Nat) × List Nat) := fun _ _ => none
def builtin (T : wb) (lo : Nat) (b : Builtin) (ts : List TypeId) (xs : List AV) (h : aj) : Option (AV × aj) :=
 match b, ts, xs with
 | .len, t :: _, [x] => match look T t, x with
  | some { kind := .slice _, .. }, .nils => some (.int .i64 0, h)
  | some { kind := .slice _, .. }, .sl _ _ _ n => some (.int .i64 n, h)
  | some { kind := .slice _, .. }, .vs _ xs => some (.int .i64 xs.length, h)
  | some { kind := .str, .. }, .str b => some (.int .i64 b.size, h)
  | some { kind := .map _ _, .. }, .mp id => match h[id]? with
   | some (.map es) => some (.int .i64 es.length, h)
   | _ => none
  | _, _ => none
 | .append, [t, u], [s, x] => match look T u with
  | some { kind := .slice _, .. } => append T lo h t s x
  | _ => none
 | .min, _, x :: r => (om (fun b a => decide (b < a)) x r).map (·, h)
 | .max, _, x :: r => (om (fun b a => decide (a < b)) x r).map (·, h)
 | _, _, _ => none
def qu (l : List Nat) : Option Tmp -> Bool
 | some d => l.contains d
 | none => false
def aE (
     C : dO) (K : Callee) (f : Nat) (o : Oper) (s : St) : Option St :=
 match o.op with
 | .move x | .assign x => (s.slot x).map (s.put o.dst)
 | .pick c a b => match s.val c with
  | some (.bool true) => (s.slot a).map (s.put o.dst)
  | some (.bool false) => (s.slot b).map (s.put o.dst)
  | _ => none
 | .alloc t => match look C.tab t, o.dst with
  | some ti, some d =>
   if d ∈ C.esc f then some { s with env := (d, .v (.hp s.heap.length ti.sz 0)) :: s.env, heap := s.heap ++ [.cells t ti.zero] }
   else some { s with env := (d, .p d 0) :: tr d s.env, loc := (d, ti.zero) :: s.loc }
  | _, _ => none
 | .box t x => match o.dst, (s.val x).bind cellsOf with
  | some d, some ys =>
   if d ∈ C.esc f then some { s with env := (d, .v (.hp s.heap.length ys.length 0)) :: s.env, heap := s.heap ++ [.cells t ys] }
   else some { s with env := (d, .p d 0) :: tr d s.env, loc := (d, ys) :: s.loc }
  | _, _ => none
 | .build t parts => match look C.tab t, s.vals (parts.toList.map (·.2)) with
  | some { kind := .struct fs, zero, .. }, some vs =>
   (qt zero (fun i => match fs[i]? with
    | some (off, ft) => (look C.tab ft).map fun ti => (off, ti.sz)
    | none => none) ((parts.toList.map (·.1)).zip vs)).map fun cs => s.putv o.dst (.agg (eS (C.nb f t) cs))
  | _, _ => none
 | .buildSlice t len parts => match look C.tab t, s.vals (parts.toList.map (·.2)) with
  | some { kind := .slice e, .. }, some vs => match look C.tab e with
   | some ti =>
    if len * ti.sz <= 16777216 /\ 0 < ti.sz then
    match qt (List.replicate len ti.zero).flatten (fun i => some (i * ti.sz, ti.sz)) ((parts.toList.map (·.1)).zip vs) with
    | some cs =>
     if qu (C.fz f) o.dst then if cs.all bh = true then some (s.putv o.dst (.vs ti.sz (cv ti.sz len cs))) else none
     else some { s.putv o.dst (.sl s.heap.length ti.sz 0 len) with heap := s.heap ++ [.cells e cs] }
    | none => none
    else none
   | none => none
  | _, _ => none
 | .load t x => match look C.tab t, s.slot x with
  | some ti, some (.p d off) => match look s.loc d with
   | some xs => (part ti xs off).map (s.putv o.dst)
   | none => none
  | some ti, some (.v (.hp id n off)) => match s.heap[id]? with
   | some (.cells _ xs) => if n = xs.length then (part ti xs off).map (s.putv o.dst) else none
   | _ => none
  | some ti, some (.v (.rp xs)) => (part ti xs 0).map (s.putv o.dst)
  | _, _ => none
 | .store t x y => match look C.tab t, s.slot x, (s.val y).bind cellsOf with
  | some ti, some (.p d off), some ys => match look s.loc d with
   | some xs => if ys.length = ti.sz /\ off + ti.sz <= xs.length then
     some ({ s with loc := (d, bb xs off ys) :: s.loc }.putv o.dst (.tup [])) else none
   | none => none
  | some ti, some (.v (.hp id n off)), some ys => match s.heap[id]? with
   | some (.cells e xs) => if s.lo <= id /\ n = xs.length /\ ys.length = ti.sz /\ off + ti.sz <= xs.length then
     some ({ s with heap := s.heap.set id (.cells e (bb xs off ys)) }.putv o.dst (.tup [])) else none
   | _ => none
  | _, _, _ => none
 | .nilCheck x => match s.slot x with
  | some (.p d off) => some (s.put o.dst (.p d off))
  | some (.v (.hp id n off)) => some (s.putv o.dst (.hp id n off))
  | some (.v (.rp xs)) => some (s.putv o.dst (.rp xs))
  | _ => none
 | .fieldAddr t x j => match look C.tab t, s.slot x with
  | some { kind := .struct fs, .. }, some a => match fs[j]? with
   | some (off, ft) => match look C.tab ft with
    | some ti => if ti.sz = 0 then none else match a with
     | .p d o' => some (s.put o.dst (.p d (o' + off)))
     | .v (.hp id n o') => some (s.putv o.dst (.hp id n (o' + off)))
     | .v (.rp xs) => some (s.putv o.dst (.rp (xs.drop off)))
     | _ => none
    | none => none
   | none => none
  | _, _ => none
 | .field t x j => match look C.tab t, s.val x with
  | some { kind := .struct fs, .. }, some (.agg xs) => match fs[j]? with
   | some (off, ft) => match look C.tab ft with
    | some ti => (part ti xs off).map (s.putv o.dst)
    | none => none
   | none => none
  | _, _ => none
 | .indexAddr t x i => match look C.tab t, s.val x, s.val i with
  | some { kind := .slice e, .. }, some a, some (.int _ i) => match look C.tab e with
   | some ti => if 0 <= i then match a with
    | .sl id sz off len => match s.heap[id]? with
     | some (.cells _ xs) => if sz = ti.sz /\ i < len /\ off + len * sz = xs.length then some (s.putv o.dst (.hp id xs.length (off + i.toNat * sz))) else none
     | _ => none
    | .vs sz xs => if sz = ti.sz then (xs[i.toNat]?).map fun r => s.putv o.dst (.rp r) else none
    | _ => none
    else none
   | none => none
  | _, _, _ => none
 | .index t x i => match look C.tab t, s.val x, s.val i with
  | some { kind := .str, .. }, some (.str b), some (.int _ i) => if 0 <= i then (b[i.toNat]?).map fun c => s.putv o.dst (.int .u8 c.toNat) else none
  | _, _, _ => none
 | .binOp op t x y _ => match s.val x, s.val y with
  | some a, some b => (binop C.tab C.eqs op t a b).map (s.putv o.dst)
  | _, _ => none
 | .unOp op _ x => match s.val x with
  | some a => (Gy op a).map (s.putv o.dst)
  | none => none
 | .convert u t x => match look C.tab u, look C.tab t, s.val x with
  | some _, some { kind := .int k, .. }, some (.int _ n) => some (s.putv o.dst (.int k (k.wrap n)))
  | some _, some { kind := .str, .. }, some (.str b) => some (s.putv o.dst (.str b))
  | _, _, _ => none
 | .makeFunc (.func g) first caps => match s.vals caps.toList with
  | some vs => if first.isEmpty then some (s.putv o.dst (.fn (.func g) vs)) else none
  | none => none
 | .slice t x (some i) none none => match look C.tab t, s.val x, s.val i with
  | some { kind := .slice e, .. }, some (.vs sz xs), some (.int _ i) => match look C.tab e with
   | some ti => if sz = ti.sz /\ 0 <= i /\ i <= xs.length then some (s.putv o.dst (.vs sz (xs.drop i.toNat))) else none
   | none => none
  | _, _, _ => none
 | .makeSlice t x y => match look C.tab t, s.val x, s.val y with
  | some { kind := .slice e, .. }, some (.int _ n), some (.int _ m) => match look C.tab e with
   | some ti => if n = m /\ 0 <= n /\ n <= 65536 /\ 0 < ti.sz /\ ti.bytes <= 4294967296 then some { s.putv o.dst (.sl s.heap.length ti.sz 0 n.toNat) with heap := s.heap ++ [.cells e (List.replicate n.toNat ti.zero).flatten] } else none
   | none => none
  | _, _, _ => none
 | .makeMap _ none => some { s.putv o.dst (.mp s.heap.length) with heap := s.heap ++ [.map []] }
 | .lookup t m k ok => match look C.tab t, s.val m, s.val k with
  | some { kind := .map kt e, .. }, some (.mp id), some x => match s.heap[id]?, look C.tab e with
   | some (.map es), some ti => match fj C.tab kt x with
    | some kk => match gf kk es x with
     | some (some v) => some (s.putv o.dst (if ok then .tup [v, .bool true] else v))
     | some none => (part ti ti.zero 0).map fun v => s.putv o.dst (if ok then .tup [v, .bool false] else v)
     | none => none
    | none => none
   | _, _ => none
  | _, _, _ => none
 | .mapUpdate t m k x => match s.val m, s.val k, s.val x, look C.tab t with
  | some (.mp id), some k, some v, some { kind := .map kt _, .. } => match s.heap[id]? with
   | some (.map es) => match fj C.tab kt k with
    | some kk => if s.lo <= id then (gC kk es k v).map fun es' => { s with heap := s.heap.set id (.map es') }.putv o.dst (.tup []) else none
    | none => none
   | _ => none
  | _, _, _, _ => none
 | .extract x i => match s.val x with
  | some (.tup vs) => (vs[i]?).map (s.putv o.dst)
  | _ => none
 | .makeInterface t x => match look C.tab t, s.val x with
  | some { kind := .iface, .. }, _ => none
  | some _, some v => some (s.putv o.dst (.iface t v))
  | _, _ => none
 | .call c => match s.vals c.args.toList with
  | some vs => match c.callee with
   | .builtin b => (builtin C.tab s.lo b c.argTypes.toList vs s.heap).map fun r => { s.putv o.dst (lR (qu (C.fz f) o.dst) s.lo r).1 with heap := (lR (qu (C.fz f) o.dst) s.lo r).2 }
   | .value x => match s.val x with
    | some (.fn g caps) => (K s.lo g (vs ++ caps) s.heap).map fun r => { s.putv o.dst (lR (qu (C.fz f) o.dst) s.lo r).1 with heap := (lR (qu (C.fz f) o.dst) s.lo r).2 }
    | _ => none
   | .invoke .. => none
  | none => none
 | _ => none
def bG (ops : Array Oper) (o : Oper) (s : St) : Option Bool :=
 match o.guard with
 | none => some true
 | some (j, want) => match (ops[j]?).bind (·.dst) with
  | some d => match look s.env d with
   | some (.v (.bool b)) => some (b == want)
   | some (.v (.tup [])) => some false
   | _ => none
  | none => none
def dv (C : dO) (K : Callee) (f : Nat) (ops : Array Oper) : List Oper -> St -> Option St
 | [], s => some s
 | o :: r, s => match bG ops o s with
  | some true => match aE C K f o s with
   | some s' => dv C K f ops r s'
   | none => none
  | some false => dv C K f ops r (s.putv o.dst (.tup []))
  | none => none
inductive Ex where
 | normal
 | exit (id : Nat)
 | ret
def bJ : Code -> Nat
 | .region id _ _ => id
 | .seq a _ => bJ a
 | .block _ b => bJ b
 | .loop b => bJ b
 | _ => 0
def gI {α : Type} (l : List Nat) (env : List (Nat × α)) : List (Nat × α) := l.filterMap fun t => (look env t).map fun x => (t, x)
def keep (s : St) (l : List Nat) : St :=
 {s with env := l.filterMap fun t => (look s.env t).map fun x => (t, x), loc := l.filterMap fun t => (look s.loc t).map fun x => (t, x) }
def mW (l : Option (List Nat)) (s : St) : St :=
 match l with
 | some l => keep s l
 | none => s
def fo (step : St -> Option (Ex × St)) (l : Option (List Nat)) : Nat -> St -> Option (Ex × St)
 | 0, _ => none
 | n + 1, s => match step (mW l s) with
  | some (.normal, s') => fo step l n s'
  | r => r
def cF (ops : Array Oper) (o : Oper) : List Nat :=
 o.dst.toList ++ (o.op.operands.toList.filterMap fun | .tmp t => some t | _ => none) ++
  (match o.guard with | some (j, _) => ((ops[j]?).bind (·.dst)).toList | none => [])
def jV (acc : List Nat) (o : Oper) : Nat :=
 o.after.toList.foldl (fun s e => if Region.binds .any e then s ||| 2 ^ e.on ||| acc.getD e.on 0 else s) 0
def gM : List Oper -> List Nat -> List Nat
 | [], acc => acc
 | o :: r, acc => gM r (acc ++ [jV acc o])
def cR (ops : Array Oper) : List Nat := gM ops.toList []
def dH (b : List Nat) (n i : Nat) : Bool :=
 (List.range n).all fun j => j == i || (if j < i then (b.getD i 0).testBit j else (b.getD j 0).testBit i)
def Ai : Edge := ⟨4294967295, .textOnly .mixedOrders⟩
def CD (o : Oper) : Bool := o.after.toList.any fun e => e.on == 4294967295 && !Region.binds .any e
def gO (C : dO) (f : Nat) (o : Oper) : Bool := match o.op with
 | .alloc _ | .box .. => match o.dst with
  | some d => !(d ∈ C.esc f)
  | none => true
 | .store .. => true
 | .call _ => CD o
 | _ => false
def jo (C : dO) (K : Callee) (f : Nat) (ops : Array Oper) (o : Oper) (s : St) : Option St :=
 if gO C f o then none else
 match aE C K f o { s with env := gI (cF ops o) s.env, lo := s.heap.length } with
 | some s' => match o.dst with
  | none => some { s with heap := s.heap ++ s'.heap.drop s.heap.length }
  | some d => match look s'.env d with
   | some x => some { s with env := (d, x) :: s.env, heap := s.heap ++ s'.heap.drop s.heap.length }
   | none => none
 | none => none
def im (o : Oper) : Bool := o.guard.isNone && (match o.op with | .extract .. | .move _ | .load .. => true | _ => false) &&
 (match o.dst with | some d => o.op.operands.toList.all (fun | .tmp t => t != d | _ => true) | none => true)
def Gi : Go.Callee -> Bool
 | .builtin .append => true
 | _ => false
def et (o : Oper) : Bool := o.guard.isNone && (match o.op with | .store .. => o.dst.isNone | .call c => CD o && Gi c.callee | _ => false)
def iI (o : Oper) : Bool := o.guard.isNone && (match o.op with | .move _ | .build .. => true | _ => false)
def ES (b : List Nat) (n i : Nat) : List Nat := (List.range n).filter fun j => !(j == i || (if j < i then (b.getD i 0).testBit j else (b.getD j 0).testBit i))
def qv (C : dO) (k o : Oper) (s : St) : Bool := match k.op, o.op with
 | .load t x, .store _ y _ => match s.slot x, s.slot y, look C.tab t with
  | some (.p d off), some y, some ti => (match look s.loc d with
   | some xs => (part ti xs off).isSome
   | none => false) && (match y with
   | .p d' _ => d != d'
   | .v (.hp _ _ _) => true
   | _ => false)
  | _, _, _ => false
 | .load t x, .call _ => match s.slot x, look C.tab t with
  | some (.p d off), some ti => (match look s.loc d with
   | some xs => (part ti xs off).isSome
   | none => false)
  | _, _ => false
 | .load .., _ => false
 | _, _ => true
def io (C : dO) (ops : Array Oper) (b : List Nat) (o : Oper) (i : Nat) (s : St) : Bool := et o && match ES b ops.size i with
 | [k] => decide (k < i) && (match ops[k]? with
  | some ok => im ok && qv C ok o s && (List.range ops.size).all (fun j => decide (j <= i) || (b.getD j 0).testBit k || (match ops[j]? with
   | some oj => iI oj && ok.apart ops oj
   | none => false))
  | none => false)
 | _ => false
def qw (C : dO) (K : Callee) (f : Nat) (ops : Array Oper) (b : List Nat) (o : Oper) (i : Nat) (s : St) : Option St := match jo C K f ops o s with
 | some s' => some s'
 | none => if io C ops b o i s then aE C K f o s else none
theorem wf {C : dO} {K : Callee} {f : Nat} {ops : Array Oper} {b : List Nat} {o : Oper} {i : Nat} {s s' : St} (h : jo C K f ops o s = some s') : qw C K f ops b o i s = some s' := by
 unfold qw; rw [h]
theorem pp {C : dO} {K : Callee} {f : Nat} {ops : Array Oper} {o : Oper} {s : St} (h : et o = true) : jo C K f ops o s = none := by
 unfold et at h;unfold jo gO;cases ho : o.op <;> rw [ho] at h <;> simp at h ⊢;intro e;rw [h.2.1] at e; cases e
theorem yy {C : dO} {K : Callee} {f : Nat} {ops : Array Oper} {b : List Nat} {o : Oper} {i : Nat} {s s' : St} (hn : io C ops b o i s = true) (h : aE C K f o s = some s') : qw C K f ops b o i s = some s' := by
 have hs : jo C K f ops o s = none := pp (by unfold io at hn; exact (Bool.and_eq_true_iff.1 hn).1);unfold qw; rw [hs]; dsimp only; rw [if_pos hn, h]
def eu (C : dO) (K : Callee) (f : Nat) (ops : Array Oper) (b : List Nat) : List Oper -> Nat -> St -> Option St
 | [], _, s => some s
 | o :: r, i, s => match bG ops o s with
  | some true => match (if dH b ops.size i then aE C K f o s else qw C K f ops b o i s) with
   | some s' => eu C K f ops b r (i + 1) s'
   | none => none
  | some false => eu C K f ops b r (i + 1) (s.putv o.dst (.tup []))
  | none => none
def cI (ops : Array Oper) : Bool :=
 let b := cR ops
 (List.range ops.size).all fun i => match ops[i]? with
  | none => false
  | some o => (o.after.all fun e => !Region.binds .any e || decide (e.on < i)) &&
   (List.range ops.size).all fun j => j == i || (match (ops[j]?).bind (·.dst) with
    | some d => !((cF ops o).contains d) || (if j < i then (b.getD i 0).testBit j else (b.getD j 0).testBit i)
    | none => true)
def dl (y : Nat) (e : Edge) : List Oper -> List Oper
 | [] => []
 | o :: r => match y with
  | 0 => { o with after := o.after.push e } :: r
  | y + 1 => o :: dl y e r
def Bf : List Nat -> Array Oper -> Array Oper
 | [], ops => ops
 | i :: l, ops => Bf l ⟨dl i Ai ops.toList⟩
def pU : List (Nat × Nat) -> List Nat -> Array Oper -> Array Oper
 | [], m, ops => Bf m ops
 | (x, y) :: l, m, ops => pU l m ⟨dl y ⟨x, .data⟩ ops.toList⟩
def dw (ops : Array Oper) : Array Oper := ⟨ops.toList.take (ops.size - 3)⟩
def uR (d : Nat) : Operand -> Bool
 | .tmp t => t != d
 | _ => true
def oo (o0 o1 o2 : Oper) : Bool := match o0.op, o0.dst, o1.op, o2.op with
 | .indexAddr _ _ _, some d, .store _ _ _, .store _ z y => o0.guard.isNone && o1.guard.isNone && o2.guard.isNone && o1.dst.isNone && o2.dst.isNone && uR d z && uR d y
 | _, _, _, _ => false
def ml (ops : Array Oper) : Bool := decide (3 < ops.size) && (match ops[ops.size - 3]?, ops[ops.size - 2]?, ops[ops.size - 1]? with
 | some o0, some o1, some o2 => oo o0 o1 o2
 | _, _, _ => false) && !((cR ops).getD (ops.size - 1) 0).testBit (ops.size - 2) && ((cR ops).getD (ops.size - 2) 0).testBit (ops.size - 3) &&
 (List.range 3).all (fun k => (List.range (ops.size - 3)).all fun j => ((cR ops).getD (ops.size - 3 + k) 0).testBit j) &&
 (List.range (ops.size - 3)).all (fun j => match ops[j]? with
  | some o => match o.guard with
   | some (i, _) => decide (i < ops.size - 3)
   | none => true
  | none => false) && cI (dw ops)
def jp (o0 o1 o2 : Oper) (s1 s2 : St) : Bool := match o0.op, o1.op, o2.op with
 | .indexAddr _ x _, .store _ y _, .store _ z _ => match s1.val x, s2.slot y, s2.slot z with
  | some (.sl a _ _ _), some (.v (.hp b _ _)), some (.v (.hp c _ _)) => a != c && b != c
  | _, _, _ => false
 | _, _, _ => false
def CE (C : dO) (K : Callee) (f : Nat) (ops : Array Oper) (s : St) : Option St :=
 match eu C K f (dw ops) (cR (dw ops)) (dw ops).toList 0 s with
 | some s1 => match ops[ops.size - 3]?, ops[ops.size - 2]?, ops[ops.size - 1]? with
  | some o0, some o1, some o2 => match aE C K f o0 s1 with
   | some s2 => if jp o0 o1 o2 s1 s2 then match aE C K f o1 s2 with
    | some s3 => aE C K f o2 s3
    | none => none
    else none
   | none => none
  | _, _, _ => none
 | none => none
def mX (C : dO) (K : Callee) (f : Nat) (ops : Array Oper) (s : St) : Option St :=
 if ml ops then CE C K f ops s else eu C K f ops (cR ops) ops.toList 0 s
def oq (ops : Array Oper) (k : Nat) : Bool := match ops[k]? with
 | some o => o.guard.isNone && (match o.op with | .move _ => true | _ => false) && o.after.toList.all (fun e => !Region.binds .any e) && ops.toList.all (fun o => match o.op with | .select .. => false | _ => true) &&
  (List.range ops.size).all fun j => j == k || (match ops[j]? with
   | some oj => oj.guard.isNone && (oj.after.toList.any (fun e => Region.binds .any e && e.on == k) || o.apart ops oj)
   | none => true)
 | none => false
def follows (ops : Array Oper) (k i : Nat) : Bool := (List.range ops.size).all fun j => match ops[j]? with
 | some oj => !oj.after.toList.any (fun e => Region.binds .any e && e.on == k) || ((cR ops).getD j 0).testBit i
 | none => true
def uS (ops : Array Oper) (x y : Nat) : Bool := cI ops && decide (x < y) && decide (y < ops.size) && (oq ops x || oq ops y && follows ops y x)
def qa : List (Nat × Nat) -> List Nat -> Array Oper -> Bool
 | [], m, ops => cI (Bf m ops)
 | (x, y) :: l, m, ops => uS ops x y && qa l m ⟨dl y ⟨x, .data⟩ ops.toList⟩
def Aj (es : List (Nat × Nat)) (hs : List Nat) (ops : Array Oper) : Bool := (ops.toList.all fun o => o.guard.isNone) && qa es hs ops
def yz (C : dO) (K : Callee) (f id : Nat) (ops : Array Oper) (s : St) : Option St := match C.pin f id with
 | none => mX C K f ops s
 | some (es, hs) => if Aj es hs ops && !s.inRound then eu C K f (pU es hs ops) (cR (pU es hs ops)) (pU es hs ops).toList 0 s else none
def jW (t : Nat) (s : St) : St :=
 match look s.env t with
 | some (.v (.sl id sz off len)) => match s.heap[id]? with
  | some (.cells _ xs) => if s.lo <= id /\ off + len * sz = xs.length /\ xs.all bh = true then { s with env := (t, .v (.vs sz (cv sz len (xs.drop off)))) :: s.env, heap := s.heap.set id .dead } else s
  | _ => s
 | _ => s
def b7 : List Nat -> St -> St
 | [], s => s
 | t :: l, s => b7 l (jW t s)
def cf (C : dO) (K : Callee) (f : Nat) (fuel : Nat) : Code -> St -> Option (Ex × St)
 | .skip, s => some (.normal, s)
 | .region id ops draw, s => (if draw then yz C K f id ops (b7 (C.fr f id) s) else dv C K f ops ops.toList (b7 (C.fr f id) s)).map (Ex.normal, ·)
 | .seq a b, s => match cf C K f fuel a s with
  | some (.normal, s') => cf C K f fuel b s'
  | r => r
 | .cond c x y, s => match s.val c with
  | some (.bool true) => cf C K f fuel x s
  | some (.bool false) => cf C K f fuel y s
  | _ => none
 | .block id b, s => match cf C K f fuel b s with
  | some (.exit i, s') => if i == id then some (.normal, s') else some (.exit i, s')
  | r => r
 | .loop b, s => fo (cf C K f fuel b) (C.live f (bJ b)) fuel s
 | .rangeFunc g ps assign body, s => match s.val g, s.inRound with
  | some (.fn (.func h) caps), false =>
   let l := s.heap.length
   if s.lo <= l then
   let rec_ : fL := { fn := f, env := s.env.map fun x => (x.1, match x.2 with | .v a => co.v a | _ => co.junk), params := ps.toList, assign, body, st := 0, pending := none }
   match K s.lo (.func h) ([.fn (.yield l) []] ++ caps) (s.heap ++ [.loop rec_]) with
   | some (_, heap') => match heap'[l]? with
    | some (.loop r) => if r.st = 1 then none else match r.pending with
     | none => some (.normal, { s with heap := heap'.set l .dead })
     | some .ret => some (.ret, { s with heap := heap'.set l .dead })
     | some (.exit id) => some (.exit id, { s with heap := heap'.set l .dead })
     | _ => none
    | _ => none
   | none => none
   else none
  | _, _ => none
 | .exit id, s => some (.exit id, s)
 | .ret, s => some (.ret, s)
 | .label _, s => some (.normal, s)
 | _, _ => none
def ip (C : dO) (s : St) : ResultVar -> Option AV
 | .tmp t => match look s.env t with
  | some (.v a) => some a
  | _ => none
 | .cell a t => match look C.tab t, look s.env a with
  | some ti, some (.p d off) => match look s.loc d with
   | some xs => part ti xs off
   | none => none
  | some ti, some (.v (.hp id n off)) => match s.heap[id]? with
   | some (.cells _ xs) => if n = xs.length then part ti xs off else none
   | _ => none
  | _, _ => none
def cP (C : dO) (s : St) : List ResultVar -> Option (List AV)
 | [] => some []
 | r :: l => match ip C s r with
  | some a => match cP C s l with
   | some m => some (a :: m)
   | none => none
  | none => none
def jb : Nat -> List AV -> List (Nat × co)
 | _, [] => []
 | n, a :: l => (n, .v a) :: jb (n + 1) l
def g9 : List (Nat × co) -> List Nat -> List AV -> List (Nat × co)
 | env, p :: ps, a :: as => g9 ((p, .v a) :: env) ps as
 | env, _, _ => env
def qx : AV -> Bool
 | .int .. | .bool _ | .str _ | .nils | .nilp | .nilm | .nilf | .nili => true
 | _ => false
def CF : List AV -> Bool
 | [] => false
 | .sl _ _ _ _ :: _ => true
 | _ :: l => CF l
def uT (C : dO) (K : Callee) (f : Nat) (args : List AV) (h : aj) : Option (AV × aj) :=
 match C.vw f && CF args with
 | false => none
 | true => match mV h 0 args with
  | some xs => match K 0 (.func f) xs [] with
   | some (r, _) => match qx r with
    | true => some (r, h)
    | false => none
   | none => none
  | none => none
def call (P : Program) (C : dO) : Nat -> Callee
 | 0, _, _, _, _ => none
 | k + 1, lo, .func f, args, h => match C.orc lo (.func f) args h with
  | some r => some r
  | none => match uT C (call P C k) f args h with
  | some r => some r
  | none => match P.funcs[f]? with
  | some fn => match fn.body with
   | some b =>
    if args.length <= fn.ntmps then
    match cf C (call P C k) f k b { env := jb 0 args, loc := [], heap := h, inRound := false, lo := if C.cut f then h.length else lo } with
    | some (.normal, s) | some (.ret, s) => match cP C s fn.results.toList with
     | some [a] => fk (C.nz f) (C.cut f) h a s.heap
     | some l => fk (C.nz f) (C.cut f) h (.tup l) s.heap
     | none => none
    | _ => none
    else none
   | none => none
  | none => none
 | k + 1, lo, .yield l, args, h => match h[l]? with
  | some (
      .loop r) =>
   if lo <= l /\ r.st = 0 /\ args.length = r.params.length then
    match cf C (call P C k) r.fn k r.assign { env := g9 r.env r.params args, loc := [], heap := h, inRound := true, lo := lo } with
    | some (.normal, s) => match s.heap[l]? with
     | some (.loop r1) => if r1.st = 0 then
      match cf C (call P C k) r.fn k r.body { s with heap := s.heap.set l (.loop { r1 with st := 1 }) } with
      | some (e, s') => match s'.heap[l]? with
       | some (.loop r') => match e with
        | .normal => some (.bool true, s'.heap.set l (.loop { r' with st := 0, pending := none }))
        | .ret => some (.bool false, s'.heap.set l (.loop { r' with st := 2, pending := some .ret }))
        | .exit i => some (.bool false, s'.heap.set l (.loop { r' with st := 2, pending := some (.exit i) }))
       | _ => none
      | none => none
      else none
     | _ => none
    | _ => none
   else none
  | _ => none
 | _ + 1, _, _, _, _ => none
def dU (n : Nat) (ops : Array Oper) : Bool := ops.toList.all fun o => match o.dst with | some d => decide (d < n) | none => true
def da (n : Nat) : Code -> Bool
 | .region _ ops draw => dU n ops && (!draw || cI ops)
 | .seq a b => da n a && da n b
 | .cond _ a b => da n a && da n b
 | .block _ b => da n b
 | .loop b => da n b
 | .rangeFunc _ ps a b => ps.all (· < n) && da n a && da n b
 | _ => true
structure aX where
 H : aj
 ρ : Nat -> Option Nat
 S : Nat -> Prop
 w : World
inductive fS (S : Nat -> Prop) (w : World) : AV -> Value -> Prop
 | int (k : IntKind) (n : Int) : fS S w (.int k n) (.int k n)
 | bool (b : Bool) : fS S w (.bool b) (.bool b)
 | str (s : ByteArray) : fS S w (.str s) (.string s)
 | nils : fS S w .nils (.slice none 0 0)
 | nilp : fS S w .nilp (.pointer none)
 | nilm : fS S w .nilm (.map none)
 | nilf : fS S w .nilf .nilFunc
 | nili : fS S w .nili .nilIface
 | vs {sz : Nat} {xs : List (List AV)} {A : Option Addr} {n c : Nat} (g : Nat -> Nat -> Value) (hn : n = xs.length) (hc : n <= c) (hsz : ∀ r, r ∈ xs -> r.length = sz /\ ∀ x, x ∈ r -> oneCell x = true)
   (hA : 0 < n -> ∃ ad, A = some ad) (hmem : ∀ ad, A = some ad -> ∀ i j, i < n -> j < sz -> w.cell? (ad.add (i * sz + j)) = some (g i j) /\ S ad.block)
   (hrel : ∀ i j r x, xs[i]? = some r -> r[j]? = some x -> fS S w x (g i j)) : fS S w (.vs sz xs) (.slice A n c)
inductive aD (Γ : aX) : AV -> Value -> Prop
 | int (k : IntKind) (n : Int) : aD Γ (.int k n) (.int k n)
 | bool (b : Bool) : aD Γ (.bool b) (.bool b)
 | str (s : ByteArray) : aD Γ (.str s) (.string s)
 | nils : aD Γ .nils (.slice none 0 0)
 | nilp : aD Γ .nilp (.pointer none)
 | nilm : aD Γ .nilm (.map none)
 | nilf : aD Γ .nilf .nilFunc
 | nili : aD Γ .nili .nilIface
 | sl {id sz off len : Nat} {v : Value} (hin : id < Γ.H.length) (h1 : ∃ ad c, v = .slice (some ad) len c)
   (h : ∀ (T : Nat) (xs : List AV), Γ.H[id]? = some (.cells T xs) -> off + len * sz <= xs.length /\ (off + len * sz = xs.length ->
    ∃ (b c : Nat) (arr : Array Value) (T' : TypeId) (fr : Nat × Nat), Γ.ρ id = some b /\ v = .slice (some ⟨b, off, none⟩) len c /\ len <= c /\ Γ.w.heap[b]? = some (.cells arr T' fr) /\ off + c * sz <= arr.size)) :
   aD Γ (.sl id sz off len) v
 | hp {id n off : Nat} {v : Value} (hin : id < Γ.H.length) (h1 : ∃ ad, v = .pointer (some ad))
   (h : ∀ (T : Nat) (xs : List AV), Γ.H[id]? = some (.cells T xs) -> n <= xs.length /\ (n = xs.length -> ∃ b, Γ.ρ id = some b /\ v = .pointer (some ⟨b, off, none⟩))) :
   aD Γ (.hp id n off) v
 | mp {id : Nat} {v : Value} (hin : id < Γ.H.length) (h1 : ∃ b, v = .map (some b)) (h : ∀ es, Γ.H[id]? = some (.map es) -> ∃ b, Γ.ρ id = some b /\ v = .map (some b)) : aD Γ (.mp id) v
 | vs {sz : Nat} {xs : List (List AV)} {v : Value} (h : fS Γ.S Γ.w (.vs sz xs) v) : aD Γ (.vs sz xs) v
 | rp {xs : List AV} {ad : Addr} (g : Nat -> Value) (h1 : ∀ x, x ∈ xs -> oneCell x = true) (hmem : ∀ j, j < xs.length -> Γ.w.cell? (ad.add j) = some (g j) /\ Γ.S ad.block)
   (hrel : ∀ j x, xs[j]? = some x -> fS Γ.S Γ.w x (g j)) : aD Γ (.rp xs) (.pointer (some ad))
 | fn {f : FuncId} {caps : List AV} {vs : Array Value} (hn : vs.size = caps.length) (hrel : ∀ i x, caps[i]? = some x -> aD Γ x (vs.getD i undef)) :
   aD Γ (.fn (.func f) caps) (.func (.func f) #[] vs)
 | yield {id : Nat} {v : Value} (hin : id < Γ.H.length) (h1 : ∃ b, v = .func (.yield b) #[] #[]) (h : ∀ r, Γ.H[id]? = some (.loop r) -> ∃ b, Γ.ρ id = some b /\ v = .func (.yield b) #[] #[]) :
   aD Γ (.fn (.yield id) []) v
 | agg {xs : List AV} {vs : Array Value} (hn : vs.size = xs.length) (h1 : ∀ x, x ∈ xs -> oneCell x = true) (hrel : ∀ i x, xs[i]? = some x -> aD Γ x (vs.getD i undef)) : aD Γ (.agg xs) (.agg vs)
 | tup {xs : List AV} {vs : Array Value} (hn : vs.size = xs.length) (hrel : ∀ i x, xs[i]? = some x -> aD Γ x (vs.getD i undef)) : aD Γ (.tup xs) (.tuple vs)
 | iface {t : Nat} {a : AV} {v : Value} (h : aD Γ a v) : aD Γ (.iface t a) (.iface t v)
theorem fS.toV {Γ : aX} {a : AV} {v : Value} (h : fS Γ.S Γ.w a v) : aD Γ a v := by
 cases h with
 | int k n => exact .int k n
 | bool b => exact .bool b
 | str s => exact .str s
 | nils => exact .nils
 | nilp => exact .nilp
 | nilm => exact .nilm
 | nilf => exact .nilf
 | nili => exact .nili
 | vs g hn hc hsz hA hmem hrel => exact .vs (.vs g hn hc hsz hA hmem hrel)
theorem aD.toT {Γ : aX} {a : AV} {v : Value} (h : aD Γ a v) (hs : bh a = true) : fS Γ.S Γ.w a v := by
 cases h <;> first | (cases hs; done) | skip
 ·exact .int _ _
 ·exact .bool _
 ·exact .str _
 ·exact .nils
 ·exact .nilp
 ·exact .nilm
 ·exact .nilf
 ·exact .nili
 ·assumption
theorem fS.mono {S S' : Nat -> Prop} {w w' : World} (hS : ∀ b, S b -> S' b /\ w'.heap[b]? = w.heap[b]?) {a : AV} {v : Value} (h : fS S w a v) : fS S' w' a v := by
 induction h with
 | int k n => exact .int k n
 | bool b => exact .bool b
 | str s => exact .str s
 | nils => exact .nils
 | nilp => exact .nilp
 | nilm => exact .nilm
 | nilf => exact .nilf
 | nili => exact .nili
 | vs g hn hc hsz hA hmem _ ih =>
  refine .vs g hn hc hsz hA (fun ad ha i j hi hj => ?_) ih;obtain ⟨h1, h2⟩ := hmem ad ha i j hi hj;obtain ⟨h3, h4⟩ := hS _ h2;refine ⟨?_, h3⟩;rw [<- h1];have hbl : ∀ n, (ad.add n).block = ad.block := fun n => by unfold Addr.add; split <;> rfl
  unfold World.cell?;rw [hbl, h4]
def jc (Γ : aX) (β : Nat -> Nat) : co -> Value -> Prop
 | .v a, v => aD Γ a v
 | .p d off, v => v = .pointer (some ⟨β d, off, none⟩)
 | .junk, _ => True
structure Bg (Γ : aX) (r : fL) (l : Loop) : Prop where
 params : l.params.toList = r.params
 assign : l.assign = r.assign
 body : l.body = r.body
 pending : l.pending = r.pending
 st0 : r.st = 0 -> l.state = .ready
 st1 : r.st ≠ 1 -> l.state ≠ .busy
 env : ∀ (t : Nat) (a : AV), look r.env t = some (.v a) -> t < l.tmps.size /\ aD Γ a (l.tmps.getD t undef)
 nop : ∀ (t d o : Nat), look r.env t ≠ some (.p d o)
 lt : ∀ (t : Nat) (x : co), look r.env t = some x -> t < l.tmps.size
 ok : da l.tmps.size r.assign = true /\ da l.tmps.size r.body = true /\ ∀ t, t ∈ r.params -> t < l.tmps.size
def sX (ms : Array MapEntry) (clock : Nat) : Prop := (∀ x, x ∈ ms.toList -> x.born < clock) /\ (ms.toList.map (·.born)).Nodup
structure dM (base : Nat) (Γ : aX) : Prop where
 dom : ∀ id b, Γ.ρ id = some b -> id < Γ.H.length /\ b < Γ.w.heap.size /\ base <= b /\ ¬ Γ.S b
 inj : ∀ id id' b, Γ.ρ id = some b -> Γ.ρ id' = some b -> id = id'
 cells : ∀ (id b T : Nat) (xs : List AV), Γ.ρ id = some b -> Γ.H[id]? = some (.cells T xs) ->
  ∃ arr : Array Value, Γ.w.heap[b]? = some (.cells arr T (0, 0)) /\ xs.length <= arr.size /\ (∀ x, x ∈ xs -> oneCell x = true) /\ ∀ (i : Nat) (x : AV), xs[i]? = some x -> aD Γ x (arr.getD i undef)
 map : ∀ (id b : Nat) (es : List (AV × AV)), Γ.ρ id = some b -> Γ.H[id]? = some (.map es) ->
  ∃ (ms : Array MapEntry) (clock : Nat), Γ.w.heap[b]? = some (.map ms clock) /\ ms.size = es.length /\ (∀ (i : Nat) (e : AV × AV), es[i]? = some e -> ∃ m : MapEntry, ms[i]? = some m /\ aD Γ e.1 m.key /\ aD Γ e.2 m.val) /\ sX ms clock
 loop : ∀ (id b : Nat) (r : fL), Γ.ρ id = some b -> Γ.H[id]? = some (.loop r) -> ∃ l : Loop, Γ.w.heap[b]? = some (.loop l) /\ Bg Γ r l
 stab : ∀ b, Γ.S b -> b < Γ.w.heap.size
structure cA (lo : Nat) (B : Nat -> Prop) (Γ Γ' : aX) : Prop where
 len : Γ.H.length <= Γ'.H.length
 cells : ∀ (id T : Nat) (xs' : List AV), id < Γ.H.length -> Γ'.H[id]? = some (.cells T xs') -> ∃ xs : List AV, Γ.H[id]? = some (.cells T xs) /\ (xs.length < xs'.length \/ (xs.length = xs'.length /\ Γ'.ρ id = Γ.ρ id))
 map : ∀ (id : Nat) (es' : List (AV × AV)), id < Γ.H.length -> Γ'.H[id]? = some (.map es') -> ∃ es, Γ.H[id]? = some (.map es) /\ Γ'.ρ id = Γ.ρ id
 loop : ∀ (id : Nat) (r' : fL), id < Γ.H.length -> Γ'.H[id]? = some (.loop r') -> ∃ r, Γ.H[id]? = some (.loop r) /\ Γ'.ρ id = Γ.ρ id
 absent : ∀ id, id < Γ.H.length -> Γ.ρ id = none -> Γ'.ρ id = none
 barrier : ∀ id, id < lo -> id < Γ.H.length -> Γ'.H[id]? = Γ.H[id]? /\ Γ'.ρ id = Γ.ρ id /\ ∀ b, Γ.ρ id = some b -> b < Γ.w.heap.size -> Γ'.w.heap[b]? = Γ.w.heap[b]?
 sizes : ∀ (b : Nat) (arr : Array Value) (T : TypeId) (fr : Nat × Nat), Γ.w.heap[b]? = some (.cells arr T fr) -> ∃ (arr' : Array Value) (fr' : Nat × Nat), Γ'.w.heap[b]? = some (.cells arr' T fr') /\ arr'.size = arr.size
 keep : ∀ b, b < Γ.w.heap.size -> (∀ id, Γ.ρ id ≠ some b) -> ¬ B b -> Γ'.w.heap[b]? = Γ.w.heap[b]?
 fresh : ∀ id b, Γ'.ρ id = some b -> (∃ id0, Γ.ρ id0 = some b) \/ Γ.w.heap.size <= b
 stab : ∀ b, Γ.S b -> Γ'.S b
 stabN : ∀ b, Γ'.S b -> Γ.S b \/ (∃ id, Γ.ρ id = some b) \/ Γ.w.heap.size <= b
 size : Γ.w.heap.size <= Γ'.w.heap.size
 os : Γ'.w.os = Γ.w.os
 tape : Γ'.w.tape = Γ.w.tape
 output : Γ'.w.output = Γ.w.output
theorem cA.refl (lo : Nat) (B : Nat -> Prop) (Γ : aX) : cA lo B Γ Γ where
 len := Nat.le_refl _
 cells _ _ xs' _ h := ⟨xs', h, .inr ⟨rfl, rfl⟩⟩
 map _ es' _ h := ⟨es', h, rfl⟩
 loop _ r' _ h := ⟨r', h, rfl⟩
 absent _ _ h := h
 barrier _ _ _ := ⟨rfl, rfl, fun _ _ _ => rfl⟩
 sizes _ arr _ fr h := ⟨arr, fr, h, rfl⟩
 keep _ _ _ _ := rfl
 fresh id b h := .inl ⟨id, h⟩
 stab _ h := h
 stabN _ h := .inl h
 size := Nat.le_refl _
 os := rfl
 tape := rfl
 output := rfl
theorem aV {H : aj} {id : Nat} {o : ap} (h : H[id]? = some o) : id < H.length := by
 rcases Nat.lt_or_ge id H.length with h' | h'
 ·exact h'
 ·rw [List.getElem?_eq_none h'] at h; cases h
theorem cA.trans {lo lo' : Nat} {B B' : Nat -> Prop} {Γ Γ1 Γ2 : aX} (h : cA lo B Γ Γ1) (k : cA lo' B' Γ1 Γ2) (hlo : lo <= lo') (hB : ∀ b, b < Γ.w.heap.size -> (∀ id, Γ.ρ id ≠ some b) -> B' b -> B b) : cA lo B Γ Γ2 where
 len := Nat.le_trans h.len k.len
 cells id T xs' hid h2 := by
  obtain ⟨xs1, h1, c1⟩ := k.cells id T xs' (Nat.lt_of_lt_of_le hid h.len) h2;obtain ⟨xs, h0, c0⟩ := h.cells id T xs1 hid h1;refine ⟨xs, h0, ?_⟩;rcases c0 with c0 | ⟨c0, e0⟩
  ·rcases c1 with c1 | ⟨c1, e1⟩ <;> (left; omega)
  ·rcases c1 with c1 | ⟨c1, e1⟩
   ·left; omega
   ·exact .inr ⟨by omega, e1.trans e0⟩
 map id es' hid h2 := by
  obtain ⟨es1, h1, e1⟩ := k.map id es' (Nat.lt_of_lt_of_le hid h.len) h2;obtain ⟨es, h0, e0⟩ := h.map id es1 hid h1;exact ⟨es, h0, e1.trans e0⟩
 loop id r' hid h2 := by
  obtain ⟨r1, h1, e1⟩ := k.loop id r' (Nat.lt_of_lt_of_le hid h.len) h2;obtain ⟨r, h0, e0⟩ := h.loop id r1 hid h1;exact ⟨r, h0, e1.trans e0⟩
 absent id hid h0 := k.absent id (Nat.lt_of_lt_of_le hid h.len) (h.absent id hid h0)
 barrier id hl hid := by
  obtain ⟨a, b, e⟩ := h.barrier id hl hid;obtain ⟨c, d, e'⟩ := k.barrier id (by omega) (Nat.lt_of_lt_of_le hid h.len);exact ⟨c.trans a, d.trans b, fun x hx hlt => (e' x (b.trans hx) (Nat.lt_of_lt_of_le hlt h.size)).trans (e x hx hlt)⟩
 sizes b arr T fr h0 := by
  obtain ⟨a1, f1, h1, s1⟩ := h.sizes b arr T fr h0;obtain ⟨a2, f2, h2, s2⟩ := k.sizes b a1 T f1 h1;exact ⟨a2, f2, h2, s2.trans s1⟩
 keep b hb hρ hnB := by
  rw [<- h.keep b hb hρ hnB];refine k.keep b (Nat.lt_of_lt_of_le hb h.size) (fun id e => ?_) (fun e => hnB (hB b hb hρ e));rcases h.fresh id b e with ⟨id0, e0⟩ | e0
  ·exact hρ id0 e0
  ·omega
 fresh id b e := by
  rcases k.fresh id b e with ⟨id1, e1⟩ | e1
  ·exact h.fresh id1 b e1
  ·have := h.size; right; omega
 stab b hb := k.stab b (h.stab b hb)
 stabN b hb := by
  rcases k.stabN b hb with h1 | ⟨id1, h1⟩ | h1
  ·exact h.stabN b h1
  ·rcases h.fresh id1 b h1 with h2 | h2
   ·exact .inr (.inl h2)
   ·exact .inr (.inr h2)
  ·have := h.size; exact .inr (.inr (by omega))
 size := Nat.le_trans h.size k.size
 os := k.os.trans h.os
 tape := k.tape.trans h.tape
 output := k.output.trans h.output
theorem cA.weaken {lo lo' : Nat} {B B' : Nat -> Prop} {Γ Γ' : aX} (h : cA lo B Γ Γ') (hlo : lo' <= lo) (hB : ∀ b, b < Γ.w.heap.size -> B b -> B' b) : cA lo' B' Γ Γ' where
 len := h.len
 cells := h.cells
 map := h.map
 loop := h.loop
 absent := h.absent
 barrier id hl hid := h.barrier id (by omega) hid
 sizes := h.sizes
 keep b hb hρ hn := h.keep b hb hρ (fun e => hn (hB b hb e))
 fresh := h.fresh
 stab := h.stab
 stabN := h.stabN
 size := h.size
 os := h.os
 tape := h.tape
 output := h.output
theorem mY {w w' : World} {a : Addr} (h : w'.heap[a.block]? = w.heap[a.block]?) : w'.cell? a = w.cell? a := by
 unfold World.cell?; rw [h]
theorem hZ (a : Addr) (n : Nat) : (a.add n).block = a.block := by unfold Addr.add; split <;> rfl
theorem cA.stable {lo : Nat} {B : Nat -> Prop} {base : Nat} {Γ Γ' : aX} (h : cA lo B Γ Γ') (I : dM base Γ) {b : Nat} (hs : Γ.S b) (hB : ∀ b, Γ.S b -> ¬ B b) : Γ'.w.heap[b]? = Γ.w.heap[b]? :=
 h.keep b (I.stab b hs) (fun id e => (I.dom id b e).2.2.2 hs) (hB b hs)
theorem aD.ext {lo : Nat} {B : Nat -> Prop} {base : Nat} {Γ Γ' : aX} (h : cA lo B Γ Γ') (I : dM base Γ) (hB : ∀ b, Γ.S b -> ¬ B b) {a : AV} {v : Value} (hr : aD Γ a v) : aD Γ' a v := by
 induction hr with
 | int k n => exact .int k n
 | bool b => exact .bool b
 | str s => exact .str s
 | nils => exact .nils
 | nilp => exact .nilp
 | nilm => exact .nilm
 | nilf => exact .nilf
 | nili => exact .nili
 | @sl id sz off len v hin h1_ h0 =>
  refine .sl (Nat.lt_of_lt_of_le hin h.len) h1_ fun T xs' hx => ?_
  obtain ⟨xs, h1, hc⟩ := h.cells id T xs' hin hx;obtain ⟨h2, h3⟩ := h0 T xs h1;rcases hc with hc | ⟨hc, he⟩
  ·exact ⟨by omega, fun e => absurd e (by omega)⟩
  ·refine ⟨by omega, fun e => ?_⟩
   obtain ⟨b, c, arr, T', fr, hb, hv, hcl, hh, hsz⟩ := h3 (by omega);obtain ⟨arr', fr', hh', hs'⟩ := h.sizes b arr T' fr hh;exact ⟨b, c, arr', T', fr', he.trans hb, hv, hcl, hh', by omega⟩
 | @hp id n off v hin h1_ h0 =>
  refine .hp (Nat.lt_of_lt_of_le hin h.len) h1_ fun T xs' hx => ?_
  obtain ⟨xs, h1, hc⟩ := h.cells id T xs' hin hx;obtain ⟨h2, h3⟩ := h0 T xs h1;rcases hc with hc | ⟨hc, he⟩
  ·exact ⟨by omega, fun e => absurd e (by omega)⟩
  ·refine ⟨by omega, fun e => ?_⟩
   obtain ⟨b, hb, hv⟩ := h3 (by omega);exact ⟨b, he.trans hb, hv⟩
 | @mp id v hin h1_ h0 =>
  refine .mp (Nat.lt_of_lt_of_le hin h.len) h1_ fun es' hx => ?_
  obtain ⟨es, h1, he⟩ := h.map id es' hin hx;obtain ⟨b, hb, hv⟩ := h0 es h1;exact ⟨b, he.trans hb, hv⟩
 | vs hT => exact .vs (hT.mono fun b hs => ⟨h.stab b hs, h.stable I hs hB⟩)
 | rp g h1_ hmem hrel =>
  refine .rp g h1_ (fun j hj => ?_) (fun j x hx => (hrel j x hx).mono fun b hs => ⟨h.stab b hs, h.stable I hs hB⟩);obtain ⟨h1, h2⟩ := hmem j hj;refine ⟨?_, h.stab _ h2⟩;rw [<- h1];exact mY (by rw [hZ]; exact h.stable I h2 hB)
 | fn hn _ ih => exact .fn hn ih
 | @yield id v hin h1_ h0 =>
  refine .yield (Nat.lt_of_lt_of_le hin h.len) h1_ fun r' hx => ?_
  obtain ⟨r, h1, he⟩ := h.loop id r' hin hx;obtain ⟨b, hb, hv⟩ := h0 r h1;exact ⟨b, he.trans hb, hv⟩
 | agg hn h1_ _ ih => exact .agg hn h1_ ih
 | tup hn _ ih => exact .tup hn ih
 | iface _ ih => exact .iface ih
structure aZ (base n0 : Nat) (Γ : aX) (β : Nat -> Nat) (s : St) (a : Act) : Prop where
 inv : dM base Γ
 sz : base <= n0 /\ n0 <= Γ.w.heap.size
 heap : Γ.H = s.heap
 env : ∀ (t : Nat) (x : co), look s.env t = some x -> t < a.tmps.size /\ jc Γ β x (a.tmps.getD t undef)
 loc : ∀ (d : Nat) (xs : List AV), look s.loc d = some xs -> ∃ (arr : Array Value) (T : TypeId), Γ.w.heap[β d]? = some (.cells arr T (0, 0)) /\ arr.size = xs.length /\ (∀ x, x ∈ xs -> oneCell x = true) /\ (∀ (i : Nat) (x : AV), xs[i]? = some x -> aD Γ x (arr.getD i undef)) /\
  (∀ id, Γ.ρ id ≠ some (β d)) /\ ¬ Γ.S (β d) /\ base <= β d /\ n0 <= β d
 linj : ∀ (d d' : Nat) (xs xs' : List AV), look s.loc d = some xs -> look s.loc d' = some xs' -> β d = β d' -> d = d'
 marks : ∃ rs : List Nat, a.defers = rs.map (fun r => { target := .collected r, args := #[] }) /\ rs.Nodup /\ ∀ r, r ∈ rs -> Γ.w.heap[r]? = some (.deferred (some [])) /\ (∀ id, Γ.ρ id ≠ some r) /\ ¬ Γ.S r /\ n0 <= r
theorem aZ.ext {lo : Nat} {base n0 : Nat} {Γ Γ' : aX} {β : Nat -> Nat} {s : St} {a : Act} (R : aZ base n0 Γ β s a) (h : cA lo (fun _ => False) Γ Γ') (I' : dM base Γ') :
  aZ base n0 Γ' β { s with heap := Γ'.H } a where
 inv := I'
 sz := ⟨R.sz.1, Nat.le_trans R.sz.2 h.size⟩
 heap := rfl
 env t x hx := by
  obtain ⟨h1, h2⟩ := R.env t x hx;refine ⟨h1, ?_⟩;cases x with
  | v a => exact aD.ext h R.inv (fun _ _ e => e) h2
  | p d off => exact h2
  | junk => trivial
 loc d xs hx := by
  obtain ⟨arr, T, h1, h2, ho, h3, h4, h5, h6, h7⟩ := R.loc d xs hx;have hlt : β d < Γ.w.heap.size := by
   rcases Nat.lt_or_ge (β d) Γ.w.heap.size with h' | h'
   ·exact h'
   ·rw [Array.getElem?_eq_none h'] at h1; cases h1
  refine ⟨arr, T, (h.keep _ hlt h4 (fun e => e)).trans h1, h2, ho, fun i x hi => aD.ext h R.inv (fun _ _ e => e) (h3 i x hi), fun id e => ?_, fun e => ?_, h6, h7⟩
  ·rcases h.fresh id _ e with ⟨id0, e0⟩ | e0
   ·exact h4 id0 e0
   ·omega
  ·rcases h.stabN _ e with e | ⟨id, e⟩ | e
   ·exact h5 e
   ·exact h4 id e
   ·omega
 linj := R.linj
 marks := by
  obtain ⟨rs, h1, hnd, h2⟩ := R.marks;refine ⟨rs, h1, hnd, fun r hr => ?_⟩
  obtain ⟨h3, h4, h5, h6⟩ := h2 r hr;have hlt : r < Γ.w.heap.size := by
   rcases Nat.lt_or_ge r Γ.w.heap.size with h' | h'
   ·exact h'
   ·rw [Array.getElem?_eq_none h'] at h3; cases h3
  refine ⟨(h.keep _ hlt h4 (fun e => e)).trans h3, fun id e => ?_, fun e => ?_, h6⟩
  ·rcases h.fresh id _ e with ⟨id0, e0⟩ | e0
   ·exact h4 id0 e0
   ·omega
  ·rcases h.stabN _ e with e | ⟨id, e⟩ | e
   ·exact h5 e
   ·exact h4 id e
   ·omega
theorem bE {α : Type} (k : Nat) (x : α) (l : List (Nat × α)) (t : Nat) : look ((k, x) :: l) t = if k = t then some x else look l t := by
 simp only [look, beq_iff_eq]
theorem aD.oneCell {Γ : aX} {a : AV} {v : Value} (h : aD Γ a v) (h1 : oneCell a = true) : v.oneCell' = true := by
 cases h <;> first | rfl | (cases h1; done) | (rename_i h2; obtain ⟨_, _, rfl⟩ := h2; rfl) | (rename_i h2 _; obtain ⟨_, _, rfl⟩ := h2; rfl) | (rename_i h2 _; obtain ⟨_, rfl⟩ := h2; rfl)
theorem aZ.put {base n0 : Nat} {Γ : aX} {β : Nat -> Nat} {s : St} {a : Act} (R : aZ base n0 Γ β s a) (d : Option Tmp) (hd : ∀ t, d = some t -> t < a.tmps.size) {x : co} {v : Value} (hx : jc Γ β x v) :
  aZ base n0 Γ β (s.put d x) (a.put d v) := by
 cases d with
 | none => exact R
 | some d =>
  have hlt := hd d rfl;refine { R with env := fun t y hy => ?_ }
  simp only [St.put, bE] at hy;simp only [Act.put, Array.size_setIfInBounds]
  split at hy
  ·rename_i e
   subst e;injection hy with hy;subst hy;refine ⟨hlt, ?_⟩;have : (a.tmps.setIfInBounds d v).getD d undef = v := by simp [Array.getD_eq_getD_getElem?, hlt]
   rw [this]; exact hx
  ·rename_i e
   obtain ⟨h1, h2⟩ := R.env t y hy;refine ⟨h1, ?_⟩;have : (a.tmps.setIfInBounds d v).getD t undef = a.tmps.getD t undef := by
    simp [Array.getD_eq_getD_getElem?, Array.getElem?_setIfInBounds, e]
   rw [this]; exact h2
variable {lo base n0 : Nat} {Γ : aX}
theorem dz {H : aj} {i j : Nat} {o x : ap} (h : (H.set i o)[j]? = some x) : (i = j /\ x = o) \/ (i ≠ j /\ H[j]? = some x) := by
 by_cases e : i = j
 ·subst e
  have hl : i < H.length := by have := aV h; simpa using this
  rw [List.getElem?_set_self hl] at h;exact .inl ⟨rfl, (Option.some.inj h).symm⟩
 ·rw [List.getElem?_set_ne e] at h
  exact .inr ⟨e, h⟩
theorem bD {w : World} {o : Obj} {b : Nat} (h : b < w.heap.size) : (w.alloc o).heap[b]? = w.heap[b]? := by
 simp [-World.alloc_eq, World.alloc, Array.getElem?_push, Nat.ne_of_lt h]
theorem cB (w : World) (o : Obj) : (w.alloc o).heap[w.heap.size]? = some o := by
 simp [-World.alloc_eq, World.alloc]
theorem jX (w : World) (o : Obj) : (w.alloc o).heap.size = w.heap.size + 1 := by simp [-World.alloc_eq, World.alloc]
theorem cA.alloc (lo : Nat) (Γ : aX) (o : Obj) : cA lo (fun _ => False) Γ { Γ with w := Γ.w.alloc o } where
 len := Nat.le_refl _
 cells _ _ xs' _ h := ⟨xs', h, .inr ⟨rfl, rfl⟩⟩
 map _ es' _ h := ⟨es', h, rfl⟩
 loop _ r' _ h := ⟨r', h, rfl⟩
 absent _ _ h := h
 barrier _ _ _ := ⟨rfl, rfl, fun _ _ hb => bD hb⟩
 sizes b arr T fr h := by
  have hlt : b < Γ.w.heap.size := by
   rcases Nat.lt_or_ge b Γ.w.heap.size with h' | h'
   ·exact h'
   ·rw [Array.getElem?_eq_none h'] at h; cases h
  exact ⟨arr, fr, (bD hlt).trans h, rfl⟩
 keep b hb _ _ := bD hb
 fresh id b h := .inl ⟨id, h⟩
 stab _ h := h
 stabN _ h := .inl h
 size := by simp [-World.alloc_eq, World.alloc]
 os := rfl
 tape := rfl
 output := rfl
theorem dM.same {lo : Nat} {B : Nat -> Prop} {Γ' : aX} (I : dM base Γ) (h : cA lo B Γ Γ') (hB : ∀ b, Γ.S b -> ¬ B b) (hH : Γ'.H = Γ.H) (hρ : Γ'.ρ = Γ.ρ) (hS : Γ'.S = Γ.S)
  (hb : ∀ id b, Γ.ρ id = some b -> Γ'.w.heap[b]? = Γ.w.heap[b]?) : dM base Γ' where
 dom id b e := by
  rw [hρ] at e;obtain ⟨h1, h2, h3, h4⟩ := I.dom id b e;exact ⟨hH ▸ h1, Nat.lt_of_lt_of_le h2 h.size, h3, hS ▸ h4⟩
 inj id id' b e e' := by rw [hρ] at e e'; exact I.inj id id' b e e'
 cells id b T xs e hx := by
  rw [hρ] at e; rw [hH] at hx;obtain ⟨arr, h1, h2, h3, h4⟩ := I.cells id b T xs e hx;exact ⟨arr, (hb id b e).trans h1, h2, h3, fun i x hi => (h4 i x hi).ext h I hB⟩
 map id b es e hx := by
  rw [hρ] at e; rw [hH] at hx;obtain ⟨ms, cl, h1, h2, h3, h4⟩ := I.map id b es e hx;exact ⟨ms, cl, (hb id b e).trans h1, h2, fun i x hi => let ⟨m, a, b, c⟩ := h3 i x hi; ⟨m, a, b.ext h I hB, c.ext h I hB⟩, h4⟩
 loop id b r e hx := by
  rw [hρ] at e; rw [hH] at hx;obtain ⟨l, h1, h2⟩ := I.loop id b r e hx;exact ⟨l, (hb id b e).trans h1, { h2 with env := fun t a ha => let ⟨x, y⟩ := h2.env t a ha; ⟨x, y.ext h I hB⟩ }⟩
 stab b hs := Nat.lt_of_lt_of_le (I.stab b (hS ▸ hs)) h.size
theorem dM.alloc (I : dM base Γ) (o : Obj) : dM base { Γ with w := Γ.w.alloc o } :=
 I.same (cA.alloc 0 Γ o) (fun _ _ e => e) rfl rfl rfl fun id b e => bD (I.dom id b e).2.1
theorem cA.drawn (lo : Nat) (Γ : aX) (n : Nat) : cA lo (fun _ => False) Γ { Γ with w := { Γ.w with drawn := n } } :=
 {cA.refl lo (fun _ => False) Γ with }
theorem dM.drawn (I : dM base Γ) (n : Nat) : dM base { Γ with w := { Γ.w with drawn := n } } :=
 I.same (cA.drawn 0 Γ n) (fun _ _ e => e) rfl rfl rfl fun _ _ _ => rfl
def aX.push (Γ : aX) (o : ap) (ob : Obj) : aX :=
 {H := Γ.H ++ [o], ρ := fun i => if i = Γ.H.length then some Γ.w.heap.size else Γ.ρ i, S := Γ.S, w := Γ.w.alloc ob }
theorem aX.push_old {o : ap} {ob : Obj} {id : Nat} (h : id < Γ.H.length) : (Γ.push o ob).H[id]? = Γ.H[id]? /\ (Γ.push o ob).ρ id = Γ.ρ id := by
 simp [aX.push, List.getElem?_append_left h, Nat.ne_of_lt h]
theorem cA.push (lo : Nat) (o : ap) (ob : Obj) : cA lo (fun _ => False) Γ (Γ.push o ob) where
 len := by simp [aX.push]
 cells id T xs' hid h := ⟨xs', (aX.push_old hid).1 ▸ h, .inr ⟨rfl, (aX.push_old hid).2⟩⟩
 map id es' hid h := ⟨es', (aX.push_old hid).1 ▸ h, (aX.push_old hid).2⟩
 loop id r' hid h := ⟨r', (aX.push_old hid).1 ▸ h, (aX.push_old hid).2⟩
 absent id hid h := (aX.push_old hid).2.trans h
 barrier id _ hid := ⟨(aX.push_old hid).1, (aX.push_old hid).2, fun _ _ hb => bD hb⟩
 sizes := (cA.alloc lo Γ ob).sizes
 keep := (cA.alloc lo Γ ob).keep
 fresh id b h := by
  simp only [aX.push] at h
  split at h
  ·injection h with h; right; omega
  ·exact .inl ⟨id, h⟩
 stab _ h := h
 stabN _ h := .inl h
 size := by simp [-World.alloc_eq, aX.push, World.alloc]
 os := rfl
 tape := rfl
 output := rfl
def eT (Γ : aX) : ap -> Obj -> Prop
 | .cells T xs, o => ∃ arr, o = .cells arr T (0, 0) /\ xs.length <= arr.size /\ (∀ x, x ∈ xs -> oneCell x = true) /\ ∀ (i : Nat) (x : AV), xs[i]? = some x -> aD Γ x (arr.getD i undef)
 | .map es, o => ∃ (ms : Array MapEntry) (clock : Nat), o = .map ms clock /\ ms.size = es.length /\ (∀ (i : Nat) (e : AV × AV), es[i]? = some e -> ∃ m : MapEntry, ms[i]? = some m /\ aD Γ e.1 m.key /\ aD Γ e.2 m.val) /\ sX ms clock
 | .loop r, o => ∃ l, o = .loop l /\ Bg Γ r l
 | .dead, _ => True
theorem Bg.ext {lo : Nat} {B : Nat -> Prop} {Γ' : aX} {r : fL} {l : Loop} (h : Bg Γ r l) (e : cA lo B Γ Γ') (I : dM base Γ) (hB : ∀ b, Γ.S b -> ¬ B b) : Bg Γ' r l :=
 {h with env := fun t a ha => let ⟨x, y⟩ := h.env t a ha; ⟨x, y.ext e I hB⟩ }
theorem eT.ext {lo : Nat} {B : Nat -> Prop} {Γ' : aX} {o : ap} {ob : Obj} (h : eT Γ o ob) (e : cA lo B Γ Γ') (I : dM base Γ) (hB : ∀ b, Γ.S b -> ¬ B b) : eT Γ' o ob := by
 cases o with
 | cells T xs => obtain ⟨arr, h1, h2, h3, h4⟩ := h; exact ⟨arr, h1, h2, h3, fun i x hi => (h4 i x hi).ext e I hB⟩
 | map es => obtain ⟨ms, cl, h1, h2, h3, h4⟩ := h; exact ⟨ms, cl, h1, h2, fun i x hi => let ⟨m, a, b, c⟩ := h3 i x hi; ⟨m, a, b.ext e I hB, c.ext e I hB⟩, h4⟩
 | loop r => obtain ⟨l, h1, h2⟩ := h; exact ⟨l, h1, h2.ext e I hB⟩
 | dead => trivial
theorem eT.of (I : dM base Γ) {id b : Nat} {o : ap} (hρ : Γ.ρ id = some b) (ho : Γ.H[id]? = some o) : ∃ ob, Γ.w.heap[b]? = some ob /\ eT Γ o ob := by
 have hlt := (I.dom id b hρ).2.1;cases o with
 | cells T xs => obtain ⟨arr, h1, h2⟩ := I.cells id b T xs hρ ho; exact ⟨_, h1, arr, rfl, h2⟩
 | map es => obtain ⟨ms, cl, h1, h2⟩ := I.map id b es hρ ho; exact ⟨_, h1, ms, cl, rfl, h2⟩
 | loop r => obtain ⟨l, h1, h2⟩ := I.loop id b r hρ ho; exact ⟨_, h1, l, rfl, h2⟩
 | dead => exact ⟨_, Array.getElem?_eq_getElem hlt, trivial⟩
theorem dM.of_objs {Γ' : aX} (hdom : ∀ id b, Γ'.ρ id = some b -> id < Γ'.H.length /\ b < Γ'.w.heap.size /\ base <= b /\ ¬ Γ'.S b)
  (hinj : ∀ id id' b, Γ'.ρ id = some b -> Γ'.ρ id' = some b -> id = id') (hst : ∀ b, Γ'.S b -> b < Γ'.w.heap.size)
  (h : ∀ id b o, Γ'.ρ id = some b -> Γ'.H[id]? = some o -> ∃ ob, Γ'.w.heap[b]? = some ob /\ eT Γ' o ob) : dM base Γ' where
 dom := hdom
 inj := hinj
 cells id b T xs e hx := by obtain ⟨ob, h1, arr, rfl, h2⟩ := h id b _ e hx; exact ⟨arr, h1, h2⟩
 map id b es e hx := by obtain ⟨ob, h1, ms, cl, rfl, h2⟩ := h id b _ e hx; exact ⟨ms, cl, h1, h2⟩
 loop id b r e hx := by obtain ⟨ob, h1, l, rfl, h2⟩ := h id b _ e hx; exact ⟨l, h1, h2⟩
 stab := hst
theorem dM.push (I : dM base Γ) {o : ap} {ob : Obj} (ho : eT Γ o ob) (hbase : base <= Γ.w.heap.size) : dM base (Γ.push o ob) := by
 have e := cA.push (Γ := Γ) 0 o ob;have hB : ∀ b, Γ.S b -> ¬ (fun _ : Nat => False) b := fun _ _ h => h
 refine dM.of_objs (fun id b hρ => ?_) (fun id id' b h1 h2 => ?_) (fun b hs => Nat.lt_of_lt_of_le (I.stab b hs) e.size) (fun id b o' hρ hx => ?_)
 ·simp only [aX.push] at hρ ⊢
  split at hρ
  ·rename_i h
   injection hρ with hρ;subst hρ h;refine ⟨by simp, by simp [-World.alloc_eq, World.alloc], hbase, fun hs => absurd (I.stab _ hs) (by omega)⟩
  ·obtain ⟨a, b, c, d⟩ := I.dom id b hρ
   exact ⟨by simp; omega, by simp [-World.alloc_eq, World.alloc]; omega, c, d⟩
 ·simp only [aX.push] at h1 h2
  split at h1 <;> split at h2
  ·rename_i a b; rw [a, b]
  ·injection h1 with h1; have := (I.dom id' b h2).2.1; omega
  ·injection h2 with h2; have := (I.dom id b h1).2.1; omega
  ·exact I.inj id id' b h1 h2
 ·simp only [aX.push] at hρ hx ⊢
  split at hρ
  ·rename_i h
   injection hρ with hρ;subst hρ h;simp at hx;subst hx;exact ⟨ob, cB _ _, ho.ext e I hB⟩
  ·obtain ⟨hlt, hb, _⟩ := I.dom id b hρ
   rw [List.getElem?_append_left hlt] at hx;obtain ⟨ob', h1, h2⟩ := eT.of I hρ hx;exact ⟨ob', (bD hb).trans h1, h2.ext e I hB⟩
def aX.upd (Γ : aX) (id b : Nat) (o : ap) (ob : Obj) : aX := { Γ with H := Γ.H.set id o, w := { Γ.w with heap := Γ.w.heap.setIfInBounds b ob } }
theorem aG {w : World} {b b' : Nat} {ob : Obj} (h : b ≠ b') : ({ w with heap := w.heap.setIfInBounds b ob } : World).heap[b']? = w.heap[b']? := by
 simp [h]
theorem ez {w : World} {b : Nat} {ob : Obj} (h : b < w.heap.size) : ({ w with heap := w.heap.setIfInBounds b ob } : World).heap[b]? = some ob := by
 simp [h]
theorem cA.updCells (I : dM base Γ) {lo id b T : Nat} {xs xs' : List AV} {arr arr' : Array Value} (hlo : lo <= id) (hρ : Γ.ρ id = some b) (hx : Γ.H[id]? = some (.cells T xs))
  (ha : Γ.w.heap[b]? = some (.cells arr T (0, 0))) (hsz : arr'.size = arr.size) (hlen : xs.length <= xs'.length) :
  cA lo (fun _ => False) Γ (Γ.upd id b (.cells T xs') (.cells arr' T (0, 0))) where
 len := by simp [aX.upd]
 cells id' T' ys _ hy := by
  rcases dz hy with ⟨rfl, e⟩ | ⟨_, e⟩
  ·injection e with h1 h2; subst h1 h2
   exact ⟨xs, hx, (Nat.lt_or_ge xs.length ys.length).elim (fun h => .inl h) (fun h => .inr ⟨by omega, rfl⟩)⟩
  ·exact ⟨ys, e, .inr ⟨rfl, rfl⟩⟩
 map id' es _ hy := by
  rcases dz hy with ⟨rfl, e⟩ | ⟨_, e⟩
  ·cases e
  ·exact ⟨es, e, rfl⟩
 loop id' r _ hy := by
  rcases dz hy with ⟨rfl, e⟩ | ⟨_, e⟩
  ·cases e
  ·exact ⟨r, e, rfl⟩
 absent _ _ h := h
 barrier id' hl hid := ⟨List.getElem?_set_ne (by omega), rfl, fun b' hb' _ => aG fun e => by
  have := I.inj id id' b hρ (by rw [e]; exact hb');omega⟩
 sizes b' a T' fr h := by
  by_cases e : b = b'
  ·subst e
   rw [ha] at h; injection h with h; injection h with h1 h2 h3; subst h1 h2 h3;exact ⟨arr', (0, 0), ez (I.dom id b hρ).2.1, hsz⟩
  ·exact ⟨a, fr, (aG e).trans h, rfl⟩
 keep b' hb hn _ := aG (fun e => hn id (e ▸ hρ))
 fresh id' b' h := .inl ⟨id', h⟩
 stab _ h := h
 stabN _ h := .inl h
 size := by simp [aX.upd]
 os := rfl
 tape := rfl
 output := rfl
theorem cA.updMap (I : dM base Γ) {lo id b : Nat} {es es' : List (AV × AV)} {ms ms' : Array MapEntry} {cl cl' : Nat} (hlo : lo <= id) (hρ : Γ.ρ id = some b) (hx : Γ.H[id]? = some (.map es))
  (ha : Γ.w.heap[b]? = some (.map ms cl)) : cA lo (fun _ => False) Γ (Γ.upd id b (.map es') (.map ms' cl')) where
 len := by simp [aX.upd]
 cells id' T' ys _ hy := by
  rcases dz hy with ⟨rfl, e⟩ | ⟨_, e⟩
  ·cases e
  ·exact ⟨ys, e, .inr ⟨rfl, rfl⟩⟩
 map id' es2 _ hy := by
  rcases dz hy with ⟨rfl, e⟩ | ⟨_, e⟩
  ·exact ⟨es, hx, rfl⟩
  ·exact ⟨es2, e, rfl⟩
 loop id' r _ hy := by
  rcases dz hy with ⟨rfl, e⟩ | ⟨_, e⟩
  ·cases e
  ·exact ⟨r, e, rfl⟩
 absent _ _ h := h
 barrier id' hl hid := ⟨List.getElem?_set_ne (by omega), rfl, fun b' hb' _ => aG fun e => by
  have := I.inj id id' b hρ (by rw [e]; exact hb');omega⟩
 sizes b' a T' fr h := by
  by_cases e : b = b'
  ·subst e; rw [ha] at h; cases h
  ·exact ⟨a, fr, (aG e).trans h, rfl⟩
 keep b' hb hn _ := aG (fun e => hn id (e ▸ hρ))
 fresh id' b' h := .inl ⟨id', h⟩
 stab _ h := h
 stabN _ h := .inl h
 size := by simp [aX.upd]
 os := rfl
 tape := rfl
 output := rfl
theorem cA.updLoop (I : dM base Γ) {lo id b : Nat} {r r' : fL} {l l' : Loop} (hlo : lo <= id) (hρ : Γ.ρ id = some b) (hx : Γ.H[id]? = some (.loop r))
  (ha : Γ.w.heap[b]? = some (.loop l)) : cA lo (fun _ => False) Γ (Γ.upd id b (.loop r') (.loop l')) where
 len := by simp [aX.upd]
 cells id' T' ys _ hy := by
  rcases dz hy with ⟨rfl, e⟩ | ⟨_, e⟩
  ·cases e
  ·exact ⟨ys, e, .inr ⟨rfl, rfl⟩⟩
 map id' es2 _ hy := by
  rcases dz hy with ⟨rfl, e⟩ | ⟨_, e⟩
  ·cases e
  ·exact ⟨es2, e, rfl⟩
 loop id' r2 _ hy := by
  rcases dz hy with ⟨rfl, e⟩ | ⟨_, e⟩
  ·exact ⟨r, hx, rfl⟩
  ·exact ⟨r2, e, rfl⟩
 absent _ _ h := h
 barrier id' hl hid := ⟨List.getElem?_set_ne (by omega), rfl, fun b' hb' _ => aG fun e => by
  have := I.inj id id' b hρ (by rw [e]; exact hb');omega⟩
 sizes b' a T' fr h := by
  by_cases e : b = b'
  ·subst e; rw [ha] at h; cases h
  ·exact ⟨a, fr, (aG e).trans h, rfl⟩
 keep b' hb hn _ := aG (fun e => hn id (e ▸ hρ))
 fresh id' b' h := .inl ⟨id', h⟩
 stab _ h := h
 stabN _ h := .inl h
 size := by simp [aX.upd]
 os := rfl
 tape := rfl
 output := rfl
theorem dM.upd (I : dM base Γ) {lo id b : Nat} {o : ap} {ob : Obj} (hρ : Γ.ρ id = some b) (e : cA lo (fun _ => False) Γ (Γ.upd id b o ob)) (ho : eT Γ o ob) : dM base (Γ.upd id b o ob) := by
 have hB : ∀ b, Γ.S b -> ¬ (fun _ : Nat => False) b := fun _ _ h => h
 refine dM.of_objs (fun id' b' h => ?_) I.inj (fun b hs => by have := I.stab b hs; simpa [aX.upd] using this) (fun id' b' o' h hx => ?_)
 ·obtain ⟨a, b, c, d⟩ := I.dom id' b' h
  exact ⟨by simpa [aX.upd] using a, by simpa [aX.upd] using b, c, d⟩
 ·simp only [aX.upd] at hx ⊢
  by_cases ee : id = id'
  ·subst ee
   have hb : b = b' := Option.some.inj (hρ.symm.trans h);subst hb;rw [List.getElem?_set_self (I.dom id b hρ).1] at hx;injection hx with hx;subst hx;exact ⟨ob, ez (I.dom id b hρ).2.1, ho.ext e I hB⟩
  ·rw [List.getElem?_set_ne ee] at hx
   obtain ⟨ob', h1, h2⟩ := eT.of I h hx;refine ⟨ob', (aG fun e2 => ee (I.inj id id' b hρ (by rw [e2]; exact h))).trans h1, h2.ext e I hB⟩
def aX.move (Γ : aX) (id : Nat) (o : ap) (ob : Obj) : aX :=
 {H := Γ.H.set id o, ρ := fun i => if i = id then some Γ.w.heap.size else Γ.ρ i, S := Γ.S, w := Γ.w.alloc ob }
theorem cA.move {lo id b T : Nat} {xs xs' : List AV} {ob : Obj} (hlo : lo <= id) (hρ : Γ.ρ id = some b) (hx : Γ.H[id]? = some (.cells T xs))
  (hlen : xs.length < xs'.length) : cA lo (fun _ => False) Γ (Γ.move id (.cells T xs') ob) where
 len := by simp [aX.move]
 cells id' T' ys _ hy := by
  rcases dz hy with ⟨rfl, e⟩ | ⟨ee, e⟩
  ·injection e with h1 h2; subst h1 h2
   exact ⟨xs, hx, .inl hlen⟩
  ·exact ⟨ys, e, .inr ⟨rfl, if_neg (fun h => ee h.symm)⟩⟩
 map id' es _ hy := by
  rcases dz hy with ⟨rfl, e⟩ | ⟨ee, e⟩
  ·cases e
  ·exact ⟨es, e, if_neg (fun h => ee h.symm)⟩
 loop id' r _ hy := by
  rcases dz hy with ⟨rfl, e⟩ | ⟨ee, e⟩
  ·cases e
  ·exact ⟨r, e, if_neg (fun h => ee h.symm)⟩
 absent id' _ h := by
  have e : id' ≠ id := fun e => by subst e; rw [hρ] at h; cases h
  exact (if_neg e).trans h
 barrier id' hl hid := ⟨List.getElem?_set_ne (by omega), if_neg (by omega), fun _ _ hb => bD hb⟩
 sizes := (cA.alloc lo Γ ob).sizes
 keep := (cA.alloc lo Γ ob).keep
 fresh id' b' h := by
  simp only [aX.move] at h
  split at h
  ·injection h with h; right; omega
  ·exact .inl ⟨id', h⟩
 stab _ h := h
 stabN _ h := .inl h
 size := by simp [-World.alloc_eq, aX.move, World.alloc]
 os := rfl
 tape := rfl
 output := rfl
theorem dM.move (I : dM base Γ) {lo id b T : Nat} {xs' : List AV} {ob : Obj} (hρ : Γ.ρ id = some b) (e : cA lo (fun _ => False) Γ (Γ.move id (.cells T xs') ob)) (ho : eT Γ (.cells T xs') ob) (hbase : base <= Γ.w.heap.size) :
  dM base (Γ.move id (.cells T xs') ob) := by
 have hB : ∀ b, Γ.S b -> ¬ (fun _ : Nat => False) b := fun _ _ h => h
 refine dM.of_objs (fun id' b' h => ?_) (fun i j c h1 h2 => ?_) (fun b hs => by have := I.stab b hs; simp [-World.alloc_eq, aX.move, World.alloc]; omega) (fun id' b' o' h hx => ?_)
 ·simp only [aX.move] at h ⊢
  split at h
  ·rename_i ee
   injection h with h;subst h ee;exact ⟨by simpa using (I.dom _ _ hρ).1, by simp [-World.alloc_eq, World.alloc], hbase, fun hs => absurd (I.stab _ hs) (by omega)⟩
  ·obtain ⟨a, b, c, d⟩ := I.dom id' b' h
   exact ⟨by simpa using a, by simp [-World.alloc_eq, World.alloc]; omega, c, d⟩
 ·simp only [aX.move] at h1 h2
  split at h1 <;> split at h2
  ·rename_i a b; rw [a, b]
  ·injection h1 with h1; have := (I.dom j c h2).2.1; omega
  ·injection h2 with h2; have := (I.dom i c h1).2.1; omega
  ·exact I.inj i j c h1 h2
 ·simp only [aX.move] at h hx ⊢
  split at h
  ·rename_i ee
   injection h with h;subst h ee;rw [List.getElem?_set_self (I.dom _ _ hρ).1] at hx;injection hx with hx;subst hx;exact ⟨ob, cB _ _, ho.ext e I hB⟩
  ·rename_i ee
   rw [List.getElem?_set_ne (fun e => ee e.symm)] at hx;obtain ⟨ob', h1, h2⟩ := eT.of I h hx;exact ⟨ob', (bD (I.dom id' b' h).2.1).trans h1, h2.ext e I hB⟩
def yA : TK -> TypeDesc -> Prop
 | .int k, .int k' => k' = k
 | .bool, .bool => True
 | .str, .string => True
 | .slice e, .slice e' => e' = e
 | .struct fs, .struct gs => gs.toList.map (fun f => (f.offset, f.type)) = fs
 | .ptr, .pointer _ => True
 | .map k e, .map k' e' => k' = k /\ e' = e
 | .func, .func _ _ _ => True
 | .iface, .interface _ => True
 | _, _ => False
def qy : Value -> Option Bool
 | .agg _ => some true
 | .tuple _ => none
 | _ => some false
structure dS (P : Program) (t : Nat) (ti : TI) : Prop where
 info : ∃ i : TypeInfo, P.info? t = some i /\ i.size = ti.sz /\ i.bytes = ti.bytes /\ ∃ z, i.zero = some z /\ z.cells.size = ti.sz /\ z.cells.toList.mapM eN = some ti.zero /\ qy z = some ti.kind.isAgg
 kind : ∃ d, P.underlying t = some d /\ yA ti.kind d
 flds : ∀ gs, P.underlying t = some (.struct gs) -> ∀ g, g ∈ gs.toList -> ∃ i : TypeInfo, P.info? g.type = some i
def ck (P : Program) (T : wb) : Prop := ∀ t ti, look T t = some ti -> dS P t ti
variable {P : Program} {Γ : aX} {w : World} {t : Nat} {ti : TI}
theorem pq {v : Value} {a : AV} (h : eN v = some a) : aD Γ a v /\ oneCell a = true /\ v.oneCell' = true := by
 unfold eN at h
 split at h <;> first | (injection h with h; subst h; exact ⟨by constructor, rfl, rfl⟩) | cases h
theorem kQ : ∀ {l : List Value} {xs : List AV}, l.mapM eN = some xs -> xs.length = l.length /\ (∀ x, x ∈ xs -> oneCell x = true) /\ (∀ v, v ∈ l -> v.oneCell' = true) /\ ∀ (i : Nat) (x : AV), xs[i]? = some x -> ∃ v, l[i]? = some v /\ aD Γ x v
 | [], xs, h => by simp at h; subst h; simp
 | v :: l, xs, h => by
  rw [List.mapM_cons] at h;cases h1 : eN v with
  | none => rw [h1] at h; cases h
  | some a =>
   rw [h1] at h;cases h2 : l.mapM eN with
   | none => rw [h2] at h; cases h
   | some ys =>
    rw [h2] at h;injection h with h;subst h;obtain ⟨h3, h4, h5, h6⟩ := kQ h2;obtain ⟨r1, r2, r3⟩ := pq (Γ := Γ) h1;refine ⟨by simp [h3], fun x hx => ?_, fun x hx => ?_, fun i x hx => ?_⟩
    ·rcases List.mem_cons.1 hx with rfl | hx
     ·exact r2
     ·exact h4 x hx
    ·rcases List.mem_cons.1 hx with rfl | hx
     ·exact r3
     ·exact h5 x hx
    ·cases i with
     | zero => simp at hx; subst hx; exact ⟨v, rfl, r1⟩
     | succ i => simp at hx; simpa using h6 i x hx
theorem yB {v : Value} {a : AV} (h : yw v = some a) : aD Γ a v := by
 unfold yw at h
 split at h
 ·rename_i cs
  cases h1 : cs.toList.mapM eN with
  | none => rw [h1] at h; cases h
  | some xs =>
   rw [h1] at h;injection h with h;subst h;obtain ⟨h3, h4, _, h6⟩ := kQ (Γ := Γ) h1;refine .agg (by simpa using h3.symm) h4 fun i x hx => ?_
   obtain ⟨v, hv, hr⟩ := h6 i x hx;have : cs.getD i undef = v := by rw [Array.getD_eq_getD_getElem?, <- Array.getElem?_toList, hv]; rfl
   rw [this]; exact hr
 ·rename_i f first caps
  split at h
  ·rename_i hc
   injection h with h;subst h;simp only [Bool.and_eq_true, Array.isEmpty_iff] at hc;obtain ⟨rfl, rfl⟩ := hc;exact .fn rfl (by simp)
  ·cases h
 ·exact (pq h).1
theorem dS.run_info (h : dS P t ti) (w : World) : ∃ i : TypeInfo, (typeInfo t).run P w = .ok i w /\ i.size = ti.sz /\ i.bytes = ti.bytes := by
 obtain ⟨i, h1, h2, h3, _⟩ := h.info;exact ⟨i, by simp [typeInfo, h1], h2, h3⟩
theorem dS.run_size (h : dS P t ti) (w : World) : (sizeOf t).run P w = .ok ti.sz w := by
 obtain ⟨i, h1, h2, _⟩ := h.run_info w;simp [sizeOf, h1, h2]
theorem dS.run_agg (h : dS P t ti) (w : World) : (isAgg t).run P w = .ok ti.kind.isAgg w := by
 obtain ⟨d, h1, h2⟩ := h.kind;unfold isAgg;simp only [Sem.run_bind, run_underlying h1, Result.andThen_ok];cases d <;> cases hk : ti.kind <;> rw [hk] at h2 <;> first | exact h2.elim | rfl
theorem dS.run_zero (h : dS P t ti) (w : World) : ∃ z, (zeroValue t).run P w = .ok z w /\ z.cells.size = ti.sz /\ z.cells.toList.mapM eN = some ti.zero /\ qy z = some ti.kind.isAgg := by
 obtain ⟨i, h1, _, _, z, h4, h5, h6⟩ := h.info;exact ⟨z, by simp [zeroValue, typeInfo, h1, h4], h5, h6⟩
theorem dS.slice (h : dS P t ti) {e : Nat} (hk : ti.kind = .slice e) : P.underlying t = some (.slice e) := by
 obtain ⟨d, h1, h2⟩ := h.kind;rw [hk] at h2;cases d <;> first | exact h2.elim | (rw [h1]; exact congrArg (fun x => some (TypeDesc.slice x)) h2)
theorem dS.str (h : dS P t ti) (hk : ti.kind = .str) : P.underlying t = some .string := by
 obtain ⟨d, h1, h2⟩ := h.kind;rw [hk] at h2;cases d <;> first | exact h2.elim | exact h1
theorem dS.int (h : dS P t ti) {k : IntKind} (hk : ti.kind = .int k) : P.underlying t = some (.int k) := by
 obtain ⟨d, h1, h2⟩ := h.kind;rw [hk] at h2;cases d <;> first | exact h2.elim | (rw [h1]; exact congrArg (fun x => some (TypeDesc.int x)) h2)
theorem dS.bool (h : dS P t ti) (hk : ti.kind = .bool) : P.underlying t = some .bool := by
 obtain ⟨d, h1, h2⟩ := h.kind;rw [hk] at h2;cases d <;> first | exact h2.elim | exact h1
theorem dS.struct (h : dS P t ti) {fs : List (Nat × Nat)} (hk : ti.kind = .struct fs) : ∃ gs, P.underlying t = some (.struct gs) /\ gs.toList.map (fun f => (f.offset, f.type)) = fs := by
 obtain ⟨d, h1, h2⟩ := h.kind;rw [hk] at h2;cases d <;> first | exact h2.elim | exact ⟨_, h1, h2⟩
theorem dS.map (h : dS P t ti) {k e : Nat} (hk : ti.kind = .map k e) : P.underlying t = some (.map k e) := by
 obtain ⟨d, h1, h2⟩ := h.kind;rw [hk] at h2;cases d <;> first | exact h2.elim | (rw [h1]; obtain ⟨rfl, rfl⟩ := h2; rfl)
theorem dS.ptr (h : dS P t ti) (hk : ti.kind = .ptr) : ∃ e, P.underlying t = some (.pointer e) := by
 obtain ⟨d, h1, h2⟩ := h.kind;rw [hk] at h2;cases d <;> first | exact h2.elim | exact ⟨_, h1⟩
theorem dS.func (h : dS P t ti) (hk : ti.kind = .func) : ∃ a b c, P.underlying t = some (.func a b c) := by
 obtain ⟨d, h1, h2⟩ := h.kind;rw [hk] at h2;cases d <;> first | exact h2.elim | exact ⟨_, _, _, h1⟩
inductive bH (Γ : aX) : List AV -> List Value -> Prop
 | nil : bH Γ [] []
 | cons {a : AV} {v : Value} {l : List AV} {m : List Value} (h : aD Γ a v) (t : bH Γ l m) : bH Γ (a :: l) (v :: m)
theorem bH.len {Γ : aX} {l : List AV} {m : List Value} (h : bH Γ l m) : m.length = l.length := by
 induction h with
 | nil => rfl
 | cons _ _ ih => simp [ih]
theorem bH.get {Γ : aX} {l : List AV} {m : List Value} (h : bH Γ l m) : ∀ (i : Nat) (x : AV), l[i]? = some x -> ∃ v, m[i]? = some v /\ aD Γ x v := by
 induction h with
 | nil => intro i x hx; simp at hx
 | cons h _ ih =>
  intro i x hx;cases i with
  | zero => simp at hx; subst hx; exact ⟨_, rfl, h⟩
  | succ i => simp at hx; simpa using ih i x hx
theorem bH.append {Γ : aX} {l l' : List AV} {m m' : List Value} (h : bH Γ l m) (h' : bH Γ l' m') : bH Γ (l ++ l') (m ++ m') := by
 induction h with
 | nil => exact h'
 | cons h _ ih => exact .cons h ih
theorem bH.ext {lo base : Nat} {B : Nat -> Prop} {Γ Γ' : aX} {l : List AV} {m : List Value} (h : bH Γ l m) (e : cA lo B Γ Γ') (I : dM base Γ) (hB : ∀ b, Γ.S b -> ¬ B b) : bH Γ' l m := by
 induction h with
 | nil => exact .nil
 | cons h _ ih => exact .cons (h.ext e I hB) ih
theorem bH.of_array {Γ : aX} : ∀ {l : List AV} {m : List Value}, m.length = l.length -> (∀ (i : Nat) (x : AV), l[i]? = some x -> aD Γ x (m.getD i undef)) -> bH Γ l m
 | [], [], _, _ => .nil
 | a :: l, v :: m, hn, h => .cons (by simpa using h 0 a rfl) (bH.of_array (by simpa using hn) fun i x hx => by simpa using h (i + 1) x (by simpa using hx))
 | [], _ :: _, hn, _ => by simp at hn
 | _ :: _, [], hn, _ => by simp at hn
theorem jY (a : Addr) (m n : Nat) : (a.add m).add n = a.add (m + n) := by
 unfold Addr.add
 by_cases hm : m = 0 <;> by_cases hn : n = 0 <;> simp [hm, hn, Nat.add_assoc]
variable {P : Program} {Γ : aX} {w : World} {t : Nat} {ti : TI} {base n0 : Nat} {β : Nat -> Nat} {s : St} {a : Act}
theorem aZ.slot (R : aZ base n0 Γ β s a) {x : Operand} {sl : co} (h : s.slot x = some sl) : jc Γ β sl (a.eval x) := by
 cases x with
 | tmp t => exact (R.env t sl h).2
 | const v =>
  simp only [St.slot, Option.map_eq_some_iff] at h;obtain ⟨c, hc, rfl⟩ := h;exact yB hc
 | global g => cases h
 | func f => injection h with h; subst h; exact .fn rfl (by simp)
theorem aZ.val (R : aZ base n0 Γ β s a) {x : Operand} {v : AV} (h : s.val x = some v) : aD Γ v (a.eval x) := by
 unfold St.val at h
 split at h
 ·rename_i c hs
  injection h with h; subst h;exact R.slot hs
 ·cases h
theorem aZ.vals (R : aZ base n0 Γ β s a) : ∀ {l : List Operand} {vs : List AV}, s.vals l = some vs -> bH Γ vs (l.map a.eval)
 | [], vs, h => by injection h with h; subst h; exact .nil
 | x :: l, vs, h => by
  simp only [St.vals] at h
  split at h
  ·rename_i c hc
   split at h
   ·rename_i m hm
    injection h with h; subst h;exact .cons (R.val hc) (R.vals hm)
   ·cases h
  ·cases h
theorem eU {v : AV} {x : Value} {ys : List AV} (h : aD Γ v x) (hc : cellsOf v = some ys) : x.cells.size = ys.length /\ (∀ y, y ∈ ys -> oneCell y = true) /\ ∀ (i : Nat) (y : AV), ys[i]? = some y -> aD Γ y (x.cells.getD i undef) := by
 have one : ∀ {v : AV} {x : Value}, aD Γ v x -> oneCell v = true -> x.cells.size = [v].length /\ (∀ y, y ∈ [v] -> oneCell y = true) /\ ∀ (i : Nat) (y : AV), [v][i]? = some y -> aD Γ y (x.cells.getD i undef) := by
  intro v x hr h1;have hx := hr.oneCell h1;have hcx : x.cells = #[x] := by cases x <;> first | rfl | cases hx
  rw [hcx];refine ⟨rfl, by simpa using h1, fun i y hy => ?_⟩
  cases i with
  | zero => simp at hy; subst hy; simpa using hr
  | succ i => simp at hy
 cases v with
 | agg xs =>
  injection hc with hc; subst hc;cases h with
  | agg hn h1 hrel => exact ⟨hn, h1, hrel⟩
 | tup xs => cases hc
 | _ => injection hc with hc; subst hc; exact one h rfl
theorem Bh {v : AV} {x : Value} {ys : List AV} (h : aD Γ v x) (hc : cellsOf v = some ys) : ∀ y, y ∈ x.cells.toList -> y.oneCell' = true := by
 obtain ⟨h1, h2, h3⟩ := eU h hc;intro y hy;obtain ⟨i, hi, rfl⟩ := List.mem_iff_getElem.1 hy;have hi' : i < ys.length := by simpa [h1] using hi
 have := (h3 i ys[i] (List.getElem?_eq_getElem hi')).oneCell (h2 _ (List.getElem_mem hi'));simpa [Array.getD_eq_getD_getElem?, show i < x.cells.size by simpa using hi] using this
theorem iq (h : dS P t ti) (ad : Addr) (g : Nat -> Value) {xs : List AV} (h1 : ∀ x, x ∈ xs -> oneCell x = true) (hc : ∀ (j : Nat) (x : AV), xs[j]? = some x -> w.cell? (ad.add j) = some (g j) /\ aD Γ x (g j))
  (off : Nat) {r : AV} (hp : part ti xs off = some r) : ∃ v, (loadVar t (ad.add off)).run P w = .ok v w /\ aD Γ r v := by
 unfold part at hp
 split at hp
 ·rename_i hk
  split at hp
  ·rename_i hle
   injection hp with hp; subst hp;have hget : ∀ j, j < ti.sz -> ∃ x, xs[off + j]? = some x := fun j hj => ⟨_, List.getElem?_eq_getElem (by omega)⟩
   refine ⟨.agg ((List.range ti.sz).map fun j => g (off + j)).toArray, ?_, ?_⟩
   ·unfold loadVar
    simp only [Sem.run_bind, h.run_agg, Result.andThen_ok, hk, if_true, h.run_size];rw [run_loadCells w (ad.add off) ti.sz (fun j => g (off + j)) (fun j hj => by
     obtain ⟨x, hx⟩ := hget j hj;rw [jY]; exact (hc _ x hx).1)]
    rfl
   ·refine .agg (by simp; omega) (fun x hx => h1 x (List.mem_of_mem_drop (List.mem_of_mem_take hx))) fun i x hx => ?_
    have hi : i < ti.sz := by
     rcases Nat.lt_or_ge i ti.sz with h' | h'
     ·exact h'
     ·rw [List.getElem?_take_eq_none h'] at hx; cases hx
    rw [List.getElem?_take_of_lt hi, List.getElem?_drop] at hx;have := (hc _ x hx).2;simpa [Array.getD_eq_getD_getElem?, hi] using this
  ·cases hp
 ·rename_i hk
  have hx := hc off r hp;refine ⟨g off, ?_, hx.2⟩;unfold loadVar;simp only [Sem.run_bind, h.run_agg, Result.andThen_ok, hk, Bool.false_eq_true, if_false, run_load, hx.1]
theorem tw {w : World} {b : Nat} {cur arr : Array Value} {T : TypeId} (h : w.heap[b]? = some (.cells cur T (0, 0))) : w.setRow b arr = { w with heap := w.heap.setIfInBounds b (.cells arr T (0, 0)) } := by
 unfold World.setRow;congr 1;apply Array.ext_getElem?;intro i
 by_cases e : b = i
 ·subst e
  have hlt : b < w.heap.size := by
   rcases Nat.lt_or_ge b w.heap.size with h' | h'
   ·exact h'
   ·rw [Array.getElem?_eq_none h'] at h; cases h
  rw [Array.getElem?_modify, if_pos rfl, h, Array.getElem?_setIfInBounds_self_of_lt hlt]
  rfl
 ·rw [Array.getElem?_modify, if_neg e, Array.getElem?_setIfInBounds_ne e]
theorem kR (h : dS P t ti) {b off : Nat} {cur : Array Value} {T : TypeId} {v : AV} {x : Value} {ys : List AV} (hg : w.heap[b]? = some (.cells cur T (0, 0))) (hr : aD Γ v x) (hc : cellsOf v = some ys)
  (hsz : ys.length = ti.sz) (hfit : off + ti.sz <= cur.size) :
  (storeVar t ⟨b, off, none⟩ x).run P w = .ok () { w with heap := w.heap.setIfInBounds b (.cells (cur.toList.take off ++ x.cells.toList ++ cur.toList.drop (off + ys.length)).toArray T (0, 0)) } := by
 obtain ⟨h1, h2, h3⟩ := eU hr hc;unfold storeVar;have hne : ¬ x.cells.size ≠ ti.sz := by omega
 simp only [Sem.run_bind, h.run_size, Result.andThen_ok, Sem.run_ite, hne, if_false, Sem.run_pure];have hl : x.cells.toList.length = ys.length := by simpa using h1
 have := run_storeCells_at (P := P) b off T x.cells.toList 0 cur w hg (by rw [hl]; omega) (Bh hr hc);rw [Nat.add_zero, hl] at this;rw [tw hg] at this;exact this
theorem dI (xs ys : List AV) (off : Nat) (h : off + ys.length <= xs.length) : (bb xs off ys).length = xs.length := by
 unfold bb; simp; omega
theorem jZ {xs ys : List AV} {off : Nat} {x : AV} (h : x ∈ bb xs off ys) : x ∈ xs \/ x ∈ ys := by
 unfold bb at h;simp only [List.mem_append] at h;rcases h with (h | h) | h
 ·exact .inl (List.mem_of_mem_take h)
 ·exact .inr h
 ·exact .inl (List.mem_of_mem_drop h)
theorem yC {α β : Type} {xs ys : List α} {as bs : List β} {off : Nat} (hxy : off + ys.length <= xs.length) (hab : xs.length <= as.length) (hb : bs.length = ys.length) (i : Nat) (x : α)
  (h : (xs.take off ++ ys ++ xs.drop (off + ys.length))[i]? = some x) :
  (ys[i - off]? = some x /\ (as.take off ++ bs ++ as.drop (off + ys.length))[i]? = bs[i - off]? /\ off <= i /\ i - off < bs.length) \/ (xs[i]? = some x /\ (as.take off ++ bs ++ as.drop (off + ys.length))[i]? = as[i]?) := by
 have l1 : (xs.take off).length = off := by simp; omega
 have l2 : (as.take off).length = off := by simp; omega
 rcases Nat.lt_or_ge i off with h1 | h1
 ·right
  rw [List.append_assoc, List.getElem?_append_left (by omega), List.getElem?_take_of_lt h1] at h;rw [List.append_assoc, List.getElem?_append_left (by omega), List.getElem?_take_of_lt h1];exact ⟨h, rfl⟩
 ·rcases Nat.lt_or_ge i (off + ys.length) with h2 | h2
  ·left
   rw [List.append_assoc, List.getElem?_append_right (by omega), List.getElem?_append_left (by omega), l1] at h;rw [List.append_assoc, List.getElem?_append_right (by omega), List.getElem?_append_left (by omega), l2];exact ⟨h, rfl, h1, by omega⟩
  ·right
   rw [List.append_assoc, List.getElem?_append_right (by omega), List.getElem?_append_right (by omega), l1, List.getElem?_drop] at h;rw [List.append_assoc, List.getElem?_append_right (by omega), List.getElem?_append_right (by omega), l2, List.getElem?_drop, hb];have e : off + ys.length + (i - off - ys.length) = i := by omega
   rw [e] at h ⊢;exact ⟨h, rfl⟩
theorem mn {v : AV} {x : Value} {ys xs : List AV} {cur : Array Value} {off : Nat} (hr : aD Γ v x) (hc : cellsOf v = some ys) (hfit : off + ys.length <= xs.length) (hcur : xs.length <= cur.size)
  (h : ∀ (i : Nat) (y : AV), xs[i]? = some y -> aD Γ y (cur.getD i undef)) (i : Nat) (y : AV) (hy : (bb xs off ys)[i]? = some y) :
  aD Γ y ((cur.toList.take off ++ x.cells.toList ++ cur.toList.drop (off + ys.length)).toArray.getD i undef) := by
 obtain ⟨h1, h2, h3⟩ := eU hr hc;rcases yC (as := cur.toList) (bs := x.cells.toList) hfit (by simpa using hcur) (by simpa using h1) i y hy with ⟨a, b, c, d⟩ | ⟨a, b⟩
 ·have := h3 _ y a
  rw [Array.getD_eq_getD_getElem?] at this ⊢;rw [List.getElem?_toArray, b, Array.getElem?_toList];exact this
 ·have := h i y a
  rw [Array.getD_eq_getD_getElem?] at this ⊢;rw [List.getElem?_toArray, b, Array.getElem?_toList];exact this
theorem CG {n : Nat} {a : AV} (h : oneCell a = true) : oneCell (lQ n a) = true := by
 cases a <;> simp only [lQ] <;> first | exact h | (split <;> rfl)
theorem CH {S : Nat -> Prop} {w : World} {n : Nat} {a : AV} {v : Value} (h : fS S w a v) : fS S w (lQ n a) v := by
 cases h with
 | nils =>
  simp only [lQ]
  split
  ·exact .nils
  ·exact .vs (fun _ _ => undef) rfl (Nat.le_refl _) (fun r hr => by cases hr) (fun h => by cases h) (fun ad h => by cases h) (fun i j r x hi => by cases hi)
 | vs g hn hc hsz hA hmem hrel => exact .vs g hn hc hsz hA hmem hrel
 | _ => simp only [lQ]; constructor
theorem CI {n : Nat} {a : AV} {v : Value} (h : aD Γ a v) : aD Γ (lQ n a) v := by
 by_cases hs : a = .nils
 ·subst hs
  exact (CH (h.toT rfl)).toV
 ·have : lQ n a = a := by cases a <;> first | rfl | exact absurd rfl hs
  rw [this]; exact h
theorem ot : ∀ (ns : List Nat) (l : List AV), (eS ns l).length = l.length
 | [], l => by simp [eS]
 | n :: ns, [] => rfl
 | n :: ns, a :: l => by simp [eS, ot ns l]
theorem lw : ∀ (ns : List Nat) (l : List AV) (i : Nat) (y : AV), (eS ns l)[i]? = some y -> ∃ n x, l[i]? = some x /\ (y = lQ n x \/ y = x)
 | [], l, i, y, h => ⟨0, y, by simpa [eS] using h, .inr rfl⟩
 | n :: ns, [], i, y, h => by simp [eS] at h
 | n :: ns, a :: l, 0, y, h => by simp [eS] at h; exact ⟨n, a, rfl, .inl h.symm⟩
 | n :: ns, a :: l, i + 1, y, h => by
  simp only [eS, List.getElem?_cons_succ] at h;exact lw ns l i y h
theorem tx {ns : List Nat} {l : List AV} (h : ∀ x, x ∈ l -> oneCell x = true) : ∀ y, y ∈ eS ns l -> oneCell y = true := fun y hy => by
 obtain ⟨i, hi⟩ := List.mem_iff_getElem?.1 hy;obtain ⟨n, x, hx, e⟩ := lw ns l i y hi;have := h x (List.mem_of_getElem? hx);rcases e with rfl | rfl
 ·exact CG this
 ·exact this
theorem ou {ns : List Nat} {xs : List AV} {v : Value} (h : aD Γ (.agg xs) v) : aD Γ (.agg (eS ns xs)) v := by
 cases h with
 | agg hn h1 hrel =>
  refine .agg (by rw [ot]; exact hn) (tx h1) (fun i y hi => ?_);obtain ⟨n, x, hx, e⟩ := lw _ _ _ _ hi;have := hrel i x hx;rcases e with rfl | rfl
  ·exact CI this
  ·exact this
structure uU (P : Program) (t : Nat) : Prop where
 st : P.underlying t = some (.struct (P.fieldsOf t))
 guard : P.eqGuardType P.depth t = false
 held : P.stoodInHeld t = false
 flds : ∀ (i : Nat) (f : Field), (P.fieldsOf t)[i]? = some f -> f.name ≠ "_" /\ f.offset = i /\ ∃ d, P.underlying f.type = some d /\ ((∃ k, d = .int k) \/ d = .bool \/ d = .string)
variable {P : Program} {Γ : aX} {w : World} {t : Nat} {ti : TI} {T : wb} {base : Nat}
theorem Bi {op : BinOp} {k : IntKind} {a b : Int} {r : AV} (h : qr op k a b = some r) (h1 : op ≠ .shl) (h2 : op ≠ .shr) (t : TypeId) : ∃ v, (binOp op t (.int k a) (.int k b)).run P w = .ok v w /\ aD Γ r v := by
 cases op <;> simp only [qr] at h
 case add => injection h with h; subst h; exact ⟨_, by simp [binOp, Op.intArith], .int _ _⟩
 case sub => injection h with h; subst h; exact ⟨_, by simp [binOp, Op.intArith], .int _ _⟩
 case mul => injection h with h; subst h; exact ⟨_, by simp [binOp, Op.intArith], .int _ _⟩
 case quo =>
  split at h
  ·cases h
  ·rename_i hb; injection h with h; subst h; exact ⟨_, by simp [binOp, Op.intDiv, hb], .int _ _⟩
 case rem =>
  split at h
  ·cases h
  ·rename_i hb; injection h with h; subst h; exact ⟨_, by simp [binOp, Op.intDiv, hb], .int _ _⟩
 case and => simp only [mj, Option.map_some, Option.some.injEq] at h; subst h; exact ⟨_, by simp [binOp, Op.intBits], .int _ _⟩
 case or => simp only [mj, Option.map_some, Option.some.injEq] at h; subst h; exact ⟨_, by simp [binOp, Op.intBits], .int _ _⟩
 case xor => simp only [mj, Option.map_some, Option.some.injEq] at h; subst h; exact ⟨_, by simp [binOp, Op.intBits], .int _ _⟩
 case andNot => simp only [mj, Option.map_some, Option.some.injEq] at h; subst h; exact ⟨_, by simp [binOp, Op.intBits], .int _ _⟩
 case shl => exact absurd rfl h1
 case shr => exact absurd rfl h2
 case eql => injection h with h; subst h; exact ⟨_, by simp [binOp, Op.intCmp], .bool _⟩
 case neq => injection h with h; subst h; exact ⟨_, by simp [binOp, Op.intCmp], .bool _⟩
 case lss => injection h with h; subst h; exact ⟨_, by simp [binOp, Op.intCmp], .bool _⟩
 case leq => injection h with h; subst h; exact ⟨_, by simp [binOp, Op.intCmp], .bool _⟩
 case gtr => injection h with h; subst h; exact ⟨_, by simp [binOp, Op.intCmp], .bool _⟩
 case geq => injection h with h; subst h; exact ⟨_, by simp [binOp, Op.intCmp], .bool _⟩
theorem Bj {op : BinOp} {a b : ByteArray} {r : AV} (h : CC op a b = some r) (t : TypeId) : ∃ v, (binOp op t (.string a) (.string b)).run P w = .ok v w /\ aD Γ r v := by
 cases op <;> simp only [CC] at h <;> first | (cases h; done) | skip
 case add =>
  split at h
  ·rename_i hb
   injection h with h; subst h;refine ⟨.string (a ++ b), ?_, .str _⟩;have : ¬ (((a.size + b.size : Nat) : Int) > IntKind.i64.max) := by
    have e : IntKind.i64.max = 9223372036854775807 := by decide
    rw [e]; omega
   simp only [binOp, Op.stringOp, this, if_false, Sem.run_pure]
  ·cases h
 all_goals (injection h with h; subst h; exact ⟨_, by simp [binOp, Op.stringOp], .bool _⟩)
theorem pr {op : BinOp} {k k' : IntKind} {a b : Int} {r : AV} (h : lu op k a b = some r) (ho : op = .shl \/ op = .shr) (t : TypeId) : ∃ v, (binOp op t (.int k a) (.int k' b)).run P w = .ok v w /\ aD Γ r v := by
 unfold lu at h
 split at h
 ·cases h
 ·rename_i hb
  rcases ho with rfl | rfl
  ·injection h with h; subst h
   exact ⟨_, by simp only [binOp, Op.shift, hb, if_false, Sem.run_pure], .int _ _⟩
  ·injection h with h; subst h
   exact ⟨_, by simp only [binOp, Op.shift, hb, if_false, Sem.run_pure], .int _ _⟩
theorem wg {kk : TK} {x y : AV} {r : Bool} {v u : Value} (h : gm kk x y = some r) (hx : aD Γ x v) (hy : aD Γ y u) (ht : dS P t ti) (hk : ti.kind = kk) (n : Nat) : (Op.equalIn (n + 1) t v u).run P w = .ok r w := by
 unfold gm at h
 split at h
 ·split at h
  ·rename_i e; subst e
   injection h with h; subst h;cases hx; cases hy;exact run_equalIn_int w n t _ _ _ _ (ht.int hk)
  ·cases h
 ·injection h with h; subst h
  cases hx; cases hy;exact run_equalIn_bool' w n t _ _ (ht.bool hk)
 ·injection h with h; subst h
  cases hx; cases hy;rw [run_equalIn_string w n t _ _ (ht.str hk), beq_toListBytes]
 ·cases h
theorem pu (hT : ck P T) (n : Nat) (vs us : Array Value) : ∀ (fs : List Field) (k : Nat) (xs ys : List AV) (r : Bool), mU T (fs.map fun f => (f.offset, f.type)) xs ys = some r ->
  (∀ (i : Nat) (f : Field), fs[i]? = some f -> f.name ≠ "_" /\ f.offset = k + i) -> (∀ (i : Nat) (x : AV), xs[i]? = some x -> aD Γ x (vs.getD (k + i) undef)) -> (∀ (i : Nat) (x : AV), ys[i]? = some x -> aD Γ x (us.getD (k + i) undef)) ->
  k + xs.length <= vs.size -> k + ys.length <= us.size -> (Op.eqFields (n + 1) vs us fs).run P w = .ok r w
 | [], k, xs, ys, r, h, _, _, _, _, _ => by
  cases xs <;> cases ys <;> simp [mU] at h;subst h; rfl
 | f :: fs, k, xs, ys, r, h, hf, hx, hy, hvs, hus => by
  cases xs with
  | nil => simp [mU] at h
  | cons x xs =>
  cases ys with
  | nil => simp [mU] at h
  | cons y ys =>
   simp only [List.map_cons, mU] at h;cases hl : look T f.type with
   | none => rw [hl] at h; cases h
   | some ti =>
    rw [hl] at h;have ht := hT _ _ hl;obtain ⟨h1, h2⟩ := hf 0 f rfl;simp at hvs hus;have hx0 := hx 0 x rfl;have hy0 := hy 0 y rfl;have ea : ∀ (w : World) (A : Array Value), k < A.size -> ti.kind.isAgg = false -> (_root_.Go.part f.type A f.offset).run P w = .ok (A.getD (k + 0) undef) w := by
     intro w A hA hag;unfold Go.part;simp only [Sem.run_bind, ht.run_agg, Result.andThen_ok, hag, Bool.false_eq_true, if_false];have e : A[f.offset]? = some (A.getD (k + 0) undef) := by
      rw [h2]; simp [Array.getD_eq_getD_getElem?, hA]
     rw [e]; rfl
    have hkk : ∀ b, gm ti.kind x y = some b -> ti.kind.isAgg = false := by
     intro b hb; unfold gm at hb; split at hb <;> first | (rename_i e1 _ _; rw [e1]; rfl) | (rename_i e1; rw [e1]; rfl) | (cases hb; done) | rfl | skip
     all_goals first | rfl | skip
    have hg : ∀ (i : Nat) (f : Field), fs[i]? = some f -> f.name ≠ "_" /\ f.offset = k + 1 + i := fun i f' hf' => by
     have := hf (i + 1) f' (by simpa using hf'); exact ⟨this.1, by omega⟩
    have hx' : ∀ (i : Nat) (z : AV), xs[i]? = some z -> aD Γ z (vs.getD (k + 1 + i) undef) := fun i z hz => by
     have := hx (i + 1) z (by simpa using hz); rwa [show k + (i + 1) = k + 1 + i by omega] at this
    have hy' : ∀ (i : Nat) (z : AV), ys[i]? = some z -> aD Γ z (us.getD (k + 1 + i) undef) := fun i z hz => by
     have := hy (i + 1) z (by simpa using hz); rwa [show k + (i + 1) = k + 1 + i by omega] at this
    dsimp only at h;cases hb : gm ti.kind x y with
    | none => rw [hb] at h; cases h
    | some b =>
     rw [hb] at h;have hag := hkk b hb;have hrun := wg (w := w) hb hx0 hy0 ht rfl n;unfold Op.eqFields;rw [if_pos h1];simp only [Sem.run_bind, ea w vs (by omega) hag, ea w us (by omega) hag, Result.andThen_ok, hrun];cases b with
     | true =>
      simp only [Bool.not_true, Bool.false_eq_true, if_false];exact pu hT n vs us fs (k + 1) xs ys r h hg hx' hy' (by omega) (by omega)
     | false =>
      injection h with h; subst h;simp
variable {P : Program} {Γ : aX} {w : World} {t : Nat} {ti : TI} {T : wb} {base : Nat}
theorem lS {a : AV} {v : Value} (h : p8 a = true) (r : aD Γ a v) : ∃ ad n c, v = .slice (some ad) n c := by
 unfold p8 at h
 split at h
 ·cases r with
  | sl hin h1 hh => obtain ⟨ad, c, e⟩ := h1; exact ⟨_, _, _, e⟩
 ·cases r with
  | vs hT => cases hT with
   | vs g hn hc hsz hA hmem hrel =>
   obtain ⟨ad, e⟩ := hA (by rw [hn]; simp);exact ⟨ad, _, _, by rw [e]⟩
 ·cases h
theorem gg {a : AV} {v : Value} (h : p9 a = true) (r : aD Γ a v) : ∃ ad, v = .pointer (some ad) := by
 unfold p9 at h
 split at h
 ·cases r with
  | hp hin h1 hh => exact h1
 ·cases r with
  | rp g h1 hmem hrel => exact ⟨_, rfl⟩
 ·cases h
theorem tz (ht : dS P t ti) {a b : AV} {v u : Value} {r : Bool} (h : Hz ti.kind a b = some r) (ra : aD Γ a v) (rb : aD Γ b u) (n : Nat) : (Op.equalIn (n + 1) t v u).run P w = .ok r w := by
 unfold Hz at h
 split at h
 ·rename_i hk
  injection h with h; subst h;cases ra; cases rb;exact run_equalIn_bool' w n t _ _ (ht.bool hk)
 ·rename_i hk
  injection h with h; subst h;cases ra; cases rb;obtain ⟨e, he⟩ := ht.ptr hk;simp [Op.equalIn, run_underlying he]
 ·rename_i hk _
  split at h
  ·rename_i hs
   injection h with h; subst h;obtain ⟨ad, rfl⟩ := gg hs ra;cases rb;obtain ⟨e, he⟩ := ht.ptr hk;simp [Op.equalIn, run_underlying he]
  ·cases h
 ·rename_i e hk
  injection h with h; subst h;cases ra; cases rb;simp [Op.equalIn, run_underlying (ht.slice hk)]
 ·rename_i e hk _
  split at h
  ·rename_i hs
   injection h with h; subst h;obtain ⟨ad, m, c, rfl⟩ := lS hs ra;cases rb;simp [Op.equalIn, run_underlying (ht.slice hk)]
  ·cases h
 ·rename_i k e hk
  injection h with h; subst h;cases ra; cases rb;simp [Op.equalIn, run_underlying (ht.map hk)]
 ·rename_i hk
  injection h with h; subst h;cases ra; cases rb;obtain ⟨_, _, _, he⟩ := ht.func hk;simp [Op.equalIn, run_underlying he]
 ·rename_i hk
  injection h with h; subst h;cases ra; cases rb;obtain ⟨_, _, _, he⟩ := ht.func hk;simp [Op.equalIn, run_underlying he]
 ·cases h
theorem kT (hT : ck P T) {eqs : List Nat} (hE : ∀ t, t ∈ eqs -> uU P t) {xs ys : List AV} {vs us : Array Value} {r : Bool} (h : jn T eqs t xs ys = some r) (hx : aD Γ (.agg xs) (.agg vs)) (hy : aD Γ (.agg ys) (.agg us)) :
  (Op.equalIn 10000 t (.agg vs) (.agg us)).run P w = .ok r w /\ P.eqGuardType P.depth t = false := by
 unfold jn at h
 split at h
 ·rename_i hm
  have hok := hE t hm
  split at h
  ·rename_i sz by_ zr fs hl
   have ht := hT t _ hl;obtain ⟨gs, hg, hfs⟩ := ht.struct rfl;have hgs : gs = P.fieldsOf t := by
    have := hok.st;rw [hg] at this;injection this with this; injection this
   subst hgs;refine ⟨?_, hok.guard⟩;rw [run_equalIn_agg w 9999 t vs us hok.st hok.held];cases hx with
   | agg hn h1 hrel =>
    cases hy with
    | agg hn' h1' hrel' =>
     refine pu hT 9998 vs us _ 0 xs ys r (by rw [hfs]; exact h) (fun i f hf => ?_) (fun i x hx => by simpa using hrel i x hx) (fun i x hx => by simpa using hrel' i x hx) (by omega) (by omega);have := hok.flds i f (by simpa using hf);exact ⟨this.1, by omega⟩
  ·cases h
 ·cases h
def uV : Value -> Bool
 | .bool _ | .pointer _ | .slice .. | .map _ | .nilFunc | .func .. => true
 | _ => false
theorem wi {k : TK} {a b : AV} {v : Value} {r : Bool} (h : Hz k a b = some r) (ra : aD Γ a v) : uV v = true := by
 have h1 : p9 a = true -> uV v = true := fun hs => by obtain ⟨ad, rfl⟩ := gg hs ra; rfl
 have h2 : p8 a = true -> uV v = true := fun hs => by obtain ⟨ad, m, c, rfl⟩ := lS hs ra; rfl
 unfold Hz at h
 split at h
 ·cases ra; rfl
 ·cases ra; rfl
 ·exact h1 (Option.ite_none_right_eq_some.1 h).1
 ·cases ra; rfl
 ·exact h2 (Option.ite_none_right_eq_some.1 h).1
 ·cases ra; rfl
 ·cases ra; rfl
 ·cases ra; rfl
 ·cases h
theorem wj {v : Value} (h : uV v = true) (op : BinOp) (t : TypeId) (x y : Operand) (u : Value) : eqGuard op t x y v u = pure () /\
  (Go.binOp .eql t v u) = (do pure (.bool (<- Op.equal t v u))) /\ (Go.binOp .neq t v u) = (do pure (.bool (!(<- Op.equal t v u)))) := by
 cases v <;> first | (cases h; done) | skip
 all_goals refine ⟨by cases op <;> rfl, ?_⟩
 all_goals cases u <;> exact ⟨rfl, rfl⟩
theorem wk (hT : ck P T) {eqs : List Nat} (hE : ∀ t, t ∈ eqs -> uU P t) {op : BinOp} {x y r : AV} {v u : Value} (h : binop T eqs op t x y = some r) (rx : aD Γ x v) (ry : aD Γ y u) (X Y : Operand) :
  ∃ z, (do eqGuard op t X Y v u; Go.binOp op t v u : Sem Value).run P w = .ok z w /\ aD Γ r z := by
 unfold binop at h
 split at h
 ·cases rx; cases ry
  rw [eqGuard_at_int];exact pr h (k' := by assumption) (.inl rfl) t
 ·cases rx; cases ry
  rw [eqGuard_at_int];exact pr h (k' := by assumption) (.inr rfl) t
 ·rename_i n1 n2
  split at h
  ·rename_i e; subst e
   cases rx; cases ry;rw [eqGuard_at_int]
   by_cases h1 : op = .shl
   ·subst h1; exact (n1 rfl).elim
   ·by_cases h2 : op = .shr
    ·subst h2; exact (n2 rfl).elim
    ·exact Bi h h1 h2 t
  ·cases h
 ·cases rx; cases ry
  rw [eqGuard_at_string];exact Bj h t
 ·simp only [Option.map_eq_some_iff] at h
  obtain ⟨b, hb, rfl⟩ := h;cases rx with
  | agg hn h1 hr =>
   cases ry with
   | agg hn' h1' hr' =>
    obtain ⟨e1, e2⟩ := kT (w := w) hT hE hb (.agg hn h1 hr) (.agg hn' h1' hr');refine ⟨.bool b, ?_, .bool _⟩;simp only [Sem.run_bind, run_eqGuard_agg _ _ _ _ _ _ _ e2, Result.andThen_ok, run_eql_struct, e1]
 ·simp only [Option.map_eq_some_iff] at h
  obtain ⟨b, hb, rfl⟩ := h;cases rx with
  | agg hn h1 hr =>
   cases ry with
   | agg hn' h1' hr' =>
    obtain ⟨e1, e2⟩ := kT (w := w) hT hE hb (.agg hn h1 hr) (.agg hn' h1' hr');refine ⟨.bool (!b), ?_, .bool _⟩;simp only [Sem.run_bind, run_eqGuard_agg _ _ _ _ _ _ _ e2, Result.andThen_ok, run_neq_struct, e1]
 ·split at h
  ·rename_i ti hl
   simp only [Option.map_eq_some_iff] at h;obtain ⟨b, hb, rfl⟩ := h;obtain ⟨e1, e2, e3⟩ := wj (wi hb rx) .eql t X Y u;have e4 := tz (w := w) (hT t ti hl) hb rx ry 9999;refine ⟨.bool b, ?_, .bool _⟩;rw [e1, e2];simp only [Sem.run_bind, Sem.run_pure, Result.andThen_ok];have e5 : (Op.equal t v u).run P w = .ok b w := e4;rw [e5]; rfl
  ·cases h
 ·split at h
  ·rename_i ti hl
   simp only [Option.map_eq_some_iff] at h;obtain ⟨b, hb, rfl⟩ := h;obtain ⟨e1, e2, e3⟩ := wj (wi hb rx) .neq t X Y u;have e4 := tz (w := w) (hT t ti hl) hb rx ry 9999;refine ⟨.bool (!b), ?_, .bool _⟩;rw [e1, e3];simp only [Sem.run_bind, Sem.run_pure, Result.andThen_ok];have e5 : (Op.equal t v u).run P w = .ok b w := e4;rw [e5]; rfl
  ·cases h
 ·cases h
theorem yD {op : UnOp} {x r : AV} {v : Value} (h : Gy op x = some r) (rx : aD Γ x v) : ∃ z, (Op.unary op v).run P w = .ok z w /\ aD Γ r z := by
 unfold Gy at h
 split at h
 ·injection h with h; subst h
  cases rx;exact ⟨_, rfl, .int _ _⟩
 ·injection h with h; subst h
  cases rx;exact ⟨_, rfl, .bool _⟩
 ·rename_i k n
  simp only [mj, Option.map_some, Option.some.injEq] at h;subst h;cases rx;exact ⟨_, rfl, .int _ _⟩
 ·cases h
theorem j0 (lt : Int -> Int -> Bool) (f : Value -> Value -> Sem Value) (hf : ∀ (k k' : IntKind) (a b : Int) (w : World), (f (.int k a) (.int k' b)).run P w = .ok (.int k (if lt b a then b else a)) w) :
  ∀ (xs : List AV) (x r : AV) (v : Value) (vs : List Value), om lt x xs = some r -> aD Γ x v -> bH Γ xs vs -> ∃ z, (vs.foldlM f v).run P w = .ok z w /\ aD Γ r z
 | [], x, r, v, vs, h, rx, rv => by
  cases rv;simp only [om] at h;injection h with h; subst h;exact ⟨v, rfl, rx⟩
 | y :: xs, x, r, v, vs, h, rx, rv => by
  cases rv with
  | cons hy ht =>
   unfold om at h
   split at h
   ·rename_i e; cases e
   ·rename_i k a k' b l e
    injection e with e1 e2;subst e1 e2
    split at h
    ·rename_i e; subst e
     cases rx; cases hy;obtain ⟨z, hz, hr⟩ := j0 lt f hf _ _ r (.int k (if lt b a then b else a)) _ h (.int _ _) ht;refine ⟨z, ?_, hr⟩;rw [List.foldlM_cons];simp only [Sem.run_bind, hf, Result.andThen_ok];exact hz
    ·cases h
   ·cases h
variable {P : Program} {Γ : aX} {w : World} {t : Nat} {ti : TI} {T : wb} {base : Nat}
def fT (Γ : aX) (xs : List AV) (cs : Array Value) : Prop :=
 cs.size = xs.length /\ (∀ x, x ∈ xs -> oneCell x = true) /\ ∀ (i : Nat) (x : AV), xs[i]? = some x -> aD Γ x (cs.getD i undef)
theorem fT.agg {xs : List AV} {cs : Array Value} (h : fT Γ xs cs) : aD Γ (.agg xs) (.agg cs) := .agg h.1 h.2.1 h.2.2
theorem fT.of_zero {cs : Array Value} {xs : List AV} (h : cs.toList.mapM eN = some xs) : fT Γ xs cs := by
 obtain ⟨h3, h4, _, h6⟩ := kQ (Γ := Γ) h;refine ⟨by simpa using h3.symm, h4, fun i x hx => ?_⟩
 obtain ⟨v, hv, hr⟩ := h6 i x hx;have : cs.getD i undef = v := by rw [Array.getD_eq_getD_getElem?, <- Array.getElem?_toList, hv]; rfl
 rw [this]; exact hr
theorem tC (off : Nat) : ∀ (l : List Value) (k : Nat) (cs : Array Value), off + k + l.length <= cs.size ->
  ((l.zipIdx k).foldl (fun cs (c, j) => cs.setIfInBounds (off + j) c) cs).toList = cs.toList.take (off + k) ++ l ++ cs.toList.drop (off + k + l.length)
 | [], k, cs, h => by simp
 | v :: l, k, cs, h => by
  simp only [List.zipIdx_cons, List.foldl_cons];simp only [List.length_cons] at h;rw [tC off l (k + 1) _ (by simp; omega)];have hlt : off + k < cs.toList.length := by simp; omega
  rw [Array.toList_setIfInBounds];have e1 : (cs.toList.set (off + k) v).take (off + (k + 1)) = cs.toList.take (off + k) ++ [v] := by
   rw [show off + (k + 1) = off + k + 1 by omega, List.take_set, List.take_add_one, List.getElem?_eq_getElem hlt]
   rw [List.set_append_right _ _ (by simp; omega)];have e0 : off + k - (List.take (off + k) cs.toList).length = 0 := by
    rw [List.length_take, Nat.min_eq_left (Nat.le_of_lt hlt)]; omega
   rw [e0]; rfl
  have e2 : (cs.toList.set (off + k) v).drop (off + (k + 1) + l.length) = cs.toList.drop (off + k + (v :: l).length) := by
   rw [List.drop_set_of_lt (by omega)];congr 1; simp; omega
  rw [e1, e2];simp
theorem mo {placeA place : Nat -> Option (Nat × Nat)} (hp : ∀ i p, placeA i = some p -> place i = some p) : ∀ (l : List (Nat × AV)) (m : List (Nat × Value)) (xs ys : List AV) (cs : Array Value),
  qt xs placeA l = some ys -> l.map (·.1) = m.map (·.1) -> bH Γ (l.map (·.2)) (m.map (·.2)) -> fT Γ xs cs -> ∃ ds, Instr.fill place cs m = some ds /\ fT Γ ys ds
 | [], [], xs, ys, cs, h, _, _, hc => by
  injection h with h; subst h;exact ⟨cs, rfl, hc⟩
 | [], _ :: _, _, _, _, _, h, _, _ => by simp at h
 | _ :: _, [], _, _, _, _, h, _, _ => by simp at h
 | (i, v) :: l, (j, x) :: m, xs, ys, cs, h, he, hr, hc => by
  simp only [List.map_cons, List.cons.injEq] at he;obtain ⟨rfl, he⟩ := he;cases hr with
  | cons hv hr =>
   simp only [qt] at h
   split at h
   ·rename_i off sz hpl
    split at h
    ·rename_i zs hz
     split at h
     ·rename_i hle
      obtain ⟨c1, c2, c3⟩ := eU hv hz;have hlt : off + zs.length <= xs.length := by omega
      simp only [Instr.fill, hp _ _ hpl];have hn : ¬ ((x.cells.size ≠ sz || off + x.cells.size > cs.size) = true) := by
       have h5 := hc.1; simp only [c1]; simp; omega
      rw [if_neg hn];have hl : x.cells.toList.length = zs.length := by simpa using c1
      have e : (x.cells.zipIdx.foldl (fun cs (c, j) => cs.setIfInBounds (off + j) c) cs) = (cs.toList.take off ++ x.cells.toList ++ cs.toList.drop (off + zs.length)).toArray := by
       apply Array.ext';rw [<- Array.foldl_toList, Array.toList_zipIdx, tC off x.cells.toList 0 cs (by have := hc.1; omega)];simp [hl]
      rw [e];refine mo hp l m _ ys _ h he hr ⟨?_, fun y hy => ?_, fun i y hy => ?_⟩
      ·rw [dI _ _ _ hlt]; have := hc.1; simp [c1]; omega
      ·rcases jZ hy with hy | hy
       ·exact hc.2.1 y hy
       ·exact c2 y hy
      ·exact mn hv hz hlt (by have := hc.1; omega) hc.2.2 i y hy
     ·cases h
    ·cases h
   ·cases h
theorem mZ {place : Nat -> Option (Nat × Nat)} : ∀ {l : List (Nat × AV)} {xs ys : List AV}, qt xs place l = some ys -> ys.length = xs.length
 | [], xs, ys, h => by injection h with h; subst h; rfl
 | (i, v) :: l, xs, ys, h => by
  simp only [qt] at h
  split at h
  ·split at h
   ·split at h
    ·rename_i hle
     rw [mZ h, dI _ _ _ (by omega)]
    ·cases h
   ·cases h
  ·cases h
theorem lT {α : Type} (l : List α) (hl : 0 < l.length) : ∀ (n i : Nat), i < n * l.length -> ((List.replicate n l).flatten)[i]? = l[i % l.length]?
 | 0, i, h => by omega
 | n + 1, i, h => by
  rw [List.replicate_succ, List.flatten_cons];rw [Nat.succ_mul] at h;rcases Nat.lt_or_ge i l.length with h1 | h1
  ·rw [List.getElem?_append_left h1, Nat.mod_eq_of_lt h1]
  ·rw [List.getElem?_append_right h1, lT l hl n (i - l.length) (by omega)]
   rw [Nat.mod_eq_sub_mod h1]
theorem fT.rep {xs : List AV} {cs : Array Value} (h : fT Γ xs cs) (h0 : 0 < xs.length) (n : Nat) : fT Γ (List.replicate n xs).flatten ((Array.range (n * xs.length)).map (cs[· % cs.size]!)) := by
 refine ⟨by simp, fun x hx => ?_, fun i x hx => ?_⟩
 ·obtain ⟨l, hl, hx⟩ := List.mem_flatten.1 hx
  rw [(List.mem_replicate.1 hl).2] at hx;exact h.2.1 x hx
 ·have hi : i < n * xs.length := by
   rcases Nat.lt_or_ge i (n * xs.length) with h' | h'
   ·exact h'
   ·rw [List.getElem?_eq_none (by simpa using h')] at hx; cases hx
  rw [lT xs h0 n i hi] at hx;have := h.2.2 _ x hx;have hs := h.1;have hm : i % cs.size < cs.size := Nat.mod_lt _ (by omega);have e : (Array.map (fun x => cs[x % cs.size]!) (Array.range (n * xs.length))).getD i undef = cs.getD (i % xs.length) undef := by
   rw [Array.getD_eq_getD_getElem?, Array.getElem?_map, Array.getElem?_range, if_pos hi];rw [<- hs];simp [Array.getD_eq_getD_getElem?, hm]
  rw [e]; exact this
variable {P : Program} {C : dO} {Γ : aX} {t : Nat} {ti : TI} {base n0 f : Nat} {β : Nat -> Nat} {s s' : St} {a : Act} {o : Oper} {K : Callee}
def cJ (P : Program) (Γ : aX) (β : Nat -> Nat) (s : St) (a : Act) (o : Oper) (s' : St) : Prop :=
 ∃ x v, (execOp a.eval o).run P Γ.w = .ok (.value v) Γ.w /\ jc Γ β x v /\ s' = s.put o.dst x
theorem eV (b off : Nat) : (⟨b, 0, none⟩ : Addr).add off = ⟨b, off, none⟩ := by
 unfold Addr.add
 by_cases h : off = 0 <;> simp [h]
theorem lx (b o n : Nat) : (⟨b, o, none⟩ : Addr).add n = ⟨b, o + n, none⟩ := by
 unfold Addr.add
 by_cases h : n = 0 <;> simp [h]
theorem ET (a : Addr) : a.add 0 = a := by unfold Addr.add; simp
theorem uW {w : World} {b j : Nat} {arr : Array Value} {T : TypeId} {fr : Nat × Nat} (h : w.heap[b]? = some (.cells arr T fr)) (hj : j < arr.size) : w.cell? ((⟨b, 0, none⟩ : Addr).add j) = some (arr.getD j undef) := by
 rw [eV];unfold World.cell?;simp only [h];simp [Array.getD_eq_getD_getElem?, hj]
theorem aZ.locCells (R : aZ base n0 Γ β s a) {d : Nat} {xs : List AV} (h : look s.loc d = some xs) : ∃ g : Nat -> Value, (∀ x, x ∈ xs -> oneCell x = true) /\ ∀ (j : Nat) (x : AV), xs[j]? = some x -> Γ.w.cell? ((⟨β d, 0, none⟩ : Addr).add j) = some (g j) /\ aD Γ x (g j) := by
 obtain ⟨arr, T, h1, h2, h3, h4, _⟩ := R.loc d xs h;refine ⟨fun j => arr.getD j undef, h3, fun j x hj => ⟨uW h1 ?_, h4 j x hj⟩⟩
 rcases Nat.lt_or_ge j xs.length with h' | h'
 ·omega
 ·rw [List.getElem?_eq_none h'] at hj; cases hj
theorem dM.objCells (I : dM base Γ) {id b T : Nat} {xs : List AV} (hb : Γ.ρ id = some b) (h : Γ.H[id]? = some (.cells T xs)) : ∃ g : Nat -> Value, (∀ x, x ∈ xs -> oneCell x = true) /\ ∀ (j : Nat) (x : AV), xs[j]? = some x -> Γ.w.cell? ((⟨b, 0, none⟩ : Addr).add j) = some (g j) /\ aD Γ x (g j) := by
 obtain ⟨arr, h1, h2, h3, h4⟩ := I.cells id b T xs hb h;refine ⟨fun j => arr.getD j undef, h3, fun j x hj => ⟨uW h1 ?_, h4 j x hj⟩⟩
 rcases Nat.lt_or_ge j xs.length with h' | h'
 ·omega
 ·rw [List.getElem?_eq_none h'] at hj; cases hj
theorem uX {id n off : Nat} {v : Value} (h : aD Γ (.hp id n off) v) {T : Nat} {xs : List AV} (hx : Γ.H[id]? = some (.cells T xs)) (hn : n = xs.length) : ∃ b, Γ.ρ id = some b /\ v = .pointer (some ⟨b, off, none⟩) := by
 cases h with
 | hp hin h1 hh => exact (hh T xs hx).2 hn
theorem ir {id sz off len : Nat} {v : Value} (h : aD Γ (.sl id sz off len) v) {T : Nat} {xs : List AV} (hx : Γ.H[id]? = some (.cells T xs)) (hn : off + len * sz = xs.length) :
  ∃ (b c : Nat) (arr : Array Value) (T' : TypeId) (fr : Nat × Nat), Γ.ρ id = some b /\ v = .slice (some ⟨b, off, none⟩) len c /\ len <= c /\ Γ.w.heap[b]? = some (.cells arr T' fr) /\ off + c * sz <= arr.size := by
 cases h with
 | sl hin h1 hh => exact (hh T xs hx).2 hn
theorem mq {x : Option co} (h : x.map (s.put o.dst) = some s') : ∃ y, x = some y /\ s' = s.put o.dst y := by
 cases x with
 | none => cases h
 | some y => injection h with h; exact ⟨y, rfl, h.symm⟩
theorem dV {x : Option AV} (h : x.map (s.putv o.dst) = some s') : ∃ y, x = some y /\ s' = s.put o.dst (.v y) := by
 cases x with
 | none => cases h
 | some y => injection h with h; exact ⟨y, rfl, h.symm⟩
theorem ow (R : aZ base n0 Γ β s a) {x : Operand} (ho : o.op = .move x \/ o.op = .assign x) (h : aE C K f o s = some s') : cJ P Γ β s a o s' := by
 have h' : (s.slot x).map (s.put o.dst) = some s' := by
  unfold aE at h;rcases ho with ho | ho <;> (rw [ho] at h; exact h)
 obtain ⟨y, hy, e⟩ := mq h';refine ⟨y, a.eval x, ?_, R.slot hy, e⟩;unfold execOp;rcases ho with ho | ho <;> rw [ho] <;> rfl
theorem Bk (R : aZ base n0 Γ β s a) {c x y : Operand} (ho : o.op = .pick c x y) (h : aE C K f o s = some s') : cJ P Γ β s a o s' := by
 unfold aE at h;rw [ho] at h;dsimp only at h
 split at h
 ·rename_i hc
  obtain ⟨z, hz, e⟩ := mq h;refine ⟨z, a.eval x, ?_, R.slot hz, e⟩;have := R.val hc;cases hv : a.eval c <;> rw [hv] at this <;> cases this;unfold execOp;rw [ho];simp [hv, asBool]
 ·rename_i hc
  obtain ⟨z, hz, e⟩ := mq h;refine ⟨z, a.eval y, ?_, R.slot hz, e⟩;have := R.val hc;cases hv : a.eval c <;> rw [hv] at this <;> cases this;unfold execOp;rw [ho];simp [hv, asBool]
 ·cases h
theorem ox (hT : ck P C.tab) (R : aZ base n0 Γ β s a) {t : TypeId} {x : Operand} (ho : o.op = .load t x) (h : aE C K f o s = some s') : cJ P Γ β s a o s' := by
 unfold aE at h;rw [ho] at h;dsimp only at h;have key : ∀ (ad : Addr) (v : Value) (r : AV), a.eval x = .pointer (some ad) -> (loadVar t ad).run P Γ.w = .ok v Γ.w -> aD Γ r v -> s' = s.put o.dst (.v r) -> cJ P Γ β s a o s' := by
  intro ad v r hx hv hr e;refine ⟨.v r, v, ?_, hr, e⟩;unfold execOp;rw [ho];simp [hx, Instr.loadAt, Instr.sureAddr, hv]
 split at h
 ·rename_i ti d off ht hx
  split at h
  ·rename_i xs hl
   obtain ⟨r, hr, e⟩ := dV h;obtain ⟨g, h1, h2⟩ := R.locCells hl;obtain ⟨v, hv, hrel⟩ := iq (hT t ti ht) _ g h1 h2 off hr;rw [eV] at hv;exact key _ v r (R.slot hx) hv hrel e
  ·cases h
 ·rename_i ti id n off ht hx
  split at h
  ·rename_i T xs hH
   split at h
   ·rename_i hn
    obtain ⟨r, hr, e⟩ := dV h;have hH' : Γ.H[id]? = some (.cells T xs) := by rw [R.heap]; exact hH
    obtain ⟨b, hb, hv⟩ := uX (R.slot hx) hH' hn;obtain ⟨g, h1, h2⟩ := R.inv.objCells hb hH';obtain ⟨v, hv', hrel⟩ := iq (hT t ti ht) _ g h1 h2 off hr;rw [eV] at hv';exact key _ v r hv hv' hrel e
   ·cases h
  ·cases h
 ·rename_i ti xs ht hx
  obtain ⟨r, hr, e⟩ := dV h;have hr' : aD Γ (.rp xs) (a.eval x) := R.slot hx;generalize hv : a.eval x = u at hr';cases hr' with
  | rp g h1 hmem hrel =>
   rename_i ad;have h2 : ∀ (j : Nat) (x : AV), xs[j]? = some x -> Γ.w.cell? (ad.add j) = some (g j) /\ aD Γ x (g j) := fun j x hj => by
    refine ⟨(hmem j ?_).1, (hrel j x hj).toV⟩;rcases Nat.lt_or_ge j xs.length with h' | h'
    ·exact h'
    ·rw [List.getElem?_eq_none h'] at hj; cases hj
   obtain ⟨v, hv', hrel'⟩ := iq (hT t ti ht) ad g h1 h2 0 hr;rw [ET] at hv';exact key _ v r hv hv' hrel' e
 ·cases h
theorem sY (R : aZ base n0 Γ β s a) {x : Operand} (ho : o.op = .nilCheck x) (h : aE C K f o s = some s') : cJ P Γ β s a o s' := by
 unfold aE at h;rw [ho] at h;dsimp only at h;have key : ∀ (ad : Addr) (y : co), a.eval x = .pointer (some ad) -> jc Γ β y (a.eval x) -> s' = s.put o.dst y -> cJ P Γ β s a o s' := by
  intro ad y hx hr e;refine ⟨y, a.eval x, ?_, hr, e⟩;unfold execOp;rw [ho];simp [hx]
 split at h
 ·rename_i d off hx
  injection h with h;exact key _ _ (R.slot hx) (R.slot hx) h.symm
 ·rename_i id n off hx
  injection h with h;obtain ⟨ad, hv⟩ := gg (a := .hp id n off) rfl (R.slot hx);exact key _ _ hv (R.slot hx) h.symm
 ·rename_i xs hx
  injection h with h;have hr' : aD Γ (.rp xs) (a.eval x) := R.slot hx;have h3 : ∃ ad, a.eval x = .pointer (some ad) := by
   generalize a.eval x = u at hr';cases hr'; exact ⟨_, rfl⟩
  obtain ⟨ad, hv⟩ := h3;exact key _ _ hv (R.slot hx) h.symm
 ·cases h
variable {base : Nat} {Γ : aX} {S : Nat -> Prop} {w : World}
theorem qz (sz : Nat) : ∀ (n : Nat) (xs : List AV), (cv sz n xs).length = n
 | 0, _ => rfl
 | n + 1, xs => by simp [cv, qz sz n]
theorem qA (sz : Nat) : ∀ (n : Nat) (xs : List AV) (i : Nat) (r : List AV), (cv sz n xs)[i]? = some r -> i < n /\ r = (xs.drop (i * sz)).take sz
 | 0, xs, i, r, h => by simp [cv] at h
 | n + 1, xs, 0, r, h => by simp [cv] at h; subst h; simp
 | n + 1, xs, i + 1, r, h => by
  simp only [cv, List.getElem?_cons_succ] at h;obtain ⟨h1, h2⟩ := qA sz n _ i r h;refine ⟨by omega, ?_⟩
  rw [h2, List.drop_drop, Nat.succ_mul, Nat.add_comm sz]
theorem ka {xs : List AV} (h : xs.all bh = true) {x : AV} (hx : x ∈ xs) : bh x = true := List.all_eq_true.1 h x hx
theorem gn {b T off len sz c : Nat} {fr : Nat × Nat} {arr : Array Value} {xs : List AV} (hw : w.heap[b]? = some (.cells arr T fr)) (hS : S b) (hsz : xs.length <= arr.size) (h1 : ∀ x, x ∈ xs -> oneCell x = true)
  (hr : ∀ (i : Nat) (x : AV), xs[i]? = some x -> fS S w x (arr.getD i undef)) (hl : off + len * sz = xs.length) (hc : len <= c) :
  fS S w (.vs sz (cv sz len (xs.drop off))) (.slice (some ⟨b, off, none⟩) len c) := by
 have hlen : ∀ i r, (cv sz len (xs.drop off))[i]? = some r -> r.length = sz /\ i < len /\ ∀ j x, r[j]? = some x -> j < sz /\ xs[off + (i * sz + j)]? = some x := fun i r hi => by
  obtain ⟨q1, q2⟩ := qA _ _ _ _ _ hi;have hle : i * sz + sz <= len * sz := by rw [<- Nat.succ_mul]; exact Nat.mul_le_mul_right _ q1
  refine ⟨by rw [q2]; simp; omega, q1, fun j x hj => ?_⟩
  have hjl : j < sz := by
   rcases Nat.lt_or_ge j sz with h' | h'
   ·exact h'
   ·rw [q2, List.getElem?_take_eq_none h'] at hj; cases hj
  rw [q2, List.getElem?_take_of_lt hjl, List.drop_drop, List.getElem?_drop] at hj;exact ⟨hjl, by rw [<- hj]; congr 1; omega⟩
 refine .vs (fun i j => arr.getD (off + (i * sz + j)) undef) (by rw [qz]) hc (fun r hr' => ?_) (fun _ => ⟨_, rfl⟩) (fun ad had i j hi hj => ?_) (fun i j r x hi hj => ?_)
 ·obtain ⟨i, hi⟩ := List.mem_iff_getElem?.1 hr'
  obtain ⟨q1, _, q3⟩ := hlen i r hi;refine ⟨q1, fun x hx => ?_⟩
  obtain ⟨j, hj⟩ := List.mem_iff_getElem?.1 hx;exact h1 x (List.mem_of_getElem? (q3 j x hj).2)
 ·injection had with had; subst had
  rw [lx];have hle : i * sz + sz <= len * sz := by rw [<- Nat.succ_mul]; exact Nat.mul_le_mul_right _ hi
  have := uW (w := w) (j := off + (i * sz + j)) hw (by omega);rw [eV] at this;exact ⟨this, hS⟩
 ·exact hr _ x ((hlen i r hi).2.2 j x hj).2
def aX.frz (Γ Γ1 : aX) : aX := { H := Γ.H, ρ := Γ.ρ, S := fun b => Γ1.S b \/ ∃ id, Γ.H.length <= id /\ Γ1.ρ id = some b, w := Γ1.w }
variable {Γ1 : aX}
theorem qB (I1 : dM base Γ1) {a a' : AV} {v : Value} (h : yx Γ1.H Γ.H.length a = some a') (hr : aD Γ1 a v) : fS (Γ.frz Γ1).S (Γ.frz Γ1).w a' v := by
 unfold yx at h
 split at h
 ·rename_i id sz off len
  split at h
  ·rename_i T xs hx
   split at h
   ·rename_i hc
    injection h with h; subst h;obtain ⟨c1, c2, c3⟩ := hc;obtain ⟨b, c, arr, T', fr, hb, hv, hle, hh, hsz⟩ := ir hr hx c2;obtain ⟨arr2, k1, k2, k3, k4⟩ := I1.cells id b T xs hb hx;rw [k1] at hh;injection hh with hh; injection hh with e1 _ _; subst e1;subst hv;exact gn k1 (.inr ⟨id, c1, hb⟩) k2 k3 (fun i x hi => ((k4 i x hi).toT (ka c3 (List.mem_of_getElem? hi))).mono fun b hs => ⟨.inl hs, rfl⟩) c2 hle
   ·cases h
  ·cases h
 ·split at h
  ·rename_i hs
   injection h with h; subst h;exact (hr.toT hs).mono fun b hs => ⟨.inl hs, rfl⟩
  ·cases h
theorem CJ {h : aj} {lo : Nat} {a b : AV} (hf : yx h lo a = some b) : oneCell b = true := by
 unfold yx at hf
 split at hf
 ·split at hf
  ·split at hf
   ·injection hf with hf; subst hf; rfl
   ·cases hf
  ·cases hf
 ·split at hf
  ·rename_i hs
   injection hf with hf; subst hf;cases a <;> first | rfl | (cases hs; done)
  ·cases hf
theorem pw (I1 : dM base Γ1) : ∀ {xs ys : List AV}, Ah Γ1.H Γ.H.length xs = some ys -> ys.length = xs.length /\ ∀ (i : Nat) (y : AV), ys[i]? = some y -> ∃ x, xs[i]? = some x /\ yx Γ1.H Γ.H.length x = some y
 | [], ys, h => by injection h with h; subst h; simp
 | a :: l, ys, h => by
  simp only [Ah] at h
  split at h
  ·rename_i b hb
   split at h
   ·rename_i m hm
    injection h with h; subst h;obtain ⟨h1, h2⟩ := pw I1 hm;refine ⟨by simp [h1], fun i y hi => ?_⟩
    cases i with
    | zero => simp at hi; subst hi; exact ⟨a, rfl, hb⟩
    | succ i => simp at hi; simpa using h2 i y hi
   ·cases h
  ·cases h
theorem qC (I1 : dM base Γ1) {a a' : AV} {v : Value} (h : er Γ1.H Γ.H.length a = some a') (hr : aD Γ1 a v) : fS (Γ.frz Γ1).S (Γ.frz Γ1).w a' v := by
 unfold er at h
 split at h
 ·rename_i id sz off len
  split at h
  ·rename_i T xs hx
   split at h
   ·rename_i hc
    refine qB I1 (a := .sl id sz off len) ?_ hr;unfold yx;dsimp only;rw [hx];dsimp only;rw [if_pos hc];exact h
   ·split at h
    ·rename_i ys hy
     split at h
     ·rename_i hc
      injection h with h; subst h;obtain ⟨c1, c2⟩ := hc;obtain ⟨l1, l2⟩ := pw I1 hy;obtain ⟨b, c, arr, T', fr, hb, hv, hle, hh, hsz⟩ := ir hr hx c2;obtain ⟨arr2, k1, k2, k3, k4⟩ := I1.cells id b T xs hb hx;rw [k1] at hh;injection hh with hh; injection hh with e1 _ _; subst e1;subst hv;refine gn k1 (.inr ⟨id, c1, hb⟩) (by rw [l1]; exact k2) (fun y hy' => ?_) (fun i y hi => ?_) (by rw [l1]; exact c2) hle
      ·obtain ⟨i, hi⟩ := List.mem_iff_getElem?.1 hy'
       obtain ⟨x, _, q⟩ := l2 i y hi;exact CJ q
      ·obtain ⟨x, q1, q2⟩ := l2 i y hi
       exact qB I1 q2 (k4 i x q1)
     ·cases h
    ·cases h
  ·cases h
 ·split at h
  ·rename_i hs
   injection h with h; subst h;exact (hr.toT hs).mono fun b hs => ⟨.inl hs, rfl⟩
  ·cases h
theorem qD (I1 : dM base Γ1) : ∀ {xs ys : List AV}, we Γ1.H Γ.H.length xs = some ys -> ys.length = xs.length /\ ∀ (i : Nat) (y : AV), ys[i]? = some y -> ∃ x, xs[i]? = some x /\ er Γ1.H Γ.H.length x = some y
 | [], ys, h => by injection h with h; subst h; simp
 | a :: l, ys, h => by
  simp only [we] at h
  split at h
  ·rename_i b hb
   split at h
   ·rename_i m hm
    injection h with h; subst h;obtain ⟨h1, h2⟩ := qD I1 hm;refine ⟨by simp [h1], fun i y hi => ?_⟩
    cases i with
    | zero => simp at hi; subst hi; exact ⟨a, rfl, hb⟩
    | succ i => simp at hi; simpa using h2 i y hi
   ·cases h
  ·cases h
theorem CK {h : aj} {lo : Nat} {a b : AV} (hf : er h lo a = some b) : oneCell b = true := by
 unfold er at hf
 split at hf
 ·split at hf
  ·split at hf
   ·injection hf with hf; subst hf; rfl
   ·split at hf
    ·split at hf
     ·injection hf with hf; subst hf; rfl
     ·cases hf
    ·cases hf
  ·cases hf
 ·split at hf
  ·rename_i hs
   injection hf with hf; subst hf;cases a <;> first | rfl | (cases hs; done)
  ·cases hf
theorem mr (I1 : dM base Γ1) {a a' : AV} {v : Value} (h : i9 Γ1.H Γ.H.length a = some a') (hr : aD Γ1 a v) : aD (Γ.frz Γ1) a' v := by
 unfold i9 at h
 split at h
 ·rename_i xs
  split at h
  ·rename_i ys hy
   injection h with h; subst h;obtain ⟨h1, h2⟩ := qD I1 hy;cases hr with
   | agg hn ho hrel =>
    refine .agg (by rw [h1]; exact hn) (fun y hy => ?_) (fun i y hi => ?_)
    ·obtain ⟨i, hi⟩ := List.mem_iff_getElem?.1 hy
     obtain ⟨x, _, q⟩ := h2 i y hi;exact CK q
    ·obtain ⟨x, q1, q2⟩ := h2 i y hi
     exact (qC I1 q2 (hrel i x q1)).toV
  ·cases h
 ·exact (qC I1 h hr).toV
theorem mt (I1 : dM base Γ1) : ∀ {xs ys : List AV}, mV Γ1.H Γ.H.length xs = some ys -> ys.length = xs.length /\ ∀ (i : Nat) (y : AV), ys[i]? = some y -> ∃ x, xs[i]? = some x /\ i9 Γ1.H Γ.H.length x = some y
 | [], ys, h => by injection h with h; subst h; simp
 | a :: l, ys, h => by
  simp only [mV] at h
  split at h
  ·rename_i b hb
   split at h
   ·rename_i m hm
    injection h with h; subst h;obtain ⟨h1, h2⟩ := mt I1 hm;refine ⟨by simp [h1], fun i y hi => ?_⟩
    cases i with
    | zero => simp at hi; subst hi; exact ⟨a, rfl, hb⟩
    | succ i => simp at hi; simpa using h2 i y hi
   ·cases h
  ·cases h
theorem tD (I1 : dM base Γ1) {a a' : AV} {v : Value} (h : frz Γ1.H Γ.H.length a = some a') (hr : aD Γ1 a v) : aD (Γ.frz Γ1) a' v := by
 unfold frz at h
 split at h
 ·rename_i xs
  split at h
  ·rename_i ys hy
   injection h with h; subst h;obtain ⟨h1, h2⟩ := mt I1 hy;cases hr with
   | tup hn hrel =>
    refine .tup (by rw [h1]; exact hn) (fun i y hi => ?_);obtain ⟨x, q1, q2⟩ := h2 i y hi;exact mr I1 q2 (hrel i x q1)
  ·cases h
 ·exact mr I1 h hr
theorem uY {lo : Nat} (I : dM base Γ) (I1 : dM base Γ1) (h : cA Γ.H.length (fun _ => False) Γ Γ1) : cA lo (fun _ => False) Γ (Γ.frz Γ1) where
 len := Nat.le_refl _
 cells _ _ xs' _ h := ⟨xs', h, .inr ⟨rfl, rfl⟩⟩
 map _ es' _ h := ⟨es', h, rfl⟩
 loop _ r' _ h := ⟨r', h, rfl⟩
 absent _ _ h := h
 barrier id _ hid := ⟨rfl, rfl, (h.barrier id hid hid).2.2⟩
 sizes := h.sizes
 keep := h.keep
 fresh id b h := .inl ⟨id, h⟩
 stab b hb := .inl (h.stab b hb)
 stabN b hb := by
  rcases hb with hb | ⟨id, _, hb⟩
  ·exact h.stabN b hb
  ·rcases h.fresh id b hb with ⟨id0, e⟩ | e
   ·exact .inr (.inl ⟨id0, e⟩)
   ·exact .inr (.inr e)
 size := h.size
 os := h.os
 tape := h.tape
 output := h.output
theorem Ak (I : dM base Γ) (I1 : dM base Γ1) (h : cA Γ.H.length (fun _ => False) Γ Γ1) : dM base (Γ.frz Γ1) := by
 have hx := uY (lo := Γ.H.length) I I1 h;have hρ : ∀ id b, Γ.ρ id = some b -> Γ1.ρ id = some b := fun id b e => (h.barrier id (I.dom id b e).1 (I.dom id b e).1).2.1.trans e
 have hB : ∀ b, Γ.S b -> ¬ (fun _ : Nat => False) b := fun _ _ h => h
 refine ⟨fun id b e => ?_, I.inj, fun id b T xs e hh => ?_, fun id b es e hh => ?_, fun id b r e hh => ?_, fun b hb => ?_⟩
 ·obtain ⟨q1, q2, q3, q4⟩ := I.dom id b e
  refine ⟨q1, Nat.lt_of_lt_of_le q2 h.size, q3, fun hs => ?_⟩
  rcases hs with hs | ⟨id', q5, q6⟩
  ·exact (I1.dom id b (hρ id b e)).2.2.2 hs
  ·have := I1.inj id id' b (hρ id b e) q6
   omega
 ·obtain ⟨arr, k1, k2, k3, k4⟩ := I.cells id b T xs e hh
  have hd := I.dom id b e;exact ⟨arr, ((h.barrier id hd.1 hd.1).2.2 b e hd.2.1).trans k1, k2, k3, fun i x hi => (k4 i x hi).ext hx I hB⟩
 ·obtain ⟨ms, cl, k1, k2, k3, k4⟩ := I.map id b es e hh
  have hd := I.dom id b e;refine ⟨ms, cl, ((h.barrier id hd.1 hd.1).2.2 b e hd.2.1).trans k1, k2, fun i x hi => ?_, k4⟩
  obtain ⟨m, q1, q2, q3⟩ := k3 i x hi;exact ⟨m, q1, q2.ext hx I hB, q3.ext hx I hB⟩
 ·obtain ⟨l, k1, k2⟩ := I.loop id b r e hh
  have hd := I.dom id b e;exact ⟨l, ((h.barrier id hd.1 hd.1).2.2 b e hd.2.1).trans k1, { k2 with env := fun t a ha => let ⟨x, y⟩ := k2.env t a ha; ⟨x, y.ext hx I hB⟩ }⟩
 ·rcases hb with hb | ⟨id, _, hb⟩
  ·exact I1.stab b hb
  ·exact (I1.dom id b hb).2.1
def aX.stay (Γ : aX) (o : Obj) : aX := { Γ with w := Γ.w.alloc o, S := fun b => Γ.S b \/ b = Γ.w.heap.size }
theorem qE (lo : Nat) (o : Obj) : cA lo (fun _ => False) Γ (Γ.stay o) :=
 {cA.alloc lo Γ o with
  stab := fun b hb => .inl hb
  stabN := fun b hb => hb.elim .inl fun e => .inr (.inr (by omega)) }
theorem CL (I : dM base Γ) (o : Obj) : dM base (Γ.stay o) := by
 have hx := qE (Γ := Γ) Γ.H.length o;have hB : ∀ b, Γ.S b -> ¬ (fun _ : Nat => False) b := fun _ _ h => h
 refine ⟨fun id b e => ?_, I.inj, fun id b T xs e hh => ?_, fun id b es e hh => ?_, fun id b r e hh => ?_, fun b hb => ?_⟩
 ·obtain ⟨q1, q2, q3, q4⟩ := I.dom id b e
  refine ⟨q1, Nat.lt_of_lt_of_le q2 hx.size, q3, fun hs => ?_⟩
  rcases hs with hs | hs
  ·exact q4 hs
  ·omega
 ·obtain ⟨arr, k1, k2, k3, k4⟩ := I.cells id b T xs e hh
  exact ⟨arr, (bD (I.dom id b e).2.1).trans k1, k2, k3, fun i x hi => (k4 i x hi).ext hx I hB⟩
 ·obtain ⟨ms, cl, k1, k2, k3, k4⟩ := I.map id b es e hh
  refine ⟨ms, cl, (bD (I.dom id b e).2.1).trans k1, k2, fun i x hi => ?_, k4⟩
  obtain ⟨m, q1, q2, q3⟩ := k3 i x hi;exact ⟨m, q1, q2.ext hx I hB, q3.ext hx I hB⟩
 ·obtain ⟨l, k1, k2⟩ := I.loop id b r e hh
  exact ⟨l, (bD (I.dom id b e).2.1).trans k1, { k2 with env := fun t a ha => let ⟨x, y⟩ := k2.env t a ha; ⟨x, y.ext hx I hB⟩ }⟩
 ·rcases hb with hb | hb
  ·exact Nat.lt_of_lt_of_le (I.stab b hb) hx.size
  ·subst hb; simp [aX.stay, -World.alloc_eq, World.alloc]
theorem Bl {z : Nz} {a : AV} {v : Value} (h : aD Γ a v) : aD Γ (Gz z a) v := by
 cases a with
 | nils => exact CI h
 | vs sz xs =>
  have hT := h.toT rfl;simp only [Gz];refine aD.vs ?_;cases hT with
  | vs g hn hc hsz hA hmem hrel =>
   refine .vs g (by rw [List.length_map]; exact hn) hc (fun r hr => ?_) hA hmem (fun i j r x hi hj => ?_)
   ·obtain ⟨q, q1, rfl⟩ := List.mem_map.1 hr
    exact ⟨by rw [ot]; exact (hsz q q1).1, tx (hsz q q1).2⟩
   ·rw [List.getElem?_map] at hi
    cases hq : xs[i]? with
    | none => rw [hq] at hi; cases hi
    | some q =>
     rw [hq] at hi;injection hi with hi; subst hi;obtain ⟨n, y, hy, e⟩ := lw _ _ _ _ hj;have := hrel i j q y hq hy;rcases e with rfl | rfl
     ·exact CH this
     ·exact this
 | agg xs => exact ou h
 | tup xs =>
  simp only [Gz];cases h with
  | tup hn hrel =>
   cases xs with
   | nil => exact .tup hn hrel
   | cons a l =>
    cases a with
    | agg ys =>
     refine .tup hn fun i x hi => ?_
     cases i with
     | zero =>
      simp only [nzT, List.getElem?_cons_zero, Option.some.injEq] at hi;subst hi;exact ou (hrel 0 _ rfl)
     | succ i => exact hrel (i + 1) x (by simpa [nzT] using hi)
    | _ => exact .tup hn hrel
 | _ => exact h
def aX.froze (Γ : aX) (id : Nat) : aX := { H := Γ.H.set id .dead, ρ := fun i => if i = id then none else Γ.ρ i, S := fun b => Γ.S b \/ Γ.ρ id = some b, w := Γ.w }
theorem ia {Γ : aX} {id i : Nat} {o : ap} (h : (Γ.froze id).H[i]? = some o) (hd : ∀ (hi : i = id), o ≠ .dead) : i ≠ id /\ Γ.H[i]? = some o := by
 have hn : i ≠ id := fun e => by
  subst e;simp only [aX.froze] at h;rw [List.getElem?_set_self (by have := aV h; simpa using this)] at h;injection h with h;exact hd rfl h.symm
 refine ⟨hn, ?_⟩;simp only [aX.froze] at h;rwa [List.getElem?_set_ne (fun e => hn e.symm)] at h
theorem oz {lo id : Nat} (hlo : lo <= id) : cA lo (fun _ => False) Γ (Γ.froze id) where
 len := by simp [aX.froze]
 cells i T xs' _ h := by
  obtain ⟨h1, h2⟩ := ia h (fun _ => by simp);exact ⟨xs', h2, .inr ⟨rfl, by simp [aX.froze, h1]⟩⟩
 map i es' _ h := by
  obtain ⟨h1, h2⟩ := ia h (fun _ => by simp);exact ⟨es', h2, by simp [aX.froze, h1]⟩
 loop i r' _ h := by
  obtain ⟨h1, h2⟩ := ia h (fun _ => by simp);exact ⟨r', h2, by simp [aX.froze, h1]⟩
 absent i _ h := by simp only [aX.froze]; split <;> first | rfl | exact h
 barrier i hi _ := by
  have hn : i ≠ id := by omega
  exact ⟨by simp only [aX.froze]; rw [List.getElem?_set_ne (fun e => hn e.symm)], by simp [aX.froze, hn], fun _ _ _ => rfl⟩
 sizes _ arr _ fr h := ⟨arr, fr, h, rfl⟩
 keep _ _ _ _ := rfl
 fresh i b h := by
  simp only [aX.froze] at h
  split at h
  ·cases h
  ·exact .inl ⟨i, h⟩
 stab _ h := .inl h
 stabN b h := by
  rcases h with h | h
  ·exact .inl h
  ·exact .inr (.inl ⟨id, h⟩)
 size := Nat.le_refl _
 os := rfl
 tape := rfl
 output := rfl
theorem tE (I : dM base Γ) {id : Nat} : dM base (Γ.froze id) := by
 have hx := oz (Γ := Γ) (lo := 0) (id := id) (Nat.zero_le _);have hB : ∀ b, Γ.S b -> ¬ (fun _ : Nat => False) b := fun _ _ h => h
 have hρ : ∀ i b, (Γ.froze id).ρ i = some b -> i ≠ id /\ Γ.ρ i = some b := fun i b e => by
  simp only [aX.froze] at e
  split at e
  ·cases e
  ·rename_i h; exact ⟨h, e⟩
 refine ⟨fun i b e => ?_, fun i j b e1 e2 => I.inj i j b (hρ i b e1).2 (hρ j b e2).2, fun i b T xs e hh => ?_, fun i b es e hh => ?_, fun i b r e hh => ?_, fun b hb => ?_⟩
 ·obtain ⟨h1, h2⟩ := hρ i b e
  obtain ⟨q1, q2, q3, q4⟩ := I.dom i b h2;refine ⟨by simpa [aX.froze] using q1, q2, q3, fun hs => ?_⟩
  rcases hs with hs | hs
  ·exact q4 hs
  ·exact h1 (I.inj i id b h2 hs)
 ·obtain ⟨h1, h2⟩ := ia hh (fun _ => by simp)
  obtain ⟨arr, k1, k2, k3, k4⟩ := I.cells i b T xs (hρ i b e).2 h2;exact ⟨arr, k1, k2, k3, fun j x hj => (k4 j x hj).ext hx I hB⟩
 ·obtain ⟨h1, h2⟩ := ia hh (fun _ => by simp)
  obtain ⟨ms, cl, k1, k2, k3, k4⟩ := I.map i b es (hρ i b e).2 h2;refine ⟨ms, cl, k1, k2, fun j x hj => ?_, k4⟩
  obtain ⟨m, q1, q2, q3⟩ := k3 j x hj;exact ⟨m, q1, q2.ext hx I hB, q3.ext hx I hB⟩
 ·obtain ⟨h1, h2⟩ := ia hh (fun _ => by simp)
  obtain ⟨l, k1, k2⟩ := I.loop i b r (hρ i b e).2 h2;exact ⟨l, k1, { k2 with env := fun t a ha => let ⟨x, y⟩ := k2.env t a ha; ⟨x, y.ext hx I hB⟩ }⟩
 ·rcases hb with hb | hb
  ·exact I.stab b hb
  ·exact (I.dom id b hb).2.1
theorem sZ {base n0 : Nat} {β : Nat -> Nat} {s : St} {a : Act} (R : aZ base n0 Γ β s a) (t : Nat) :
  ∃ Γ', Γ'.w = Γ.w /\ aZ base n0 Γ' β (jW t s) a /\ cA s.lo (fun _ => False) Γ Γ' /\ (jW t s).lo = s.lo /\ (jW t s).inRound = s.inRound := by
 have triv : ∃ Γ', Γ'.w = Γ.w /\ aZ base n0 Γ' β s a /\ cA s.lo (fun _ => False) Γ Γ' /\ s.lo = s.lo /\ s.inRound = s.inRound := ⟨Γ, rfl, R, cA.refl _ _ _, rfl, rfl⟩;unfold jW
 split
 ·rename_i id sz off len hl
  split
  ·rename_i T xs hH
   split
   ·rename_i hc
    obtain ⟨c1, c2, c3⟩ := hc;have hH' : Γ.H[id]? = some (.cells T xs) := by rw [R.heap]; exact hH
    obtain ⟨ht, hv⟩ := R.env t _ hl;obtain ⟨b, c, arr, T', fr, hb, hv', hle, hh, hsz⟩ := ir hv hH' c2;obtain ⟨arr2, k1, k2, k3, k4⟩ := R.inv.cells id b T xs hb hH';have hx := oz (Γ := Γ) (lo := s.lo) (id := id) c1;have R1 := R.ext hx (tE R.inv);refine ⟨Γ.froze id, rfl, { R1 with heap := by show Γ.H.set id .dead = s.heap.set id .dead; rw [R.heap], env := fun t' x hx' => ?_ }, hx, rfl, rfl⟩
    simp only [bE] at hx'
    split at hx'
    ·rename_i e
     subst e;injection hx' with hx'; subst hx';refine ⟨ht, ?_⟩;show aD (Γ.froze id) _ _;rw [hv'];have hT := gn (S := (Γ.froze id).S) (w := Γ.w) k1 (.inr hb) k2 k3 (fun i x hi => ((k4 i x hi).toT (ka c3 (List.mem_of_getElem? hi))).mono fun b hs => ⟨.inl hs, rfl⟩) c2 hle;exact .vs hT
    ·exact R1.env t' x hx'
   ·exact triv
  ·exact triv
 ·exact triv
theorem kU {base n0 : Nat} {β : Nat -> Nat} {a : Act} : ∀ (l : List Nat) {Γ : aX} {s : St}, aZ base n0 Γ β s a ->
  ∃ Γ', Γ'.w = Γ.w /\ aZ base n0 Γ' β (b7 l s) a /\ cA s.lo (fun _ => False) Γ Γ' /\ (b7 l s).lo = s.lo /\ (b7 l s).inRound = s.inRound
 | [], Γ, s, R => ⟨Γ, rfl, R, cA.refl _ _ _, rfl, rfl⟩
 | t :: l, Γ, s, R => by
  obtain ⟨Γ1, e1, R1, x1, l1, r1⟩ := sZ R t;obtain ⟨Γ2, e2, R2, x2, l2, r2⟩ := kU l R1;exact ⟨Γ2, e2.trans e1, R2, x1.trans x2 (by rw [l1]; exact Nat.le_refl _) (fun _ _ _ h => h.elim), l2.trans l1, r2.trans r1⟩
variable {P : Program} {C : dO} {Γ : aX} {t : Nat} {ti : TI} {base n0 f : Nat} {β : Nat -> Nat} {s s' : St} {a : Act} {o : Oper} {K : Callee}
theorem EU {xs : List AV} {ad : Addr} (h : aD Γ (.rp xs) (.pointer (some ad))) (off : Nat) : aD Γ (.rp (xs.drop off)) (.pointer (some (ad.add off))) := by
 cases h with
 | rp g h1 hmem hrel =>
  refine .rp (fun j => g (off + j)) (fun x hx => h1 x (List.mem_of_mem_drop hx)) (fun j hj => ?_) (fun j x hj => ?_)
  ·rw [List.length_drop] at hj
   rw [jY, hZ];exact hmem (off + j) (by omega)
  ·rw [List.getElem?_drop] at hj
   exact hrel _ x hj
theorem GA {id n off k : Nat} {ad : Addr} (h : aD Γ (.hp id n off) (.pointer (some ad))) : aD Γ (.hp id n (off + k)) (.pointer (some (ad.add k))) := by
 cases h with
 | hp hin h1 hh =>
  refine .hp hin ⟨_, rfl⟩ fun T xs hx => ⟨(hh T xs hx).1, fun hn => ?_⟩
  obtain ⟨b', hb, hv⟩ := (hh T xs hx).2 hn;injection hv with hv; injection hv with hv; subst hv;exact ⟨b', hb, by rw [lx]⟩
theorem wl {s : TypeId} {fs : List (Nat × Nat)} (ht : dS P s ti) (hk : ti.kind = .struct fs) {j off ft : Nat} (hj : fs[j]? = some (off, ft)) {fi : TI} (hf : dS P ft fi) (hsz : fi.sz ≠ 0) (ad : Addr) (w : World) :
  (Instr.fieldAt s (.pointer (some ad)) j).run P w = .ok (.pointer (some (ad.add off))) w := by
 obtain ⟨gs, h1, h2⟩ := ht.struct hk;have hg : ∃ g : Field, gs[j]? = some g /\ g.offset = off /\ g.type = ft := by
  rw [<- h2, List.getElem?_map] at hj;cases hg : gs[j]? with
  | none => rw [Array.getElem?_toList, hg] at hj; cases hj
  | some g => rw [Array.getElem?_toList, hg] at hj; injection hj with hj; injection hj with e1 e2; exact ⟨g, rfl, e1, e2⟩
 obtain ⟨g, hg, rfl, rfl⟩ := hg;simp [Instr.fieldAt, run_underlying h1, hg, Instr.sureAddr, fieldPlace, hf.run_size, hsz]
theorem qF (hT : ck P C.tab) (R : aZ base n0 Γ β s a) {t : TypeId} {x : Operand} {j : Nat} (ho : o.op = .fieldAddr t x j) (h : aE C K f o s = some s') : cJ P Γ β s a o s' := by
 unfold aE at h;rw [ho] at h;dsimp only at h;have hex : execOp a.eval o = (do pure (.value (<- Instr.fieldAt t (a.eval x) j))) := by unfold execOp; rw [ho]
 split at h
 ·rename_i fs sz by_ zr sl ht hx
  split at h
  ·rename_i off ft hj
   split at h
   ·rename_i fi hf
    split at h
    ·cases h
    ·rename_i hsz
     have key : ∀ (ad : Addr) (y : co), a.eval x = .pointer (some ad) -> jc Γ β y (.pointer (some (ad.add off))) -> s' = s.put o.dst y -> cJ P Γ β s a o s' := by
      intro ad y hx hr e;refine ⟨y, _, ?_, hr, e⟩;rw [hex, hx];simp [wl (hT _ _ ht) rfl hj (hT _ _ hf) hsz ad Γ.w]
     split at h
     ·rename_i d o'
      injection h with h;refine key _ _ (R.slot hx) ?_ h.symm;rw [lx]; rfl
     ·rename_i id n o'
      injection h with h;have hr : aD Γ (.hp id n o') (a.eval x) := R.slot hx;obtain ⟨ad, hv⟩ := gg (a := .hp id n o') rfl hr;refine key _ _ hv ?_ h.symm;rw [hv] at hr;exact GA hr
     ·rename_i xs
      injection h with h;have hr : aD Γ (.rp xs) (a.eval x) := R.slot hx;generalize hv : a.eval x = u at hr;cases hr with
      | rp g h1 hmem hrel => exact key _ (.v (.rp (xs.drop off))) hv (EU (.rp g h1 hmem hrel) off) h.symm
     ·cases h
   ·cases h
  ·cases h
 ·cases h
theorem yE {t : Nat} (ht : dS P t ti) {xs : List AV} {cs : Array Value} (hc : fT Γ xs cs) {off : Nat} {r : AV} (h : part ti xs off = some r) (w : World) : ∃ v, (_root_.Go.part t cs off).run P w = .ok v w /\ aD Γ r v := by
 unfold part at h;unfold Go.part;simp only [Sem.run_bind, ht.run_agg, Result.andThen_ok]
 split at h
 ·rename_i hk
  split at h
  ·rename_i hle
   injection h with h; subst h;refine ⟨.agg (cs.extract off (off + ti.sz)), by simp [hk, ht.run_size], .agg ?_ (fun x hx => hc.2.1 x (List.mem_of_mem_drop (List.mem_of_mem_take hx))) (fun i x hx => ?_)⟩
   ·have := hc.1; simp; omega
   ·have hi : i < ti.sz := by
     rcases Nat.lt_or_ge i ti.sz with h' | h'
     ·exact h'
     ·rw [List.getElem?_take_eq_none h'] at hx; cases hx
    rw [List.getElem?_take_of_lt hi, List.getElem?_drop] at hx;have h2 := hc.2.2 _ x hx;have h1 := hc.1;have e : (cs.extract off (off + ti.sz)).getD i undef = cs.getD (off + i) undef := by
     rw [Array.getD_eq_getD_getElem?, Array.getD_eq_getD_getElem?, Array.getElem?_extract, if_pos (by omega)]
    rw [e]; exact h2
  ·cases h
 ·rename_i hk
  have hlt : off < cs.size := by
   rcases Nat.lt_or_ge off xs.length with h' | h'
   ·have := hc.1; omega
   ·rw [List.getElem?_eq_none h'] at h; cases h
  refine ⟨cs.getD off undef, ?_, hc.2.2 off r h⟩;simp [hk, hlt, Array.getD_eq_getD_getElem?]
theorem yF (hT : ck P C.tab) (R : aZ base n0 Γ β s a) {t : TypeId} {x : Operand} {j : Nat} (ho : o.op = .field t x j) (h : aE C K f o s = some s') : cJ P Γ β s a o s' := by
 unfold aE at h;rw [ho] at h;dsimp only at h
 split at h
 ·rename_i fs sz by_ zr xs ht hx
  split at h
  ·rename_i off ft hj
   split at h
   ·rename_i fi hf
    obtain ⟨r, hr, e⟩ := dV h;have hv := R.val hx;generalize hv' : a.eval x = u at hv;cases hv with
    | agg hn h1 hrel =>
     rename_i cs;obtain ⟨gs, e1, e2⟩ := (hT _ _ ht).struct rfl;have hg : ∃ g : Field, gs[j]? = some g /\ g.offset = off /\ g.type = ft := by
      rw [<- e2, List.getElem?_map] at hj;cases hg : gs[j]? with
      | none => rw [Array.getElem?_toList, hg] at hj; cases hj
      | some g => rw [Array.getElem?_toList, hg] at hj; injection hj with hj; injection hj with e1 e2; exact ⟨g, rfl, e1, e2⟩
     obtain ⟨g, hg, rfl, rfl⟩ := hg;obtain ⟨v, hv, hrv⟩ := yE (hT _ _ hf) (⟨hn, h1, hrel⟩ : fT Γ xs cs) hr Γ.w;refine ⟨.v r, v, ?_, hrv, e⟩;unfold execOp;rw [ho];simp [hv', Instr.field, run_underlying e1, hg, asAgg, hv]
   ·cases h
  ·cases h
 ·cases h
theorem GB {sz : Nat} {xs : List (List AV)} {A : Option Addr} {n c : Nat} (h : fS Γ.S Γ.w (.vs sz xs) (.slice A n c)) {i : Nat} {r : List AV} (hi : xs[i]? = some r) : ∃ ad, A = some ad /\ i < n /\ aD Γ (.rp r) (.pointer (some (ad.add (i * sz)))) := by
 cases h with
 | vs g hn hc hsz hA hmem hrel =>
  have hlt : i < xs.length := by
   rcases Nat.lt_or_ge i xs.length with h' | h'
   ·exact h'
   ·rw [List.getElem?_eq_none h'] at hi; cases hi
  obtain ⟨ad, rfl⟩ := hA (by omega);have hm := hsz r (List.mem_of_getElem? hi);refine ⟨ad, rfl, by omega, .rp (fun j => g i j) hm.2 (fun j hj => ?_) (fun j x hj => hrel i j r x hi hj)⟩
  rw [jY, hZ];have := hmem ad rfl i j (by omega) (by omega);exact this
theorem qG (hT : ck P C.tab) (R : aZ base n0 Γ β s a) {t : TypeId} {x i : Operand} (ho : o.op = .indexAddr t x i) (h : aE C K f o s = some s') : cJ P Γ β s a o s' := by
 unfold aE at h;rw [ho] at h;dsimp only at h
 split at h
 ·rename_i e sz0 by_ zr av k iv ht hx hi
  split at h
  ·rename_i ei he
   split at h
   ·rename_i h0
    have hi' : a.eval i = .int k iv := by
     have := R.val hi;generalize a.eval i = u at this;cases this; rfl
    have key : ∀ (ad : Addr) (len c : Nat) (y : AV), a.eval x = .slice (some ad) len c -> iv < len -> aD Γ y (.pointer (some (ad.add (iv.toNat * ei.sz)))) -> s' = s.put o.dst (.v y) -> cJ P Γ β s a o s' := by
     intro ad len c y hx hlt hr e';refine ⟨.v y, _, ?_, hr, e'⟩;unfold execOp;rw [ho];simp [hx, hi', Instr.indexAt, asIntOf, run_underlying ((hT _ _ ht).slice rfl), h0, hlt, (hT _ _ he).run_size]
    split at h
    ·rename_i id sz off len
     split at h
     ·rename_i T xs hH
      split at h
      ·rename_i hc
       injection h with h;obtain ⟨c1, c2, c3⟩ := hc;subst c1;rw [<- R.heap] at hH;obtain ⟨b, c, arr, T', fr, hb, hv, hle, hh, hsz⟩ := ir (R.val hx) hH c3;refine key _ _ _ _ hv c2 ?_ h.symm;rw [lx];refine .hp (R.inv.dom id b hb).1 ⟨_, rfl⟩ fun T2 ys hy => ?_
       rw [hH] at hy;injection hy with hy; injection hy with _ hy; subst hy;exact ⟨Nat.le_refl _, fun _ => ⟨b, hb, rfl⟩⟩
      ·cases h
     ·cases h
    ·rename_i sz xs
     split at h
     ·rename_i hsz
      subst hsz;cases hr : xs[iv.toNat]? with
      | none => rw [hr] at h; cases h
      | some r =>
       rw [hr] at h;injection h with h;have hv := R.val hx;generalize hv' : a.eval x = u at hv;cases hv with
       | vs hT => cases hT with
        | vs g hn hc hsz hA hmem hrel =>
        obtain ⟨ad, rfl, hlt, hrp⟩ := GB (.vs g hn hc hsz hA hmem hrel) hr;exact key _ _ _ _ hv' (by omega) hrp h.symm
     ·cases h
    ·cases h
   ·cases h
  ·cases h
 ·cases h
variable {P : Program} {C : dO} {Γ : aX} {t : Nat} {ti : TI} {base n0 f : Nat} {β : Nat -> Nat} {s s' : St} {a : Act} {o : Oper} {K : Callee}
theorem Al (R : aZ base n0 Γ β s a) {x : Operand} {k : IntKind} {n : Int} (h : s.val x = some (.int k n)) : a.eval x = .int k n := by
 have := R.val h;generalize a.eval x = u at this;cases this; rfl
theorem Am (R : aZ base n0 Γ β s a) {x : Operand} {b : ByteArray} (h : s.val x = some (.str b)) : a.eval x = .string b := by
 have := R.val h;generalize a.eval x = u at this;cases this; rfl
theorem wm (R : aZ base n0 Γ β s a) {x : Operand} {b : Bool} (h : s.val x = some (.bool b)) : a.eval x = .bool b := by
 have := R.val h;generalize a.eval x = u at this;cases this; rfl
theorem yG (hT : ck P C.tab) (R : aZ base n0 Γ β s a) {t : TypeId} {x i : Operand} (ho : o.op = .index t x i) (h : aE C K f o s = some s') : cJ P Γ β s a o s' := by
 unfold aE at h;rw [ho] at h;dsimp only at h
 split at h
 ·rename_i sz by_ zr b k iv ht hx hi
  split at h
  ·rename_i h0
   cases hb : b[iv.toNat]? with
   | none => rw [hb] at h; cases h
   | some c =>
    rw [hb] at h;injection h with h;refine ⟨.v (.int .u8 c.toNat), .int .u8 c.toNat, ?_, .int _ _, h.symm⟩;unfold execOp;rw [ho];simp [Al R hi, Am R hx, Instr.index, asIntOf, run_underlying ((hT _ _ ht).str rfl), h0, hb]
  ·cases h
 ·cases h
theorem yH (hT : ck P C.tab) (hE : ∀ t, t ∈ C.eqs -> uU P t) (R : aZ base n0 Γ β s a) {op : BinOp} {t t' : TypeId} {x y : Operand} (ho : o.op = .binOp op t x y t') (h : aE C K f o s = some s') : cJ P Γ β s a o s' := by
 unfold aE at h;rw [ho] at h;dsimp only at h
 split at h
 ·rename_i av bv hx hy
  obtain ⟨r, hr, e⟩ := dV h;obtain ⟨z, hz, hrel⟩ := wk (w := Γ.w) hT hE hr (R.val hx) (R.val hy) x y;refine ⟨.v r, z, ?_, hrel, e⟩;unfold execOp;rw [ho];dsimp only;rw [Sem.run_bind, hz]
  rfl
 ·cases h
theorem Bm (R : aZ base n0 Γ β s a) {op : UnOp} {t : TypeId} {x : Operand} (ho : o.op = .unOp op t x) (h : aE C K f o s = some s') : cJ P Γ β s a o s' := by
 unfold aE at h;rw [ho] at h;dsimp only at h
 split at h
 ·rename_i av hx
  obtain ⟨r, hr, e⟩ := dV h;obtain ⟨z, hz, hrel⟩ := yD (P := P) (w := Γ.w) hr (R.val hx);refine ⟨.v r, z, ?_, hrel, e⟩;unfold execOp;rw [ho];dsimp only;rw [Sem.run_bind, hz]
  rfl
 ·cases h
theorem lU (h : dS P t ti) : ∃ d, P.underlying t = some d := let ⟨d, h1, _⟩ := h.kind; ⟨d, h1⟩
theorem uZ (hT : ck P C.tab) (R : aZ base n0 Γ β s a) {u t : TypeId} {x : Operand} (ho : o.op = .convert u t x) (h : aE C K f o s = some s') : cJ P Γ β s a o s' := by
 unfold aE at h;rw [ho] at h;dsimp only at h;have hex : execOp a.eval o = (do pure (.value (<- convert u t (a.eval x)))) := by unfold execOp; rw [ho]
 split at h
 ·rename_i tu k sz by_ zr k' n hu ht hx
  injection h with h;obtain ⟨d, hd⟩ := lU (hT _ _ hu);refine ⟨.v (.int k (k.wrap n)), .int k (k.wrap n), ?_, .int _ _, h.symm⟩;rw [hex];have hr : (convert u t (.int k' n)).run P Γ.w = .ok (.int k (k.wrap n)) Γ.w := by
   unfold convert;simp only [Sem.run_bind, run_underlying hd, run_underlying ((hT _ _ ht).int rfl), Result.andThen_ok];cases d <;> rfl
  rw [Al R hx, Sem.run_bind, hr]
  rfl
 ·rename_i tu sz by_ zr b hu ht hx
  injection h with h;obtain ⟨d, hd⟩ := lU (hT _ _ hu);refine ⟨.v (.str b), .string b, ?_, .str _, h.symm⟩;rw [hex];have hr : (convert u t (.string b)).run P Γ.w = .ok (.string b) Γ.w := by
   unfold convert;simp only [Sem.run_bind, run_underlying hd, run_underlying ((hT _ _ ht).str rfl), Result.andThen_ok];cases d <;> rfl
  rw [Am R hx, Sem.run_bind, hr]
  rfl
 ·cases h
theorem s5 (R : aZ base n0 Γ β s a) {n : Nat} {first caps : Array Operand} (ho : o.op = .makeFunc (.func n) first caps) (h : aE C K f o s = some s') : cJ P Γ β s a o s' := by
 unfold aE at h;rw [ho] at h;dsimp only at h
 split at h
 ·rename_i vs hvs
  split at h
  ·rename_i hf
   injection h with h;have hr := R.vals hvs;refine ⟨.v (.fn (.func n) vs), .func (.func n) #[] (caps.map a.eval), ?_, ?_, h.symm⟩
   ·unfold execOp
    rw [ho];have : first = #[] := by simpa using hf
    subst this;simp [Instr.makeFunc]
   ·refine .fn ?_ fun i x hx => ?_
    ·have := hr.len; simpa using this
    ·obtain ⟨v, hv, hrel⟩ := hr.get i x hx
     have e : (caps.map a.eval).getD i undef = v := by
      rw [Array.getD_eq_getD_getElem?, <- Array.getElem?_toList, Array.toList_map, hv]; rfl
     rw [e]; exact hrel
  ·cases h
 ·cases h
theorem m7 (R : aZ base n0 Γ β s a) {x : Operand} {i : Nat} (ho : o.op = .extract x i) (h : aE C K f o s = some s') : cJ P Γ β s a o s' := by
 unfold aE at h;rw [ho] at h;dsimp only at h
 split at h
 ·rename_i vs hx
  obtain ⟨r, hr, e⟩ := dV h;have hv := R.val hx;generalize hv' : a.eval x = u at hv;cases hv with
  | tup hn hrel =>
   rename_i us;have hlt : i < us.size := by
    rcases Nat.lt_or_ge i vs.length with h' | h'
    ·omega
    ·rw [List.getElem?_eq_none h'] at hr; cases hr
   refine ⟨.v r, us.getD i undef, ?_, hrel i r hr, e⟩;unfold execOp;rw [ho];simp [hv', Instr.extract, hlt, Array.getD_eq_getD_getElem?]
 ·cases h
theorem mu (hT : ck P C.tab) (R : aZ base n0 Γ β s a) {t : TypeId} {x : Operand} (ho : o.op = .makeInterface t x) (h : aE C K f o s = some s') : cJ P Γ β s a o s' := by
 unfold aE at h;rw [ho] at h;dsimp only at h
 split at h
 ·cases h
 ·rename_i ti v hne ht hx
  injection h with h;refine ⟨.v (.iface t v), .iface t (a.eval x), ?_, .iface (R.val hx), h.symm⟩;obtain ⟨d, hd, hk⟩ := (hT _ _ ht).kind;unfold execOp;rw [ho];dsimp only;have hr : (Instr.makeInterface t (a.eval x)).run P Γ.w = .ok (.iface t (a.eval x)) Γ.w := by
   unfold Instr.makeInterface;simp only [Sem.run_bind, run_underlying hd, Result.andThen_ok];cases d <;> first | rfl | skip
   rename_i ms;exfalso;obtain ⟨kind, sz, by_, zr⟩ := ti;cases kind <;> first | exact hk | exact hne _ _ _ rfl
  rw [Sem.run_bind, hr]
  rfl
 ·cases h
variable {P : Program} {C : dO} {Γ : aX} {t : Nat} {ti : TI} {base n0 f : Nat} {β : Nat -> Nat} {s s' : St} {a : Act} {o : Oper} {K : Callee}
inductive gp (Γ : aX) : List (AV × AV) -> List MapEntry -> Prop
 | nil : gp Γ [] []
 | cons {k v : AV} {m : MapEntry} {l : List (AV × AV)} {ms : List MapEntry} (hk : aD Γ k m.key) (hv : aD Γ v m.val) (h : gp Γ l ms) : gp Γ ((k, v) :: l) (m :: ms)
theorem gp.of_array : ∀ {l : List (AV × AV)} {ms : List MapEntry}, ms.length = l.length -> (∀ (i : Nat) (e : AV × AV), l[i]? = some e -> ∃ m : MapEntry, ms[i]? = some m /\ aD Γ e.1 m.key /\ aD Γ e.2 m.val) -> gp Γ l ms
 | [], [], _, _ => .nil
 | [], _ :: _, h, _ => by simp at h
 | _ :: _, [], h, _ => by simp at h
 | (k, v) :: l, m :: ms, hn, h => by
  obtain ⟨m', h1, h2, h3⟩ := h 0 (k, v) rfl;simp at h1; subst h1;exact .cons h2 h3 (gp.of_array (by simpa using hn) fun i e he => by simpa using h (i + 1) e (by simpa using he))
def fp : TK -> TypeDesc -> Prop
 | .int k, d => d = .int k
 | .bool, d => d = .bool
 | .str, d => d = .string
 | _, _ => False
theorem m8 (hT : ck P C.tab) {kt : Nat} {x : AV} {kk : TK} (h : fj C.tab kt x = some kk) : ∃ d, P.underlying kt = some d /\ fp kk d := by
 unfold fj at h
 split at h
 ·rename_i hl; injection h with h; subst h; exact ⟨_, (hT _ _ hl).int rfl, rfl⟩
 ·rename_i hl; injection h with h; subst h; exact ⟨_, (hT _ _ hl).bool rfl, rfl⟩
 ·rename_i hl; injection h with h; subst h; exact ⟨_, (hT _ _ hl).str rfl, rfl⟩
 ·cases h
theorem m9 {kk : TK} {d : TypeDesc} {kt : TypeId} (hd : P.underlying kt = some d) (hk : fp kk d) (e : Bool) (n : Nat) (v : Value) (w : World) : (Instr.checkKey e (n + 1) kt v).run P w = .ok () w := by
 unfold Instr.checkKey;simp only [Sem.run_bind, run_underlying hd, Result.andThen_ok];cases kk <;> simp only [fp] at hk <;> (subst hk; rfl)
theorem gh {kk : TK} {d : TypeDesc} (hk : fp kk d) {x y : AV} {v u : Value} {r : Bool} (h : gm kk x y = some r) (hx : aD Γ x v) (hy : aD Γ y u) : Instr.sameNow d v u = some r := by
 unfold gm at h
 split at h
 ·split at h
  ·rename_i e; subst e
   injection h with h; subst h;cases hx; cases hy;simp only [fp] at hk; subst hk;simp [Instr.sameNow]
  ·cases h
 ·injection h with h; subst h
  cases hx; cases hy;simp only [fp] at hk; subst hk
  rfl
 ·injection h with h; subst h
  cases hx; cases hy;simp only [fp] at hk; subst hk
  rfl
 ·cases h
theorem lV {kk : TK} {d : TypeDesc} (hk : fp kk d) {x : AV} {v : Value} (hx : aD Γ x v) : ∀ {l : List (AV × AV)} {ms : List MapEntry} (i : Nat) {r : Option AV}, gp Γ l ms -> gf kk l x = some r ->
  ∃ q, Instr.findNow d v ms i = some q /\ match r, q with
   | none, none => True
   | some y, some (_, u) => aD Γ y u
   | _, _ => False
 | [], _, i, r, .nil, h => by
  injection h with h; subst h;exact ⟨none, rfl, trivial⟩
 | (k, y) :: l, m :: ms, i, r, .cons h1 h2 h3, h => by
  unfold gf at h
  split at h
  ·rename_i e
   injection h with h; subst h;exact ⟨some (i, m.val), by simp only [Instr.findNow, gh hk e hx h1], h2⟩
  ·rename_i e
   obtain ⟨q, hq, hr⟩ := lV hk hx (i + 1) h3 h;exact ⟨q, by simp only [Instr.findNow, gh hk e hx h1, hq], hr⟩
  ·cases h
theorem oB {id : Nat} {v : Value} (h : aD Γ (.mp id) v) {es : List (AV × AV)} (hx : Γ.H[id]? = some (.map es)) : ∃ b, Γ.ρ id = some b /\ v = .map (some b) := by
 cases h with
 | mp hin h1 hh => exact hh es hx
theorem yI (ht : dS P t ti) (w : World) {y : AV} (hp : part ti ti.zero 0 = some y) : ∃ z, (zeroValue t).run P w = .ok z w /\ aD Γ y z := by
 obtain ⟨z, hz, h1, h2, h3⟩ := ht.run_zero w;refine ⟨z, hz, ?_⟩;have hc : fT Γ ti.zero z.cells := .of_zero h2;unfold part at hp;cases hk : ti.kind.isAgg with
 | true =>
  rw [hk] at h3;have e : ∃ cs, z = .agg cs := by cases z <;> first | exact ⟨_, rfl⟩ | (simp [qy] at h3)
  obtain ⟨cs, rfl⟩ := e;rw [if_pos hk] at hp
  split at hp
  ·injection hp with hp
   subst hp;have hl : ti.zero.length = ti.sz := by have := hc.1; omega
   rw [List.drop_zero, List.take_of_length_le (by omega)];exact hc.agg
  ·cases hp
 | false =>
  rw [hk] at h3;have e : z.cells = #[z] := by cases z <;> first | rfl | (simp [qy] at h3)
  rw [hk] at hp;have := hc.2.2 0 y (by simpa using hp);rw [e] at this;simpa using this
theorem wn (hT : ck P C.tab) (R : aZ base n0 Γ β s a) {t : TypeId} {m k : Operand} {ok : Bool} (ho : o.op = .lookup t m k ok) (h : aE C K f o s = some s') : cJ P Γ β s a o s' := by
 unfold aE at h;rw [ho] at h;dsimp only at h
 split at h
 ·rename_i kt e sz by_ zr id x ht hm hx
  split at h
  ·rename_i es ti hH he
   split at h
   ·rename_i kk hkk
    rw [<- R.heap] at hH;obtain ⟨b, hb, hmv⟩ := oB (R.val hm) hH;obtain ⟨ms, cl, h1, h2, h3, _⟩ := R.inv.map id b es hb hH;obtain ⟨d, hd, hkd⟩ := m8 hT hkk;have hMs : gp Γ es ms.toList := gp.of_array (by simpa using h2) (fun i e he => by
     obtain ⟨m, a1, a2⟩ := h3 i e he;exact ⟨m, by rw [Array.getElem?_toList]; exact a1, a2⟩)
    have hu : P.underlying t = some (.map kt e) := (hT _ _ ht).map rfl;have hxr := R.val hx;have key : ∀ (r : Option AV) (y : AV) (okb : Bool), gf kk es x = some r -> (∀ q : Option (Nat × Value), (match r, q with
      | none, none => True
      | some y, some (_, u) => aD Γ y u
      | _, _ => False) -> (∃ i u, q = some (i, u) /\ okb = true /\ aD Γ y u) \/ (q = none /\ okb = false /\ ∃ u, (zeroValue e).run P Γ.w = .ok u Γ.w /\ aD Γ y u)) ->
      s' = s.put o.dst (.v (if ok then .tup [y, .bool okb] else y)) -> cJ P Γ β s a o s' := by
     intro r y okb hf hq e';obtain ⟨q, hq1, hq2⟩ := lV hkd hxr 0 hMs hf;have hl : ∃ u, (Instr.lookup t (a.eval m) (a.eval k) ok).run P Γ.w = .ok (if ok then .tuple #[u, .bool okb] else u) Γ.w /\ aD Γ y u := by
      rw [hmv];unfold Instr.lookup;simp only [Sem.run_bind, run_underlying hu, Result.andThen_ok];have hg : (getObj b).run P Γ.w = .ok (.map ms cl) Γ.w := by
       simp only [getObj, Sem.run, h1]
      simp only [Sem.run_bind, hg, Result.andThen_ok, Sem.run_pure];rw [show (10000 : Nat) = 9999 + 1 from rfl, m9 hd hkd]
      simp only [Result.andThen_ok, Instr.findKey, Sem.run_bind, run_underlying hd, hq1, Sem.run_pure];rcases hq q hq2 with ⟨i, u, rfl, rfl, hr⟩ | ⟨rfl, rfl, u, hz, hr⟩
      ·exact ⟨u, rfl, hr⟩
      ·refine ⟨u, ?_, hr⟩
       simp only [Sem.run_bind, hz, Result.andThen_ok, Sem.run_pure]
     obtain ⟨u, hl, hu2⟩ := hl;refine ⟨_, if ok then .tuple #[u, .bool okb] else u, ?_, ?_, e'⟩
     ·unfold execOp
      rw [ho];dsimp only;rw [Sem.run_bind, hl]
      rfl
     ·cases ok
      ·exact hu2
      ·refine aD.tup rfl fun i x hx => ?_
       match i, hx with
       | 0, hx => simp at hx; subst hx; exact hu2
       | 1, hx => simp at hx; subst hx; exact .bool _
    split at h
    ·rename_i v hf
     injection h with h;refine key _ v true hf (fun q hr => ?_) h.symm;cases q with
     | none => exact hr.elim
     | some p => exact .inl ⟨p.1, p.2, rfl, rfl, hr⟩
    ·rename_i hf
     cases hp : part ti ti.zero 0 with
     | none => rw [hp] at h; cases h
     | some y =>
      rw [hp] at h;injection h with h;refine key _ y false hf (fun q hr => ?_) h.symm;cases q with
      | some p => exact hr.elim
      | none =>
       obtain ⟨z, hz, hr⟩ := yI (hT _ _ he) Γ.w hp;exact .inr ⟨rfl, rfl, z, hz, hr⟩
    ·cases h
   ·cases h
  ·cases h
 ·cases h
variable {P : Program} {C : dO} {Γ : aX} {t : Nat} {ti : TI} {base n0 f : Nat} {β : Nat -> Nat} {s s' : St} {a : Act} {o : Oper} {K : Callee}
theorem lW {α β : Type} {F : α -> Sem β} {g : α -> β} {w : World} : ∀ (l : List α), (∀ x, x ∈ l -> (F x).run P w = .ok (g x) w) -> (l.mapM F).run P w = .ok (l.map g) w
 | [], _ => rfl
 | x :: l, h => by
  rw [List.mapM_cons];simp only [Sem.run_bind, h x (List.mem_cons_self ..), Result.andThen_ok, lW l (fun y hy => h y (List.mem_cons_of_mem _ hy)), Sem.run_pure, List.map_cons]
theorem qI {α β : Type} {F : α -> Sem β} {g : α -> β} {w : World} (l : Array α) (h : ∀ x, x ∈ l.toList -> (F x).run P w = .ok (g x) w) : (l.mapM F).run P w = .ok (l.map g) w := by
 rw [Array.mapM_eq_mapM_toList];simp only [Sem.run_map, lW l.toList h, Result.andThen_ok];congr 1;apply Array.ext';simp
theorem qJ (R : aZ base n0 Γ β s a) {parts : Array (Nat × Operand)} {vs : List AV} (h : s.vals (parts.toList.map (·.2)) = some vs) :
  ((parts.toList.map (·.1)).zip vs).map (·.1) = ((parts.map fun (i, x) => (i, a.eval x)).toList).map (·.1) /\ bH Γ (((parts.toList.map (·.1)).zip vs).map (·.2)) (((parts.map fun (i, x) => (i, a.eval x)).toList).map (·.2)) := by
 have hr := R.vals h;have hl := hr.len;simp only [List.length_map, Array.length_toList] at hl;constructor
 ·rw [List.map_fst_zip (by simp only [List.length_map, Array.length_toList]; omega), Array.toList_map, List.map_map]
  rfl
 ·rw [List.map_snd_zip (by simp only [List.length_map, Array.length_toList]; omega), Array.toList_map, List.map_map]
  rw [List.map_map] at hr;exact hr
theorem yJ (hT : ck P C.tab) (R : aZ base n0 Γ β s a) {t : TypeId} {parts : Array (Nat × Operand)} (ho : o.op = .build t parts) (h : aE C K f o s = some s') : cJ P Γ β s a o s' := by
 unfold aE at h;rw [ho] at h;dsimp only at h
 split at h
 ·rename_i fs sz by_ zr vs ht hv
  simp only [Option.map_eq_some_iff] at h;obtain ⟨ys, hf, e⟩ := h;obtain ⟨p1, p2⟩ := qJ R hv;have hti := hT _ _ ht;obtain ⟨gs, hg, hfs⟩ := hti.struct rfl;obtain ⟨z, hz, hz1, hz2, hz3⟩ := hti.run_zero Γ.w;have hsz : ∀ g, g ∈ gs.toList -> (do pure (g.offset, <- sizeOf g.type) : Sem (Nat × Nat)).run P Γ.w = .ok (g.offset, ((P.info? g.type).map (·.size)).getD 0) Γ.w := fun g hgm => by
   obtain ⟨i, hi⟩ := hti.flds gs hg g hgm;simp [sizeOf, typeInfo, hi]
  have hpl := qI (P := P) (w := Γ.w) gs hsz;obtain ⟨ds, hds, hrel⟩ := mo (Γ := Γ) (place := fun i => (gs.map fun g => (g.offset, ((P.info? g.type).map (·.size)).getD 0))[i]?) (fun i p hp => by
   cases hi : fs[i]? with
   | none => rw [hi] at hp; cases hp
   | some q =>
    obtain ⟨off, ft⟩ := q;rw [hi] at hp;dsimp only at hp;cases hft : look C.tab ft with
    | none => rw [hft] at hp; cases hp
    | some fi =>
     rw [hft] at hp;injection hp with hp; subst hp;obtain ⟨i', e1, e2, _⟩ := (hT _ _ hft).info;rw [<- hfs, List.getElem?_map] at hi;cases hg2 : gs.toList[i]? with
     | none => rw [hg2] at hi; cases hi
     | some g =>
      rw [hg2] at hi;injection hi with hi; injection hi with a1 a2;rw [Array.getElem?_map, <- Array.getElem?_toList, hg2];simp [a1, a2, e1, e2]) _ _ zr ys z.cells hf p1 p2 (.of_zero hz2)
  refine ⟨.v (.agg (eS (C.nb f t) ys)), .agg ds, ?_, ou hrel.agg, e.symm⟩;unfold execOp;rw [ho];dsimp only;have hb : (Instr.build t (parts.map fun (i, x) => (i, a.eval x))).run P Γ.w = .ok (.agg ds) Γ.w := by
   unfold Instr.build;simp only [Sem.run_bind, hz, Result.andThen_ok, run_underlying hg, hpl, hds, Sem.run_pure]
  rw [Sem.run_bind, hb]
  rfl
 ·cases h
variable {P : Program} {C : dO} {Γ : aX} {t : Nat} {ti : TI} {base n0 f : Nat} {β : Nat -> Nat} {s s' : St} {a : Act} {o : Oper} {K : Callee}
def cC (base : Nat) (Γ : aX) (β : Nat -> Nat) (s : St) (d : Option Tmp) (s' : St) (v : Value) (w' : World) : Prop :=
 ∃ Γ' x, Γ'.w = w' /\ cA s.lo (fun _ => False) Γ Γ' /\ dM base Γ' /\ jc Γ' β x v /\ s' = ({ s with heap := Γ'.H } : St).put d x
def je (P : Program) (o : Oper) (a : Act) (w w' : World) (v : Value) : Prop :=
 (execOp a.eval o).run P w = .ok (.value v) w' \/ ((execOp a.eval o).run P w = .ok .skip w' /\ v = undef)
theorem cJ.post (R : aZ base n0 Γ β s a) (h : cJ P Γ β s a o s') : ∃ v w', je P o a Γ.w w' v /\ cC base Γ β s o.dst s' v w' := by
 obtain ⟨x, v, h1, h2, h3⟩ := h;refine ⟨v, Γ.w, .inl h1, Γ, x, rfl, cA.refl _ _ _, R.inv, h2, ?_⟩;rw [h3, R.heap]
theorem fq (s : St) (d : Option Tmp) (x : co) (h : aj) : { s.put d x with heap := h } = ({ s with heap := h } : St).put d x := by
 cases d <;> rfl
theorem jq (R : aZ base n0 Γ β s a) {ob : ap} {o' : Obj} (hob : eT Γ ob o') {x : co} {v : Value} {d : Option Tmp} (hx : jc (Γ.push ob o') β x v) (e : s' = ({ s with heap := s.heap ++ [ob] } : St).put d x) :
  cC base Γ β s d s' v (Γ.w.alloc o') := by
 refine ⟨Γ.push ob o', x, rfl, cA.push _ _ _, R.inv.push hob (Nat.le_trans R.sz.1 R.sz.2), hx, ?_⟩;rw [e, <- R.heap]
 rfl
theorem fU {ob : ap} {o' : Obj} : (Γ.push ob o').H[Γ.H.length]? = some ob /\ (Γ.push ob o').ρ Γ.H.length = some Γ.w.heap.size := by
 simp [aX.push]
theorem CM {T : Nat} {xs : List AV} {o' : Obj} : aD (Γ.push (.cells T xs) o') (.hp Γ.H.length xs.length 0) (.pointer (some ⟨Γ.w.heap.size, 0, none⟩)) := by
 refine .hp (by simp [aX.push]) ⟨_, rfl⟩ fun T2 ys hy => ?_
 rw [fU.1] at hy;injection hy with hy; injection hy with _ hy; subst hy;exact ⟨Nat.le_refl _, fun _ => ⟨_, fU.2, rfl⟩⟩
theorem yK {T sz len c : Nat} {xs : List AV} {arr : Array Value} (hl : xs.length = len * sz) (hc : len <= c) (ha : c * sz <= arr.size) :
  aD (Γ.push (.cells T xs) (.cells arr T (0, 0))) (.sl Γ.H.length sz 0 len) (.slice (some ⟨Γ.w.heap.size, 0, none⟩) len c) := by
 refine .sl (by simp [aX.push]) ⟨_, _, rfl⟩ fun T2 ys hy => ?_
 rw [fU.1] at hy;injection hy with hy; injection hy with _ hy; subst hy;exact ⟨by omega, fun _ => ⟨_, c, arr, T, (0, 0), fU.2, rfl, hc, cB _ _, by omega⟩⟩
theorem yL (hT : ck P C.tab) (R : aZ base n0 Γ β s a) {t : TypeId} (ho : o.op = .alloc t) {d : Tmp} (hd : o.dst = some d) (hesc : d ∈ C.esc f) (h : aE C K f o s = some s') :
  ∃ v w', je P o a Γ.w w' v /\ cC base Γ β s o.dst s' v w' := by
 unfold aE at h;rw [ho, hd] at h;dsimp only at h
 split at h
 ·rename_i ti d' ht hd'
  injection hd' with hd'; subst hd';rw [if_pos hesc] at h;injection h with h;obtain ⟨z, hz, h1, h2, h3⟩ := (hT _ _ ht).run_zero Γ.w;have hc : fT Γ ti.zero z.cells := .of_zero h2;have hlen : ti.zero.length = ti.sz := by have := hc.1; omega
  refine ⟨.pointer (some ⟨Γ.w.heap.size, 0, none⟩), Γ.w.alloc (.cells z.cells t (0, 0)), .inl ?_, jq R (ob := .cells t ti.zero) ⟨_, rfl, Nat.le_of_eq hc.1.symm, hc.2.1, hc.2.2⟩ (x := .v (.hp Γ.H.length ti.zero.length 0)) CM ?_⟩
  ·unfold execOp
   rw [ho];dsimp only;have : (Instr.alloc t true (.tuple #[])).run P Γ.w = .ok (.pointer (some ⟨Γ.w.heap.size, 0, none⟩)) (Γ.w.alloc (.cells z.cells t (0, 0))) := by
    unfold Instr.alloc;simp only [Sem.run_bind, hz, Result.andThen_ok]
    rfl
   rw [Sem.run_bind, this]
   rfl
  ·rw [<- h, hd, hlen, R.heap]; rfl
 ·cases h
theorem CO (R : aZ base n0 Γ β s a) {t : TypeId} {x : Operand} (ho : o.op = .box t x) {d : Tmp} (hd : o.dst = some d) (hesc : d ∈ C.esc f) (h : aE C K f o s = some s') :
  ∃ v w', je P o a Γ.w w' v /\ cC base Γ β s o.dst s' v w' := by
 unfold aE at h;rw [ho, hd] at h;dsimp only at h
 split at h
 ·rename_i d' ys hd' hx
  injection hd' with hd'; subst hd';rw [if_pos hesc] at h;injection h with h;obtain ⟨v, hv, hc⟩ := Option.bind_eq_some_iff.1 hx;obtain ⟨c1, c2, c3⟩ := eU (R.val hv) hc;refine ⟨.pointer (some ⟨Γ.w.heap.size, 0, none⟩), Γ.w.alloc (.cells (a.eval x).cells t (0, 0)), .inl ?_, jq R (ob := .cells t ys) ⟨_, rfl, Nat.le_of_eq c1.symm, c2, c3⟩ (x := .v (.hp Γ.H.length ys.length 0)) CM ?_⟩
  ·unfold execOp
   rw [ho]
   rfl
  ·rw [<- h, hd, R.heap]; rfl
 ·cases h
theorem pV (hT : ck P C.tab) (R : aZ base n0 Γ β s a) {t : TypeId} {len : Nat} {parts : Array (Nat × Operand)} (ho : o.op = .buildSlice t len parts) (h : aE C K f o s = some s') :
  ∃ v w', je P o a Γ.w w' v /\ cC base Γ β s o.dst s' v w' := by
 unfold aE at h;rw [ho] at h;dsimp only at h
 split at h
 ·rename_i e sz0 by_ zr vs ht hv
  split at h
  ·rename_i ti he
   split at h
   ·rename_i hle
    split at h
    case h_2 => cases h
    rename_i cs hf;obtain ⟨p1, p2⟩ := qJ R hv;obtain ⟨z, hz, h1, h2, h3⟩ := (hT _ _ he).run_zero Γ.w;have hc : fT Γ ti.zero z.cells := .of_zero h2;have hlen : ti.zero.length = ti.sz := by have := hc.1; omega
    have hrep := hc.rep (by omega) len;rw [hlen] at hrep;obtain ⟨ds, hds, hrel⟩ := mo (Γ := Γ) (fun i p hp => hp) _ _ _ cs _ hf p1 p2 hrep;have hcs : cs.length = len * ti.sz := by
     have := mZ hf;simp [hlen] at this;exact this
    have hpost : cC base Γ β s o.dst s' (.slice (some ⟨Γ.w.heap.size, 0, none⟩) len len) (Γ.w.alloc (.cells ds e (0, 0))) := by
     split at h
     ·split at h
      ·rename_i hst
       injection h with h;refine ⟨Γ.stay (.cells ds e (0, 0)), .v (.vs ti.sz (cv ti.sz len cs)), rfl, qE _ _, CL R.inv _, .vs ?_, ?_⟩
       ·have hx := qE (Γ := Γ) Γ.H.length (.cells ds e (0, 0))
        have := gn (S := (Γ.stay (.cells ds e (0, 0))).S) (w := (Γ.stay (.cells ds e (0, 0))).w) (b := Γ.w.heap.size) (off := 0) (len := len) (sz := ti.sz) (c := len) (xs := cs) (cB Γ.w _) (.inr rfl) (Nat.le_of_eq hrel.1.symm) hrel.2.1
         (fun i x hi => aD.toT (Γ := Γ.stay (.cells ds e (0, 0))) ((hrel.2.2 i x hi).ext hx R.inv (fun _ _ h => h)) (ka hst (List.mem_of_getElem? hi))) (by omega) (Nat.le_refl _)
        rw [List.drop_zero] at this;exact this
       ·rw [<- h]
        show s.putv o.dst _ = ({ s with heap := Γ.H } : St).put o.dst _;rw [R.heap]; rfl
      ·cases h
     ·injection h with h
      refine jq R (ob := .cells e cs) ⟨_, rfl, Nat.le_of_eq hrel.1.symm, hrel.2.1, hrel.2.2⟩ (x := .v (.sl Γ.H.length ti.sz 0 len)) (yK hcs (Nat.le_refl _) (by have := hrel.1; omega)) ?_;rw [<- h, R.heap]; exact fq _ _ _ _
    refine ⟨.slice (some ⟨Γ.w.heap.size, 0, none⟩) len len, Γ.w.alloc (.cells ds e (0, 0)), .inl ?_, hpost⟩
    ·unfold execOp
     rw [ho];dsimp only;have hb : (Instr.buildSlice t len (parts.map fun (i, x) => (i, a.eval x))).run P Γ.w = .ok (.slice (some ⟨Γ.w.heap.size, 0, none⟩) len len) (Γ.w.alloc (.cells ds e (0, 0))) := by
      unfold Instr.buildSlice;have hn : ¬ len * ti.sz > 2 ^ 24 := by omega
      simp only [Sem.run_bind, run_underlying ((hT _ _ ht).slice rfl), Result.andThen_ok, (hT _ _ he).run_size, if_neg hn, Sem.run_pure]
      by_cases h0 : len * ti.sz = 0
      ·have hl0 : len = 0 := by
        rcases Nat.eq_zero_or_pos len with h' | h'
        ·exact h'
        ·have := Nat.mul_pos h' hle.2; omega
       subst hl0;simp only [h0, if_true, pure_bind];have e2 : (Array.range 0).map (fun x => (#[] : Array Value)[x % (#[] : Array Value).size]!) = (Array.range 0).map (fun x => z.cells[x % z.cells.size]!) := by simp
       rw [e2];rw [h0] at hds;rw [hds]
       rfl
      ·simp only [if_neg h0, Sem.run_bind, hz, Result.andThen_ok, Sem.run_pure, hds]
       rfl
     rw [Sem.run_bind, hb]
     rfl
   ·cases h
  ·cases h
 ·cases h
theorem Bn {S : Nat -> Prop} {w : World} {sz : Nat} {xs : List (List AV)} {A : Option Addr} {n c : Nat} (h : fS S w (.vs sz xs) (.slice A n c)) (l : Nat) (hl : l <= xs.length) :
  fS S w (.vs sz (xs.drop l)) (.slice (if c = l then A else A.map (·.add (l * sz))) (n - l) (c - l)) := by
 cases h with
 | vs g hn hc hsz hA hmem hrel =>
  have hget : ∀ i, (xs.drop l)[i]? = xs[i + l]? := fun i => by rw [List.getElem?_drop, Nat.add_comm]
  refine .vs (fun i j => g (i + l) j) (by rw [List.length_drop]; omega) (by omega) (fun r hr => hsz r (List.mem_of_mem_drop hr)) (fun h0 => ?_) (fun ad ha i j hi hj => ?_) (fun i j r x hi hx => hrel (i + l) j r x (by rw [<- hget]; exact hi) hx)
  ·obtain ⟨ad, ha⟩ := hA (by omega)
   rw [if_neg (by omega), ha];exact ⟨_, rfl⟩
  ·rw [if_neg (by omega)] at ha
   obtain ⟨ad0, h0, rfl⟩ := Option.map_eq_some_iff.1 ha;obtain ⟨q1, q2⟩ := hmem ad0 h0 (i + l) j (by omega) hj;rw [jY, hZ];refine ⟨?_, q2⟩;rw [<- q1];congr 2;rw [Nat.add_mul]; omega
theorem yM (hT : ck P C.tab) (R : aZ base n0 Γ β s a) {t : TypeId} {x : Operand} {l hi mx : Option Operand} (ho : o.op = .slice t x l hi mx) (h : aE C K f o s = some s') : cJ P Γ β s a o s' := by
 unfold aE at h;rw [ho] at h;cases l <;> cases hi <;> cases mx <;> first | (cases h; done) | skip
 rename_i i;dsimp only at h
 split at h
 ·rename_i e sz0 by_ zr sz xs k iv ht hx hi
  split at h
  ·rename_i ti he
   split at h
   ·rename_i hc
    obtain ⟨c1, c2, c3⟩ := hc;injection h with h;have hi' : a.eval i = .int k iv := by
     have := R.val hi;generalize a.eval i = u at this;cases this; rfl
    have hv := R.val hx;generalize hxe : a.eval x = u at hv;cases hv with
    | vs hT' =>
     rename_i _;have hu : ∃ A n c, u = .slice A n c := by cases hT'; exact ⟨_, _, _, rfl⟩
     obtain ⟨A, n, c, rfl⟩ := hu;have hn : n = xs.length := by cases hT'; assumption
     have hcn : n <= c := by cases hT'; assumption
     have hd := Bn hT' iv.toNat (by omega);refine ⟨.v (.vs sz (xs.drop iv.toNat)), _, ?_, .vs hd, h.symm⟩;unfold execOp;rw [ho];have hsl : (Instr.sliceAt t (.slice A n c) (some (.int k iv)) none none).run P Γ.w = .ok (.slice (if c = iv.toNat then A else A.map (·.add (iv.toNat * sz))) (n - iv.toNat) (c - iv.toNat)) Γ.w := by
      have hle : iv <= n := by omega
      rw [c1];simp [Instr.sliceAt, Instr.slice, run_underlying ((hT _ _ ht).slice rfl), Instr.sliceBounds, Instr.sliceBound, asIntOf, (hT _ _ he).run_size, c2, hle]
     simp only [hxe, hi', Option.map_some, Option.map_none];rw [Sem.run_bind, hsl]
     rfl
   ·cases h
  ·cases h
 ·cases h
theorem qK (hT : ck P C.tab) (R : aZ base n0 Γ β s a) {t : TypeId} {x y : Operand} (ho : o.op = .makeSlice t x y) (h : aE C K f o s = some s') :
  ∃ v w', je P o a Γ.w w' v /\ cC base Γ β s o.dst s' v w' := by
 unfold aE at h;rw [ho] at h;dsimp only at h
 split at h
 ·rename_i e sz0 by_ zr k1 n k2 m ht hx hy
  split at h
  ·rename_i ti he
   split at h
   ·rename_i hc
    obtain ⟨rfl, c2, c3, c4, c5⟩ := hc;injection h with h;have hx' : a.eval x = .int k1 n := by
     have := R.val hx;generalize a.eval x = u at this;cases this; rfl
    have hy' : a.eval y = .int k2 n := by
     have := R.val hy;generalize a.eval y = u at this;cases this; rfl
    obtain ⟨m, rfl⟩ := Int.eq_ofNat_of_zero_le c2;obtain ⟨z, hz, h1, h2, h3⟩ := (hT _ _ he).run_zero Γ.w;obtain ⟨i, hi, i1, i2⟩ := (hT _ _ he).run_info Γ.w;have hcz : fT Γ ti.zero z.cells := .of_zero h2;have hlen : ti.zero.length = ti.sz := by have := hcz.1; omega
    have hrep := hcz.rep (by omega) m;rw [hlen] at hrep;have hw : IntKind.i64.wrap (m : Int) = m := by rw [IntKind.wrap_i64]; omega
    have hrun : (Instr.makeSlice t (.int k1 m) (.int k2 m)).run P Γ.w = .ok (.slice (some ⟨Γ.w.heap.size, 0, none⟩) m m) (Γ.w.alloc (.cells ((Array.range (m * ti.sz)).map (z.cells[· % z.cells.size]!)) e (0, 0))) := by
     have n1 : ¬ (m : Int) < 0 := by omega
     have n2 : ¬ (281474976710656 < (ti.bytes : Int) * m) := by
      have h1 : ti.bytes * m <= 281474976710656 := Nat.mul_le_mul c5 (show m <= 65536 by omega);rw [<- Int.natCast_mul];omega
     by_cases hn : m * ti.sz = 0
     ·simp [Instr.makeSlice, run_underlying ((hT _ _ ht).slice rfl), asInt, asIntOf, hi, i2, (hT _ _ he).run_size, hw, n1, n2, hn, newRow]
      exact congrArg (fun q => Γ.w.alloc (Obj.cells q e)) (Array.ext (by rw [Array.size_map, Array.size_map]) (fun i h _ => by rw [Array.size_map, Array.size_range] at h; exact absurd h (Nat.not_lt_zero i)))
     ·simp [Instr.makeSlice, run_underlying ((hT _ _ ht).slice rfl), asInt, asIntOf, hi, i2, (hT _ _ he).run_size, hz, hw, n1, n2, hn, newRow]
    refine ⟨_, _, .inl ?_, jq R (ob := .cells e (List.replicate m ti.zero).flatten) ⟨_, rfl, Nat.le_of_eq hrep.1.symm, hrep.2.1, hrep.2.2⟩ (x := .v (.sl Γ.H.length ti.sz 0 m)) (yK (by simp [hlen]) (Nat.le_refl _) (by simp)) ?_⟩
    ·unfold execOp
     rw [ho];simp only [hx', hy'];rw [Sem.run_bind, hrun]
     rfl
    ·rw [<- h, R.heap]; exact fq _ _ _ _
   ·cases h
  ·cases h
 ·cases h
variable {P : Program} {C : dO} {Γ : aX} {t : Nat} {ti : TI} {base n0 f : Nat} {β : Nat -> Nat} {s s' : St} {a : Act} {o : Oper} {K : Callee}
theorem u0 (R : aZ base n0 Γ β s a) {t : TypeId} (ho : o.op = .makeMap t none) (h : aE C K f o s = some s') :
  ∃ v w', je P o a Γ.w w' v /\ cC base Γ β s o.dst s' v w' := by
 unfold aE at h;rw [ho] at h;dsimp only at h;injection h with h;refine ⟨.map (some Γ.w.heap.size), Γ.w.alloc (.map #[] 0), .inl ?_, jq R (ob := .map []) ⟨_, _, rfl, rfl, fun i e he => by simp at he, by simp, by simp⟩ (x := .v (.mp Γ.H.length)) ?_ ?_⟩
 ·unfold execOp
  rw [ho]
  rfl
 ·exact aD.mp (by simp [aX.push]) ⟨_, rfl⟩ fun es hy => ⟨_, fU.2, rfl⟩
 ·rw [<- h, R.heap]; exact fq _ _ _ _
theorem wo {x : co} {v : Value} {d : Option Tmp} {id b : Nat} {ob : ap} {o' : Obj} (R : aZ base n0 Γ β s a) (hρ : Γ.ρ id = some b) (e : cA s.lo (fun _ => False) Γ (Γ.upd id b ob o')) (hob : eT Γ ob o')
  (hx : jc (Γ.upd id b ob o') β x v) (e' : s' = ({ s with heap := s.heap.set id ob } : St).put d x) : cC base Γ β s d s' v { Γ.w with heap := Γ.w.heap.setIfInBounds b o' } := by
 refine ⟨Γ.upd id b ob o', x, rfl, e, R.inv.upd hρ e hob, hx, ?_⟩;rw [e', <- R.heap]
 rfl
theorem yN (hT : ck P C.tab) (R : aZ base n0 Γ β s a) {t : TypeId} {x y : Operand} (ho : o.op = .store t x y) (hnl : ∀ d off, s.slot x ≠ some (.p d off)) (h : aE C K f o s = some s') :
  ∃ v w', je P o a Γ.w w' v /\ cC base Γ β s o.dst s' v w' := by
 unfold aE at h;rw [ho] at h;dsimp only at h
 split at h
 ·rename_i hx _
  exact absurd hx (hnl _ _)
 ·rename_i ti id n off ys ht hx hy
  split at h
  ·rename_i e xs hH
   split at h
   ·rename_i hc
    obtain ⟨c1, c2, c3, c4⟩ := hc;injection h with h;rw [<- R.heap] at hH;obtain ⟨b, hb, hv⟩ := uX (R.slot hx) hH c2;obtain ⟨arr, h1, h2, h3, h4⟩ := R.inv.cells id b e xs hb hH;obtain ⟨yv, hyv, hyc⟩ := Option.bind_eq_some_iff.1 hy;have hr := R.val hyv;have hfit : off + ys.length <= xs.length := by omega
    obtain ⟨q1, q2, q3⟩ := eU hr hyc;have hsz : (arr.toList.take off ++ (a.eval y).cells.toList ++ arr.toList.drop (off + ys.length)).toArray.size = arr.size := by
     have : (a.eval y).cells.toList.length = ys.length := by simpa using q1
     simp [q1]; omega
    have hst := kR (w := Γ.w) (off := off) (hT _ _ ht) h1 hr hyc c3 (by omega);refine ⟨undef, _, .inr ⟨?_, rfl⟩, wo R hb (cA.updCells R.inv c1 hb hH h1 hsz (Nat.le_of_eq (dI _ _ _ hfit).symm)) ⟨_, rfl, ?_, fun z hz => ?_, fun i z hz => ?_⟩ (x := .v (.tup [])) (aD.tup rfl (by simp)) h.symm⟩
    ·unfold execOp
     rw [ho];dsimp only;rw [hv];have : (Instr.storeAt t (.pointer (some ⟨b, off, none⟩)) (a.eval y)) = storeVar t ⟨b, off, none⟩ (a.eval y) := by
      unfold Instr.storeAt Instr.sureAddr;rw [pure_bind]
     rw [this, Sem.run_bind, hst]
     rfl
    ·rw [dI _ _ _ hfit, hsz]; exact h2
    ·rcases jZ hz with hz | hz
     ·exact h3 z hz
     ·exact q2 z hz
    ·exact mn hr hyc hfit h2 h4 i z hz
   ·cases h
  ·cases h
 ·cases h
theorem wp {kk : TK} {d : TypeDesc} (hk : fp kk d) {v u : Value} (h : Instr.sameNow d v u = some true) (n : Nat) : Instr.sameBits (n + 1) u v = true := by
 cases kk <;> simp only [fp] at hk <;> subst hk
 ·cases v <;> cases u <;> simp only [Instr.sameNow] at h <;> first | (cases h; done) | skip
  split at h
  ·rename_i e; subst e
   injection h with h;simp [Instr.sameBits] at h ⊢;exact h.symm
  ·cases h
 ·cases v <;> cases u <;> simp only [Instr.sameNow] at h <;> first | (cases h; done) | skip
  injection h with h;simp [Instr.sameBits] at h ⊢;exact h.symm
 ·cases v <;> cases u <;> simp only [Instr.sameNow] at h <;> first | (cases h; done) | skip
  injection h with h;simp only [Instr.sameBits];rw [beq_toListBytes, beq_iff_eq] at h ⊢;exact h.symm
theorem na {kk : TK} {d : TypeDesc} (hk : fp kk d) {x y : AV} {v u : Value} (hx : aD Γ x v) (hy : aD Γ y u) : ∀ {l l' : List (AV × AV)} {ms : List MapEntry} (i : Nat), gp Γ l ms -> gC kk l x y = some l' ->
  (∃ q m, Instr.findNow d v ms i = some (some (i + q, m.val)) /\ ms[q]? = some m /\ Instr.sameNow d v m.key = some true /\ gp Γ l' (ms.modify q fun e => { e with key := v, val := u })) \/
  (Instr.findNow d v ms i = some none /\ ∀ c, gp Γ l' (ms ++ [{ key := v, val := u, born := c }]))
 | [], l', _, i, .nil, h => by
  injection h with h; subst h;exact .inr ⟨rfl, fun c => .cons hx hy .nil⟩
 | (k, z) :: l, l', m :: ms, i, .cons h1 h2 h3, h => by
  unfold gC at h
  split at h
  ·rename_i e
   injection h with h; subst h;have hs := gh hk e hx h1;exact .inl ⟨0, m, by simp only [Instr.findNow, hs, Nat.add_zero], rfl, hs, .cons hx hy h3⟩
  ·rename_i e
   simp only [Option.map_eq_some_iff] at h;obtain ⟨l2, hl2, rfl⟩ := h;have hs := gh hk e hx h1;rcases na hk hx hy (i + 1) h3 hl2 with ⟨q, m', a1, a2, a3, a4⟩ | ⟨a1, a2⟩
   ·refine .inl ⟨q + 1, m', ?_, by simpa using a2, a3, ?_⟩
    ·simp only [Instr.findNow, hs, a1]
     rw [show i + 1 + q = i + (q + 1) by omega]
    ·rw [List.modify_succ_cons]
     exact .cons h1 h2 a4
   ·exact .inr ⟨by simp only [Instr.findNow, hs, a1], fun c => .cons h1 h2 (a2 c)⟩
  ·cases h
theorem gp.to_array {l : List (AV × AV)} {ms : List MapEntry} (h : gp Γ l ms) : ms.length = l.length /\ ∀ (i : Nat) (e : AV × AV), l[i]? = some e -> ∃ m : MapEntry, ms[i]? = some m /\ aD Γ e.1 m.key /\ aD Γ e.2 m.val := by
 induction h with
 | nil => exact ⟨rfl, fun i e he => by simp at he⟩
 | cons hk hv _ ih =>
  refine ⟨by simp [ih.1], fun i e he => ?_⟩
  cases i with
  | zero => simp at he; subst he; exact ⟨_, rfl, hk, hv⟩
  | succ i => simpa using ih.2 i e (by simpa using he)
theorem qL (f : MapEntry -> MapEntry) (hf : ∀ e, (f e).born = e.born) : ∀ (l : List MapEntry) (q : Nat), (l.modify q f).map (·.born) = l.map (·.born)
 | [], q => by cases q <;> rfl
 | e :: l, 0 => by simp [hf]
 | e :: l, q + 1 => by
  rw [List.modify_succ_cons, List.map_cons, List.map_cons, qL f hf l q]
theorem sX.modify {ms : Array MapEntry} {cl : Nat} (h : sX ms cl) (q : Nat) (k u : Value) : sX (ms.modify q fun e => { e with key := k, val := u }) cl := by
 have e : (ms.modify q fun e => { e with key := k, val := u }).toList.map (·.born) = ms.toList.map (·.born) := by
  rw [Array.toList_modify];exact qL (fun e => { e with key := k, val := u }) (fun _ => rfl) _ _
 refine ⟨fun x hx => ?_, by rw [e]; exact h.2⟩
 have hm : x.born ∈ (ms.modify q fun e => { e with key := k, val := u }).toList.map (·.born) := List.mem_map.2 ⟨x, hx, rfl⟩;rw [e] at hm;obtain ⟨y, hy, hyb⟩ := List.mem_map.1 hm;rw [<- hyb];exact h.1 y hy
theorem sX.push {ms : Array MapEntry} {cl : Nat} (h : sX ms cl) (k u : Value) : sX (ms.push { key := k, val := u, born := cl }) (cl + 1) := by
 refine ⟨fun x hx => ?_, ?_⟩
 ·simp only [Array.toList_push, List.mem_append, List.mem_singleton] at hx
  rcases hx with hx | rfl
  ·have := h.1 x hx; omega
  ·exact Nat.lt_succ_self _
 ·simp only [Array.toList_push, List.map_append, List.map_cons, List.map_nil]
  rw [List.nodup_append];refine ⟨h.2, by simp, fun a ha b hb => ?_⟩
  obtain ⟨y, hy, rfl⟩ := List.mem_map.1 ha;simp at hb;subst hb;have := h.1 y hy;omega
theorem lX (hT : ck P C.tab) (R : aZ base n0 Γ β s a) {t : TypeId} {m k x : Operand} {id b kt e sz by_ : Nat} {zr : List AV} {kk : TK} {kv xv : AV} {es es' : List (AV × AV)} {ms : Array MapEntry} {cl : Nat}
  (ht : look C.tab t = some { kind := .map kt e, sz := sz, bytes := by_, zero := zr }) (hm : s.val m = some (.mp id)) (hk : s.val k = some kv) (hx : s.val x = some xv) (hkk : fj C.tab kt kv = some kk) (hp : gC kk es kv xv = some es')
  (hb : Γ.ρ id = some b) (hH : Γ.H[id]? = some (.map es)) (h1 : Γ.w.heap[b]? = some (.map ms cl)) (h2 : ms.size = es.length) (h3 : ∀ (i : Nat) (e : AV × AV), es[i]? = some e -> ∃ m : MapEntry, ms[i]? = some m /\ aD Γ e.1 m.key /\ aD Γ e.2 m.val) (h4 : sX ms cl) :
  ∃ (ms' : Array MapEntry) (cl' : Nat), gp Γ es' ms'.toList /\ sX ms' cl' /\ (Instr.mapUpdate t (a.eval m) (a.eval k) (a.eval x)).run P Γ.w = .ok () { Γ.w with heap := Γ.w.heap.setIfInBounds b (.map ms' cl') } := by
 have hmv : a.eval m = .map (some b) := by
  obtain ⟨b', q1, q2⟩ := oB (R.val hm) hH;rw [hb] at q1; injection q1 with q1; subst q1; exact q2
 obtain ⟨d, hd, hkd⟩ := m8 hT hkk;have hMs : gp Γ es ms.toList := gp.of_array (by simpa using h2) (fun i e he => by
  obtain ⟨m, a1, a2⟩ := h3 i e he;exact ⟨m, by rw [Array.getElem?_toList]; exact a1, a2⟩)
 have hu : P.underlying t = some (.map kt e) := (hT _ _ ht).map rfl;have hset : ∀ (w : World) (o' : Obj), w.heap[b]? = some (.map ms cl) -> (setObj b o').run P w = .ok () { w with heap := w.heap.setIfInBounds b o' } := fun w o' hw => by
  simp only [setObj, Sem.run, hw]
 have pre : ∀ (r : Option (Nat × Value)), Instr.findNow d (a.eval k) ms.toList 0 = some r -> (Instr.mapUpdate t (a.eval m) (a.eval k) (a.eval x)).run P Γ.w =
   (match r with
    | some (i, _) => do
     let key <- Instr.keyThatStays (((ms[i]?).map (·.key)).getD (a.eval k)) (a.eval k)
     setObj b (.map (ms.modify i fun e => { e with key, val := a.eval x }) cl)
    | none => setObj b (.map (ms.push { key := a.eval k, val := a.eval x, born := cl }) (cl + 1)) : Sem Unit).run P Γ.w := by
  intro r hr;rw [hmv];unfold Instr.mapUpdate;have hg : (getObj b).run P Γ.w = .ok (.map ms cl) Γ.w := by
   simp only [getObj, Sem.run, h1]
  simp only [Sem.run_bind, run_underlying hu, Result.andThen_ok, hg];rw [show (10000 : Nat) = 9999 + 1 from rfl, m9 hd hkd]
  simp only [Result.andThen_ok, Instr.findKey, Sem.run_bind, run_underlying hd, hr, Sem.run_pure];cases r with
  | none => rfl
  | some p => rfl
 rcases na hkd (R.val hk) (R.val hx) 0 hMs hp with ⟨q, m', a1, a2, a3, a4⟩ | ⟨a1, a2⟩
 ·refine ⟨ms.modify q fun e => { e with key := a.eval k, val := a.eval x }, cl, by simpa using a4, h4.modify _ _ _, ?_⟩
  rw [Nat.zero_add] at a1;rw [pre _ a1];have hq : ms[q]? = some m' := by rw [<- Array.getElem?_toList]; exact a2
  have hst : (Instr.keyThatStays (((ms[q]?).map (·.key)).getD (a.eval k)) (a.eval k)).run P Γ.w = .ok (a.eval k) Γ.w := by
   rw [hq];unfold Instr.keyThatStays;simp only [Option.map_some, Option.getD_some];rw [show (10000 : Nat) = 9999 + 1 from rfl, wp hkd a3]
   rfl
  simp only [Sem.run_bind, hst, Result.andThen_ok];exact hset _ _ h1
 ·refine ⟨ms.push { key := a.eval k, val := a.eval x, born := cl }, cl + 1, by simpa using a2 cl, h4.push _ _, ?_⟩
  rw [pre _ a1];exact hset _ _ h1
theorem qN (hT : ck P C.tab) (R : aZ base n0 Γ β s a) {t : TypeId} {m k x : Operand} (ho : o.op = .mapUpdate t m k x) (h : aE C K f o s = some s') :
  ∃ v w', je P o a Γ.w w' v /\ cC base Γ β s o.dst s' v w' := by
 unfold aE at h;rw [ho] at h;dsimp only at h
 split at h
 ·rename_i id kv xv kt e sz by_ zr hm hk hx ht
  split at h
  ·rename_i es hH
   split at h
   ·rename_i kk hkk
    split at h
    ·rename_i hlo
     simp only [Option.map_eq_some_iff] at h;obtain ⟨es', hp, e'⟩ := h;rw [<- R.heap] at hH;obtain ⟨b, hb, _⟩ := oB (R.val hm) hH;obtain ⟨ms, cl, h1, h2, h3, h4⟩ := R.inv.map id b es hb hH;obtain ⟨ms', cl', hr, hbn, hrun⟩ := lX (s := s) hT R ht hm hk hx hkk hp hb hH h1 h2 h3 h4;obtain ⟨r1, r2⟩ := hr.to_array;refine ⟨undef, _, .inr ⟨?_, rfl⟩, wo R hb (cA.updMap R.inv (es' := es') (ms' := ms') (cl' := cl') hlo hb hH h1) ⟨ms', cl', rfl, by simpa using r1, fun i e he => ?_, hbn⟩ (x := .v (.tup [])) (aD.tup rfl (by simp)) e'.symm⟩
     ·unfold execOp
      rw [ho];dsimp only;rw [Sem.run_bind, hrun]
      rfl
     ·obtain ⟨m', q1, q2⟩ := r2 i e he
      exact ⟨m', by rw [<- Array.getElem?_toList]; exact q1, q2⟩
    ·cases h
   ·cases h
  ·cases h
 ·cases h
variable {P : Program} {C : dO} {Γ : aX} {t : Nat} {ti : TI} {base n0 f : Nat} {β : Nat -> Nat} {s s' : St} {a : Act} {o : Oper} {K : Callee}
theorem wq {x : AV} {v : Value} {m : Nat} (h : lenOf x = some m) (hr : aD Γ x v) (w : World) (hs : ∀ b, x ≠ .str b) : (Builtin.lenOf v).run P w = .ok m w := by
 cases hr <;> simp only [lenOf] at h <;> first | (cases h; done) | skip
 ·exact absurd rfl (hs _)
 ·injection h with h; subst h; rfl
 ·rename_i hh h1 hin; obtain ⟨ad, c, rfl⟩ := h1; injection h with h; subst h; rfl
 ·rename_i hT
  cases hT with
  | vs g hn hc hsz hA hmem hrel => injection h with h; subst h; subst hn; rfl
theorem px {α : Type} {sz : Nat} : ∀ (xs : List (List α)), (∀ r, r ∈ xs -> r.length = sz) -> ∀ k, 0 < sz -> xs.flatten[k]? = (xs[k / sz]?).bind (·[k % sz]?)
 | [], _, k, _ => by simp
 | r :: xs, h, k, h0 => by
  have hr := h r (List.mem_cons_self ..);rw [List.flatten_cons];rcases Nat.lt_or_ge k sz with h1 | h1
  ·rw [List.getElem?_append_left (by omega), Nat.div_eq_of_lt h1, Nat.mod_eq_of_lt h1]
   rfl
  ·rw [List.getElem?_append_right (by omega), hr, px xs (fun r hr => h r (List.mem_cons_of_mem _ hr)) (k - sz) h0]
   have e1 : k / sz = (k - sz) / sz + 1 := by
    rw [Nat.div_eq_sub_div h0 h1]
   have e2 : k % sz = (k - sz) % sz := Nat.mod_eq_sub_mod h1;rw [e1, e2]
   rfl
theorem py {α : Type} {sz : Nat} : ∀ (xs : List (List α)), (∀ r, r ∈ xs -> r.length = sz) -> xs.flatten.length = xs.length * sz
 | [], _ => by simp
 | r :: xs, h => by
  rw [List.flatten_cons, List.length_append, py xs (fun r hr => h r (List.mem_cons_of_mem _ hr)), h r (List.mem_cons_self ..), List.length_cons, Nat.succ_mul];omega
theorem tF {u e' : TypeId} (hu : P.underlying u = some (.slice e')) (I : dM base Γ) {sz m : Nat} {x : AV} {v : Value} {ys : List AV} (h : fh Γ.H sz x = some ys) (hl : lenOf x = some m) (hr : aD Γ x v) (h0 : 0 < sz) :
  ∃ news : List Value, Src P sz u v m news Γ.w /\ fT Γ ys news.toArray := by
 unfold fh at h
 split at h
 ·injection h with h; subst h
  injection hl with hl; subst hl;cases hr;exact ⟨[], Src.ofNil Γ.w hu 0, rfl, by simp, by simp⟩
 ·rename_i sz' xs
  split at h
  ·rename_i hc
   injection h with h; subst h;injection hl with hl; subst hl;cases hr with
   | vs hT => cases hT with
    | vs g hn hc' hsz hA hmem hrel =>
    rename_i A n c;subst hn
    by_cases hx : xs = []
    ·subst hx
     cases A with
     | none => exact ⟨[], Src.ofNil Γ.w hu c, rfl, by simp, by simp⟩
     | some ad => exact ⟨[], Src.ofSlice Γ.w hu ad 0 c [] (by simp) (by simp) (by simp), rfl, by simp, by simp⟩
    ·have hz : sz' = sz := hc.resolve_right hx
     subst hz;obtain ⟨ad, rfl⟩ := hA (by
      rcases xs with _ | ⟨r, l⟩
      ·exact absurd rfl hx
      ·simp)
     have hfl := py xs (fun r hr => (hsz r hr).1);have hget : ∀ k y, xs.flatten[k]? = some y -> ∃ r, xs[k / sz']? = some r /\ r[k % sz']? = some y := fun k y hk => by
      rw [px xs (fun r hr => (hsz r hr).1) k h0] at hk;obtain ⟨r, h1, h2⟩ := Option.bind_eq_some_iff.1 hk;exact ⟨r, h1, h2⟩
     have hone : ∀ x, x ∈ xs.flatten -> oneCell x = true := fun x hx => by
      obtain ⟨r, h1, h2⟩ := List.mem_flatten.1 hx;exact (hsz r h1).2 x h2
     refine ⟨(List.range (xs.length * sz')).map fun k => g (k / sz') (k % sz'), Src.ofSlice Γ.w hu ad xs.length c _ (by simp) (fun j u hj => ?_) (fun u hu => ?_), by simp [hfl], hone, fun i x hi => ?_⟩
     ·have hlt : j < xs.length * sz' := by
       rcases Nat.lt_or_ge j (xs.length * sz') with h' | h'
       ·exact h'
       ·rw [List.getElem?_eq_none (by simpa using h')] at hj; cases hj
      simp [hlt] at hj;subst hj;have h1 := (hmem ad rfl (j / sz') (j % sz') ((Nat.div_lt_iff_lt_mul h0).2 hlt) (Nat.mod_lt _ h0)).1;rw [Nat.mul_comm, Nat.div_add_mod] at h1;exact h1
     ·obtain ⟨k, hk, rfl⟩ := List.mem_map.1 hu
      have hlt : k < xs.flatten.length := by rw [hfl]; simpa using hk
      obtain ⟨r, h1, h2⟩ := hget k _ (List.getElem?_eq_getElem hlt);exact (hrel _ _ _ _ h1 h2).toV.oneCell (hone _ (List.getElem_mem hlt))
     ·obtain ⟨r, h1, h2⟩ := hget i x hi
      have hlt : i < xs.length * sz' := by
       rcases Nat.lt_or_ge i xs.flatten.length with h' | h'
       ·omega
       ·rw [List.getElem?_eq_none h'] at hi; cases hi
      have := (hrel _ _ _ _ h1 h2).toV;simpa [Array.getD_eq_getD_getElem?, hlt] using this
  ·cases h
 ·rename_i id sz' off len
  split at h
  ·rename_i T xs hx
   split at h
   ·rename_i hc
    obtain ⟨c1, c2⟩ := hc;subst c1;injection h with h; subst h;injection hl with hl; subst hl;obtain ⟨b, c, arr, T', fr, hb, hv, hle, hh, hsz⟩ := ir hr hx c2;obtain ⟨arr2, k1, k2, k3, k4⟩ := I.cells id b T xs hb hx;rw [k1] at hh;injection hh with hh; injection hh with e1 _ _; subst e1;subst hv;have hone : ∀ x, x ∈ xs.drop off -> oneCell x = true := fun x hx => k3 x (List.mem_of_mem_drop hx)
    refine ⟨((arr2.toList.drop off).take (len * sz')), Src.ofSlice Γ.w hu _ len c _ (by simp; omega) (fun j u hj => ?_) (fun u hu => ?_), ?_, hone, fun i x hi => ?_⟩
    ·have hlt : j < len * sz' := by
      rcases Nat.lt_or_ge j (len * sz') with h' | h'
      ·exact h'
      ·rw [List.getElem?_take_eq_none h'] at hj; cases hj
     rw [List.getElem?_take_of_lt hlt, List.getElem?_drop] at hj;rw [lx];unfold World.cell?;simp only [k1];rw [<- Array.getElem?_toList];simpa using hj
    ·obtain ⟨k, hk, rfl⟩ := List.mem_iff_getElem.1 hu
     have hk' : k < len * sz' := by simp at hk; omega
     have hlt : off + k < xs.length := by omega
     have h1 := (k4 (off + k) _ (List.getElem?_eq_getElem hlt)).oneCell (k3 _ (List.getElem_mem hlt));have hlt2 : off + k < arr2.size := by omega
     simpa [Array.getD_eq_getD_getElem?, hlt2] using h1
    ·simp; omega
    ·rw [List.getElem?_drop] at hi
     have h1 := k4 _ x hi;have hlt : off + i < xs.length := by
      rcases Nat.lt_or_ge (off + i) xs.length with h' | h'
      ·exact h'
      ·rw [List.getElem?_eq_none h'] at hi; cases hi
     have e : (((arr2.toList.drop off).take (len * sz')).toArray).getD i undef = arr2.getD (off + i) undef := by
      rw [Array.getD_eq_getD_getElem?, Array.getD_eq_getD_getElem?, List.getElem?_toArray, List.getElem?_take_of_lt (by omega), List.getElem?_drop, Array.getElem?_toList]
     rw [e]; exact h1
   ·cases h
  ·cases h
 ·cases h
theorem fT.append {xs ys : List AV} {arr : Array Value} {news rest : List Value} (hn : xs.length <= arr.size) (h1 : ∀ x, x ∈ xs -> oneCell x = true) (hr : ∀ (i : Nat) (x : AV), xs[i]? = some x -> aD Γ x (arr.getD i undef)) (hy : fT Γ ys news.toArray) :
  (∀ x, x ∈ xs ++ ys -> oneCell x = true) /\ ∀ (i : Nat) (x : AV), (xs ++ ys)[i]? = some x -> aD Γ x ((arr.toList.take xs.length ++ news ++ rest).toArray.getD i undef) := by
 refine ⟨fun x hx => ?_, fun i x hi => ?_⟩
 ·rcases List.mem_append.1 hx with hx | hx
  ·exact h1 x hx
  ·exact hy.2.1 x hx
 ·have hl : (arr.toList.take xs.length).length = xs.length := by simp; omega
  have hyl : news.length = ys.length := by simpa using hy.1
  rw [Array.getD_eq_getD_getElem?, List.getElem?_toArray];rcases Nat.lt_or_ge i xs.length with h | h
  ·rw [List.getElem?_append_left h] at hi
   rw [List.append_assoc, List.getElem?_append_left (by omega), List.getElem?_take_of_lt h, Array.getElem?_toList, <- Array.getD_eq_getD_getElem?];exact hr i x hi
  ·rw [List.getElem?_append_right h] at hi
   have hlt : i - xs.length < ys.length := by
    rcases Nat.lt_or_ge (i - xs.length) ys.length with h' | h'
    ·exact h'
    ·rw [List.getElem?_eq_none h'] at hi; cases hi
   have := hy.2.2 _ x hi;rw [List.append_assoc, List.getElem?_append_right (by omega), hl, List.getElem?_append_left (by omega)];rw [Array.getD_eq_getD_getElem?, List.getElem?_toArray] at this;exact this
def fV (base lo : Nat) (Γ : aX) (r : AV) (h' : aj) (v : Value) (w' : World) : Prop :=
 ∃ Γ' : aX, Γ'.w = w' /\ Γ'.H = h' /\ cA lo (fun _ => False) Γ Γ' /\ dM base Γ' /\ aD Γ' r v
theorem fV.same {lo : Nat} {r : AV} {v : Value} (I : dM base Γ) (h : aD Γ r v) : fV base lo Γ r Γ.H v Γ.w := ⟨Γ, rfl, rfl, cA.refl _ _ _, I, h⟩
theorem fV.born {lo : Nat} {r : AV} {h' : aj} {v : Value} {w' : World} (z : Bool) (h : fV base lo Γ r h' v w') : fV base lo Γ (lR z lo (r, h')).1 (lR z lo (r, h')).2 v w' := by
 cases z with
 | false => exact h
 | true =>
 unfold lR fm;dsimp only
 split
 ·rename_i id sz off len
  split
  ·rename_i T xs hH
   split
   ·rename_i hc
    obtain ⟨c1, c2, c3⟩ := hc;obtain ⟨Γ', e1, e2, hx, hI, hr⟩ := h;subst e2;obtain ⟨b, c, arr, T', fr, hb, hv', hle, hh, hsz⟩ := ir hr hH c2;obtain ⟨arr2, k1, k2, k3, k4⟩ := hI.cells id b T xs hb hH;refine ⟨Γ'.froze id, e1, rfl, hx.trans (oz c1) (Nat.le_refl _) (fun _ _ _ h => h.elim), tE hI, ?_⟩;rw [hv'];have hT := gn (S := (Γ'.froze id).S) (w := Γ'.w) k1 (.inr hb) k2 k3 (fun i x hi => ((k4 i x hi).toT (ka c3 (List.mem_of_getElem? hi))).mono fun b hs => ⟨.inl hs, rfl⟩) c2 hle;exact .vs hT
   ·exact h
  ·exact h
 ·exact h
theorem wr (w : World) (need old : Nat) (e : TypeId) : need <= grownCap w need old e := grownCap_ge w need old e
theorem u5 (
           hT : ck P C.tab) {u e' : TypeId} (hu : P.underlying u = some (.slice e')) (I : dM base Γ) (hb0 : base <= Γ.w.heap.size) {lo : Nat} {sa x r : AV} {vs vx : Value} {h' : aj} (h : append C.tab lo Γ.H t sa x = some (r, h'))
  (rs : aD Γ sa vs) (rx : aD Γ x vx) (ty : TypeId) : ∃ v w', (Builtin.append_ #[t, u] ty #[vs, vx]).run P Γ.w = .ok v w' /\ fV base lo Γ r h' v w' := by
 unfold append at h
 split at h
 ·rename_i e sz0 by0 zr0 ht
  split at h
  ·rename_i ti he
   have hti := hT _ _ he;have hut := (hT _ _ ht).slice rfl;obtain ⟨i, hi1, hi2, hi3, z, hz, hzs, hzm, hzh⟩ := hti.info
   split at h
   ·rename_i ys m hy hm
    split at h
    ·cases rs
     split at h
     ·rename_i h0
      injection h with h; injection h with e1 e2; subst e1 e2;subst h0;have hfc : ∃ cs, (Builtin.firstCells ti.sz 0 vx).run P Γ.w = .ok cs Γ.w /\ (Builtin.lenOf vx).run P Γ.w = .ok 0 Γ.w := by
       have hl : (Builtin.lenOf vx).run P Γ.w = .ok 0 Γ.w := wq hm rx Γ.w (fun b e => by subst e; simp [fh] at hy);cases vx <;> first | (simp [Builtin.lenOf] at hl; done) | skip
       ·rename_i s
        exact ⟨_, by simp [Builtin.firstCells]; rfl, hl⟩
       ·rename_i A n c
        cases A with
        | none => exact ⟨_, run_firstCells_none _ _ _ _ _, hl⟩
        | some ad => exact ⟨_, run_firstCells_some _ ti.sz 0 ad n c [] (by simp) (by simp), hl⟩
      obtain ⟨cs, f1, f2⟩ := hfc;refine ⟨.slice none 0 0, Γ.w, ?_, fV.same I .nils⟩;rw [<- hi2] at f1;simp [Builtin.append_, run_underlying hut, run_underlying hu, sizeOf, typeInfo, hi1, f1, f2]
     ·rename_i h0
      split at h
      ·rename_i hc
       injection h with h; injection h with e1 e2; subst e1 e2;obtain ⟨c1, c2, c3⟩ := hc;obtain ⟨news, hs, hrel⟩ := tF hu I hy hm rx c2;rw [<- hi2] at hs;have hyl : ys.length = m * ti.sz := by have h1 := hs.newsLen; have h2 := hrel.1; simp at h2; rw [hi2] at h1; omega
       have hcap := wr Γ.w (0 + m) 0 e;refine ⟨_, _, run_append_grow_src Γ.w t u ty e i z hut hi1 hz none 0 0 [] (run_firstCells_none _ _ _ _ _) vx m news hs (by omega) (by unfold ca at c3; omega) (growslice_fits (by omega) (by unfold ca at c1; rw [hi3, Nat.zero_add]; exact c1)), ?_⟩;have hI1 := I.drawn (Γ.w.drawn + 1);have hrel1 : fT { Γ with w := Γ.w.drew } ys news.toArray := ⟨hrel.1, hrel.2.1, fun i x hx => (hrel.2.2 i x hx).ext (cA.drawn lo Γ _) I (fun _ _ e => e)⟩
       generalize hA : ((([] ++ news).toArray ++ Builtin.zeroCells z.cells (grownCap Γ.w (0 + m) 0 e - (0 + m))) : Array Value) = A;have hA' : A = (([] : List Value) ++ news ++ (Builtin.zeroCells z.cells (grownCap Γ.w (0 + m) 0 e - (0 + m))).toList).toArray := by
        rw [<- hA]; apply Array.ext'; simp
       have hsz2 : A.size = grownCap Γ.w (0 + m) 0 e * ti.sz := by
        have h1 := hs.newsLen;rw [hi2] at h1;rw [<- hA];simp [size_zeroCells, hzs, h1];rw [<- Nat.add_mul];congr 1;simp at hcap;omega
       have hap := fT.append (Γ := { Γ with w := Γ.w.drew }) (xs := []) (arr := #[]) (rest := (Builtin.zeroCells z.cells (grownCap Γ.w (0 + m) 0 e - (0 + m))).toList) (by simp) (by simp) (by simp) hrel1;rw [show (#[] : Array Value).toList.take ([] : List AV).length = [] from rfl, <- hA'] at hap
       refine ⟨aX.push { Γ with w := Γ.w.drew } (.cells e ys) (.cells A e (0, 0)), rfl, rfl, cA.trans (cA.drawn lo Γ _) (cA.push lo _ _) (Nat.le_refl _) (fun _ _ _ h => h.elim), hI1.push ⟨_, rfl, ?_, hap.1, hap.2⟩ hb0, ?_⟩
       ·rw [hsz2, hyl]; exact Nat.mul_le_mul_right _ (by omega)
       ·have := yK (Γ := { Γ with w := Γ.w.drew }) (T := e) (sz := ti.sz) (len := m) (c := grownCap Γ.w (0 + m) 0 e) (xs := ys) (arr := A) hyl (by omega) (by rw [hsz2]; exact Nat.le_refl _)
        simp only [Nat.zero_add] at this ⊢;exact this
      ·cases h
    ·rename_i id sz off len
     split at h
     ·rename_i e2 xs hx
      split at h
      ·rename_i hc
       injection h with h; injection h with e1 e2; subst e1 e2;obtain ⟨c1, rfl, rfl, rfl, c5, c6, c7, c8⟩ := hc;obtain ⟨news, hs, hrel⟩ := tF hu I hy hm rx c6;rw [<- hi2] at hs;have hyl : ys.length = m * ti.sz := by have h1 := hs.newsLen; have h2 := hrel.1; simp at h2; rw [hi2] at h1; omega
       have hnl : news.length = m * ti.sz := by have h1 := hs.newsLen; rw [hi2] at h1; exact h1
       obtain ⟨b, c, arr, T', fr, hb, hv, hle, hh, hcs⟩ := ir rs hx (by omega);obtain ⟨arr2, k1, k2, k3, k4⟩ := I.cells id b e2 xs hb hx;rw [k1] at hh;injection hh with hh; injection hh with q1 q2 q3; subst q1 q2 q3;subst hv;have hblt := (I.dom id b hb).2.1;have hadd : (len + m) * ti.sz = len * ti.sz + m * ti.sz := Nat.add_mul ..
       by_cases hroom : len + m <= c
       ·have hmul : (len + m) * ti.sz <= c * ti.sz := Nat.mul_le_mul_right _ hroom
        have hst := run_storeCells_at (P := P) b (len * ti.sz) e2 news 0 arr2 Γ.w k1 (by omega) hs.one;rw [tw k1, Nat.add_zero] at hst;have hrun : (Builtin.append_ #[t, u] ty #[.slice (some ⟨b, 0, none⟩) len c, vx]).run P Γ.w = .ok (.slice (some ⟨b, 0, none⟩) (len + m) c)
          {Γ.w with heap := Γ.w.heap.setIfInBounds b (.cells (arr2.toList.take (len * ti.sz) ++ news ++ arr2.toList.drop (len * ti.sz + news.length)).toArray e2 (0, 0)) } := by
         have hsl := hs.len;have hsc := hs.cells;rw [<- hi2] at hst ⊢;simp [Builtin.append_, run_underlying hut, run_underlying hu, sizeOf, typeInfo, hi1, hsl, hroom, hsc, Addr.add_lit, hst]
        refine ⟨_, _, hrun, ?_⟩;have hasz : (arr2.toList.take (len * ti.sz) ++ news ++ arr2.toList.drop (len * ti.sz + news.length)).toArray.size = arr2.size := by simp; omega
        have hext : cA lo (fun _ => False) Γ (Γ.upd id b (.cells e2 (xs ++ ys)) (.cells (arr2.toList.take (len * ti.sz) ++ news ++ arr2.toList.drop (len * ti.sz + news.length)).toArray e2 (0, 0))) :=
         cA.updCells I c1 hb hx k1 hasz (by simp)
        have hob : fT Γ ys news.toArray := hrel;have hap := fT.append (rest := arr2.toList.drop (len * ti.sz + news.length)) k2 k3 k4 hob;rw [<- c5] at hap;refine ⟨_, rfl, rfl, hext, I.upd hb hext ⟨_, rfl, by rw [hasz]; simp; omega, hap.1, hap.2⟩, ?_⟩
        refine .sl (by simp [aX.upd]; exact (I.dom id b hb).1) ⟨_, _, rfl⟩ fun T zs hz => ?_
        rw [aX.upd, List.getElem?_set_self (I.dom id b hb).1] at hz;injection hz with hz; injection hz with z1 z2; subst z1 z2;refine ⟨by simp; omega, fun _ => ⟨b, c, _, e2, (0, 0), hb, rfl, hroom, ez hblt, by rw [hasz]; omega⟩⟩
       ·have hg : c < len + m := by omega
        have hold : (Builtin.firstCells i.size len (.slice (some ⟨b, 0, none⟩) len c)).run P Γ.w.drew = .ok (arr2.toList.take (len * ti.sz)).toArray Γ.w.drew := by
         refine run_firstCells_some _ i.size len _ len c _ ?_ fun j v hj => ?_
         ·rw [hi2]; simp; omega
         ·have hlt : j < len * ti.sz := by
           rcases Nat.lt_or_ge j (len * ti.sz) with h' | h'
           ·exact h'
           ·rw [List.getElem?_take_eq_none h'] at hj; cases hj
          rw [List.getElem?_take_of_lt hlt] at hj;rw [eV];show World.cell? Γ.w.drew _ = _;unfold World.cell?;have : Γ.w.drew.heap[b]? = some (.cells arr2 e2 (0, 0)) := k1;simp only [this];rw [<- Array.getElem?_toList];simpa using hj
        have hcap := wr Γ.w (len + m) c e2;refine ⟨_, _, run_append_grow_src Γ.w t u ty e2 i z hut hi1 hz (some ⟨b, 0, none⟩) len c _ hold vx m news hs hg (by unfold ca at c8; omega) (growslice_fits hg (by unfold ca at c7; rw [hi3]; exact c7)), ?_⟩;have hI1 := I.drawn (Γ.w.drawn + 1);have hrel1 : fT { Γ with w := Γ.w.drew } ys news.toArray := ⟨hrel.1, hrel.2.1, fun i x hx => (hrel.2.2 i x hx).ext (cA.drawn lo Γ _) I (fun _ _ e => e)⟩
        generalize hA : (((arr2.toList.take (len * ti.sz) ++ news).toArray ++ Builtin.zeroCells z.cells (grownCap Γ.w (len + m) c e2 - (len + m))) : Array Value) = A;have hA' : A = (arr2.toList.take (len * ti.sz) ++ news ++ (Builtin.zeroCells z.cells (grownCap Γ.w (len + m) c e2 - (len + m))).toList).toArray := by
         rw [<- hA]; apply Array.ext'; simp
        have hsz2 : A.size = grownCap Γ.w (len + m) c e2 * ti.sz := by
         rw [<- hA];have e3 : grownCap Γ.w (len + m) c e2 * ti.sz = (len + m) * ti.sz + (grownCap Γ.w (len + m) c e2 - (len + m)) * ti.sz := by
          rw [<- Nat.add_mul]; congr 1; omega
         simp [size_zeroCells, hzs, hnl];omega
        have hcm : (len + m) * ti.sz <= grownCap Γ.w (len + m) c e2 * ti.sz := Nat.mul_le_mul_right _ hcap;have hm0 : 0 < m * ti.sz := Nat.mul_pos (by omega) c6;have hk4 : ∀ (i : Nat) (x : AV), xs[i]? = some x -> aD { Γ with w := Γ.w.drew } x (arr2.getD i undef) := fun i x hx => (k4 i x hx).ext (cA.drawn lo Γ _) I (fun _ _ e => e)
        have hap := fT.append (Γ := { Γ with w := Γ.w.drew }) (rest := (Builtin.zeroCells z.cells (grownCap Γ.w (len + m) c e2 - (len + m))).toList) k2 k3 hk4 hrel1;rw [<- c5, <- hA'] at hap;have hmv : cA lo (fun _ => False) { Γ with w := Γ.w.drew } (aX.move { Γ with w := Γ.w.drew } id (.cells e2 (xs ++ ys)) (.cells A e2 (0, 0))) := cA.move (b := b) (T := e2) (xs := xs) (xs' := xs ++ ys) c1 hb hx (by simp; omega);refine ⟨_, rfl, rfl, cA.trans (cA.drawn lo Γ _) hmv (Nat.le_refl _) (fun _ _ _ h => h.elim), dM.move hI1 hb hmv ⟨_, rfl, by rw [hsz2]; simp; omega, hap.1, hap.2⟩ hb0, ?_⟩
        refine .sl (by simp [aX.move]; exact (I.dom id b hb).1) ⟨_, _, rfl⟩ fun T zs hz => ?_
        rw [aX.move, List.getElem?_set_self (I.dom id b hb).1] at hz;injection hz with hz; injection hz with z1 z2; subst z1 z2;refine ⟨by simp; omega, fun _ => ⟨Γ.w.heap.size, grownCap Γ.w (len + m) c e2, A, e2, (0, 0), by simp [aX.move], rfl, hcap, cB _ _, by rw [hsz2]; omega⟩⟩
      ·cases h
     ·cases h
    ·cases h
   ·cases h
  ·cases h
 ·cases h
variable {P : Program} {C : dO} {Γ : aX} {t : Nat} {ti : TI} {base n0 f : Nat} {β : Nat -> Nat} {s s' : St} {a : Act} {o : Oper} {K : Callee}
theorem u6 {lo : Nat} {b : Builtin} {ats : Array TypeId} {ty : TypeId} {cs : Array Bool} {args : Array Value} {r : AV} {v : Value} (I : dM base Γ) (h : ∃ m : Sem Value, Go.builtin b ats ty cs args = (do pure (.value (<- m))) /\ m.run P Γ.w = .ok v Γ.w) (hr : aD Γ r v) :
  ∃ v w', (Go.builtin b ats ty cs args).run P Γ.w = .ok (.value v) w' /\ fV base lo Γ r Γ.H v w' := by
 obtain ⟨m, h1, h2⟩ := h;refine ⟨v, Γ.w, ?_, fV.same I hr⟩;rw [h1, Sem.run_bind, h2]
 rfl
theorem qO {α : Type} {xs : Array α} {x : α} {l : List α} (h : xs.toList = x :: l) : xs[0]? = some x := by
 rw [<- Array.getElem?_toList, h]; rfl
theorem s6 (hT : ck P C.tab) (I : dM base Γ) (hb0 : base <= Γ.w.heap.size) {lo : Nat} {b : Builtin} {ats : Array TypeId} {xs : List AV} {args : Array Value} {r : AV} {h' : aj} (h : builtin C.tab lo b ats.toList xs Γ.H = some (r, h'))
  (rx : bH Γ xs args.toList) (ty : TypeId) (cs : Array Bool) : ∃ v w', (Go.builtin b ats ty cs args).run P Γ.w = .ok (.value v) w' /\ fV base lo Γ r h' v w' := by
 unfold builtin at h
 split at h
 ·rename_i t ts x hats
  have h0 := qO hats;generalize hal : args.toList = al at rx;cases rx with
  | cons hx hn =>
   rename_i v l;cases hn;have ha0 := qO hal;have key : ∀ (r : AV) (u : Value), (Builtin.len_ ats ty args).run P Γ.w = .ok u Γ.w -> aD Γ r u -> ∃ v w', (Go.builtin .len ats ty cs args).run P Γ.w = .ok (.value v) w' /\ fV base lo Γ r Γ.H v w' :=
    fun r u hu hr => u6 I ⟨_, rfl, hu⟩ hr
   split at h
   ·rename_i e _ _ _ ht
    injection h with h; injection h with e1 e2; subst e1 e2;cases hx;refine key _ (.int .i64 0) ?_ (.int _ _);simp [Builtin.len_, h0, ha0, run_underlying ((hT _ _ ht).slice rfl), goInt]
   ·rename_i e _ _ _ _ _ _ n ht
    injection h with h; injection h with e1 e2; subst e1 e2;cases hx with
    | sl hin h1 hh =>
     obtain ⟨ad, c, rfl⟩ := h1;refine key _ (.int .i64 n) ?_ (.int _ _);simp [Builtin.len_, h0, ha0, run_underlying ((hT _ _ ht).slice rfl), goInt]
   ·rename_i e _ _ _ _ xs ht
    injection h with h; injection h with e1 e2; subst e1 e2;cases hx with
    | vs hT => cases hT with
     | vs g hn hc hsz hA hmem hrel =>
     subst hn;refine key _ (.int .i64 xs.length) ?_ (.int _ _);simp [Builtin.len_, h0, ha0, run_underlying ((hT _ _ ht).slice rfl), goInt]
   ·rename_i _ _ _ b ht
    injection h with h; injection h with e1 e2; subst e1 e2;cases hx;refine key _ (.int .i64 b.size) ?_ (.int _ _);simp [Builtin.len_, h0, ha0, run_underlying ((hT _ _ ht).str rfl), goInt]
   ·rename_i k e _ _ _ id ht
    split at h
    ·rename_i es hH
     injection h with h; injection h with e1 e2; subst e1 e2;obtain ⟨b, hb, rfl⟩ := oB hx hH;obtain ⟨ms, cl, h1, h2, h3, _⟩ := I.map id b es hb hH;refine key _ (.int .i64 es.length) ?_ (.int _ _);have hg : (getObj b).run P Γ.w = .ok (.map ms cl) Γ.w := by
      simp only [getObj, Sem.run, h1]
     simp [Builtin.len_, h0, ha0, run_underlying ((hT _ _ ht).map rfl), goInt, hg, h2]
    ·cases h
   ·cases h
 ·rename_i t u sa x hats
  have e1 : ats = #[t, u] := by apply Array.ext'; simpa using hats
  subst e1;generalize hal : args.toList = al at rx;cases rx with
  | cons hs hn =>
   cases hn with
   | cons hx hn =>
    cases hn;rename_i v1 v2;have e2 : args = #[v1, v2] := by apply Array.ext'; simpa using hal
    subst e2
    split at h
    ·rename_i e _ _ _ hu
     obtain ⟨v, w', h1, h2⟩ := u5 hT ((hT _ _ hu).slice rfl) I hb0 h hs hx ty;refine ⟨v, w', ?_, h2⟩;unfold Go.builtin;dsimp only;rw [Sem.run_bind, h1]
     rfl
    ·cases h
 ·rename_i x r'
  simp only [Option.map_eq_some_iff] at h;obtain ⟨y, hy, e⟩ := h;injection e with e1 e2; subst e1 e2;generalize hal : args.toList = al at rx;cases rx with
  | cons hx hn =>
   obtain ⟨z, hz, hr⟩ := j0 (P := P) (w := Γ.w) _ Builtin.min2 (fun k k' a b w => by simp [Builtin.min2]) _ _ _ _ _ hy hx hn;refine u6 I ⟨_, rfl, ?_⟩ hr;unfold Builtin.min_;rw [hal];exact hz
 ·rename_i x r'
  simp only [Option.map_eq_some_iff] at h;obtain ⟨y, hy, e⟩ := h;injection e with e1 e2; subst e1 e2;generalize hal : args.toList = al at rx;cases rx with
  | cons hx hn =>
   obtain ⟨z, hz, hr⟩ := j0 (P := P) (w := Γ.w) _ Builtin.max2 (fun k k' a b w => by simp [Builtin.max2]) _ _ _ _ _ hy hx hn;refine u6 I ⟨_, rfl, ?_⟩ hr;unfold Builtin.max_;rw [hal];exact hz
 ·cases h
theorem pW (ρ : Operand -> Value) {c : Call} {b : Builtin} (h : c.callee = .builtin b) (ty : TypeId) : resolve ρ c ty = pure { target := .builtin b c.argTypes ty (c.args.map fun | .const _ => true | _ => false), args := c.args.map ρ } := by
 unfold resolve; rw [h]; rfl
theorem nc (hT : ck P C.tab) (R : aZ base n0 Γ β s a) {c : Call} {b : Builtin} (ho : o.op = .call c) (hc : c.callee = .builtin b) (h : aE C K f o s = some s') :
  ∃ v w', je P o a Γ.w w' v /\ cC base Γ β s o.dst s' v w' := by
 unfold aE at h;rw [ho] at h;dsimp only at h
 split at h
 ·rename_i vs hvs
  rw [hc] at h;dsimp only at h;simp only [Option.map_eq_some_iff] at h;obtain ⟨⟨r, h'⟩, hb, e⟩ := h;have hr := R.vals hvs;rw [<- R.heap] at hb;obtain ⟨v, w', h1, hpost⟩ := s6 (lo := s.lo) (args := c.args.map a.eval) hT R.inv (Nat.le_trans R.sz.1 R.sz.2) hb (by simpa using hr) o.type (c.args.map fun | .const _ => true | _ => false);obtain ⟨Γ', e1, e2, hext, hI, hrv⟩ := hpost.born (qu (C.fz f) o.dst);refine ⟨v, w', .inl ?_, Γ', .v _, e1, hext, hI, hrv, ?_⟩
  ·unfold execOp
   rw [ho];dsimp only;rw [pW _ hc];simp only [pure_bind, invoke];exact h1
  ·rw [<- e, e2]; exact fq _ _ _ _
 ·cases h
variable {P : Program} {C : dO} {Γ : aX} {t : Nat} {ti : TI} {base n0 f : Nat} {β : Nat -> Nat} {s s' : St} {a : Act} {o : Oper} {K : Callee}
def Fw (ro : Option Nat) : Fence := { fn := fun _ => True, depth := none, alive := false, round := ro }
def dr (base lo : Nat) (Γ : aX) (r : AV) (h' : aj) : Ending -> World -> Prop
 | .returned v, w' => fV base lo Γ r h' v w'
 | _, _ => False
def gD (P : Program) (K : Callee) : Prop := ∀ (lo : Nat) (g : Fn) (vs : List AV) (h : aj) (r : AV) (h' : aj), K lo g vs h = some (r, h') ->
 ∀ (base : Nat) (Γ : aX), dM base Γ -> base <= Γ.w.heap.size -> Γ.H = h -> ∀ args : Array Value, bH Γ vs args.toList ->
 match g with
 | .func f => (∃ fn, P.funcs[f]? = some fn /\ fn.name ≠ "runtime.NumGoroutine" /\ fn.body.isSome = true) /\ CallsIn Fence.wide 0 P f args Γ.w (dr base lo Γ r h')
 | .yield l => (∃ rec_, Γ.H[l]? = some (.loop rec_)) /\ ∀ b, Γ.ρ l = some b -> ∃ fid tmps assign body, (Instr.yield b args).run P Γ.w = .ok (.round b fid tmps assign body) Γ.w /\ RoundIn Fence.wide 0 P b fid tmps assign body Γ.w (dr base lo Γ r h')
 | _ => True
structure qb (P : Program) (C : dO) (K : Callee) : Prop where
 tab : ck P C.tab
 eqs : ∀ t, t ∈ C.eqs -> uU P t
 sound : gD P K
theorem gP {ro : Option Nat} {w w' : World} {v : Value} {next : Act -> World -> Prop} {Q : Exit -> Act -> World -> Prop} (hnd : ∀ c, o.op ≠ .defer c) (h : je P o a w w' v) (hn : next (a.put o.dst v) w') : o.wpIn (Fw ro) 0 P a w next Q := by
 refine ⟨fun _ _ => trivial, ?_⟩
 rw [Oper.semAt_eq _ _ _ hnd];rcases h with h | ⟨h, rfl⟩
 ·rw [h]; exact hn
 ·rw [h]; exact hn
theorem kV {f : FuncId} {fn : Func} (h1 : P.funcs[f]? = some fn) (h2 : fn.name ≠ "runtime.NumGoroutine") (h3 : fn.body.isSome = true) (args : Array Value) (w : World) : (callFunc f args).run P w = .ok (.enter f args) w := by
 unfold callFunc;have h4 : (fn.name == "runtime.NumGoroutine") = false := by simpa using h2
 have h5 : fn.body.isNone = false := by
  cases hb : fn.body with
  | none => rw [hb] at h3; cases h3
  | some b => rfl
 simp only [Sem.run_bind, run_program, Result.andThen_ok, h1, h4, h5, Bool.false_eq_true, if_false, Sem.run_pure]
theorem EV (H : qb P C K) (R : aZ base n0 Γ β s a) {ro : Option Nat} {next : Act -> World -> Prop} {Q : Exit -> Act -> World -> Prop} {c : Call} {x : Operand} (ho : o.op = .call c) (hc : c.callee = .value x) (h : aE C K f o s = some s')
  (hn : ∀ v w', cC base Γ β s o.dst s' v w' -> next (a.put o.dst v) w') : o.wpIn (Fw ro) 0 P a Γ.w next Q := by
 unfold aE at h;rw [ho] at h;dsimp only at h
 split at h
 ·rename_i vs hvs
  rw [hc] at h;dsimp only at h
  split at h
  ·rename_i g caps hx
   simp only [Option.map_eq_some_iff] at h;obtain ⟨⟨r, h'⟩, hk, e⟩ := h;have hr := R.vals hvs;have hfn := R.val hx;have hback : ∀ v w', fV base s.lo Γ r h' v w' -> next (a.put o.dst v) w' := fun v w' hp => by
    obtain ⟨Γ', e1, e2, hext, hI, hrv⟩ := hp.born (qu (C.fz f) o.dst);exact hn v w' ⟨Γ', .v _, e1, hext, hI, hrv, by rw [<- e, e2]; exact fq _ _ _ _⟩
   refine ⟨fun _ _ => trivial, ?_⟩
   rw [Oper.semAt_eq _ _ _ (fun c' hc' => by rw [ho] at hc'; cases hc')];have hex : execOp a.eval o = (do let d <- resolve a.eval c o.type; invoke d.target d.args) := by unfold execOp; rw [ho]
   have hres : ∀ fv, a.eval x = fv -> resolve a.eval c o.type = Deferred.ofValue fv (c.args.map a.eval) := fun fv hfv => by
    unfold resolve; rw [hc, <- hfv]
   generalize hv : a.eval x = u at hfn;cases hfn with
   | fn hcn hcr =>
    rename_i fid us;have hargs : bH Γ (vs ++ caps) ((c.args.map a.eval) ++ us).toList := by
     rw [Array.toList_append];exact bH.append (by simpa using hr) (bH.of_array (by simpa using hcn) fun i x hx => by
      have := hcr i x hx;rw [Array.getD_eq_getD_getElem?] at this;rw [List.getD_eq_getElem?_getD, Array.getElem?_toList];exact this)
    obtain ⟨⟨fn, q1, q2, q3⟩, hcalls⟩ := H.sound s.lo (.func fid) (vs ++ caps) s.heap r h' hk base Γ R.inv (Nat.le_trans R.sz.1 R.sz.2) R.heap _ hargs;have hrun : (execOp a.eval o).run P Γ.w = .ok (.enter fid ((c.args.map a.eval) ++ us)) Γ.w := by
     rw [hex, hres _ hv];simp only [Deferred.ofValue, Array.empty_append, pure_bind, invoke];exact kV q1 q2 q3 _ _
    rw [hrun, Oper.uponIn_enter];refine ⟨fun h => (by cases h), CallsIn.mono hcalls fun e w'' he => ?_⟩
    cases e with
    | returned v => exact hback v w'' he
    | panicked chain => exact he.elim
    | outgrown => exact he.elim
   | yield hin h1 hh =>
    rename_i id;have hargs : bH Γ (vs ++ []) (c.args.map a.eval).toList := by
     rw [List.append_nil]; simpa using hr
    obtain ⟨⟨rec_, hrec⟩, hround⟩ := H.sound s.lo (.yield id) (vs ++ []) s.heap r h' hk base Γ R.inv (Nat.le_trans R.sz.1 R.sz.2) R.heap _ hargs;obtain ⟨b, hb, rfl⟩ := hh rec_ hrec;obtain ⟨fid, tmps, assign, body, hy, hR⟩ := hround b hb;have hrun : (execOp a.eval o).run P Γ.w = .ok (.round b fid tmps assign body) Γ.w := by
     rw [hex, hres _ hv];simp only [Deferred.ofValue, Array.empty_append, pure_bind, invoke];exact hy
    rw [hrun, Oper.uponIn_round];refine ⟨fun h => (by cases h), RoundIn.mono hR fun e w'' he => ?_⟩
    cases e with
    | returned v => exact hback v w'' he
    | panicked chain => exact he.elim
    | outgrown => exact he.elim
  ·cases h
 ·cases h
def kb (C : dO) (f : Nat) (s : St) (o : Oper) : Prop :=
 match o.op with
 | .alloc _ | .box .. => ∃ d, o.dst = some d /\ d ∉ C.esc f
 | .store _ x _ => ∃ d off, s.slot x = some (.p d off)
 | _ => False
theorem tG (H : qb P C K) (R : aZ base n0 Γ β s a) {ro : Option Nat} {next : Act -> World -> Prop} {Q : Exit -> Act -> World -> Prop} (hl : ¬ kb C f s o) (h : aE C K f o s = some s')
  (hn : ∀ v w', cC base Γ β s o.dst s' v w' -> next (a.put o.dst v) w') : o.wpIn (Fw ro) 0 P a Γ.w next Q := by
 have fin : (∃ v w', je P o a Γ.w w' v /\ cC base Γ β s o.dst s' v w') -> (∀ c, o.op ≠ .defer c) -> o.wpIn (Fw ro) 0 P a Γ.w next Q := fun ⟨v, w', h1, h2⟩ hnd => gP hnd h1 (hn v w' h2)
 cases ho : o.op
 case move x => exact fin ((ow R (.inl ho) h).post R) (fun c e => by rw [ho] at e; cases e)
 case assign x => exact fin ((ow R (.inr ho) h).post R) (fun c e => by rw [ho] at e; cases e)
 case pick => exact fin ((Bk R ho h).post R) (fun c e => by rw [ho] at e; cases e)
 case load => exact fin ((ox H.tab R ho h).post R) (fun c e => by rw [ho] at e; cases e)
 case nilCheck => exact fin ((sY R ho h).post R) (fun c e => by rw [ho] at e; cases e)
 case fieldAddr => exact fin ((qF H.tab R ho h).post R) (fun c e => by rw [ho] at e; cases e)
 case field => exact fin ((yF H.tab R ho h).post R) (fun c e => by rw [ho] at e; cases e)
 case indexAddr => exact fin ((qG H.tab R ho h).post R) (fun c e => by rw [ho] at e; cases e)
 case index => exact fin ((yG H.tab R ho h).post R) (fun c e => by rw [ho] at e; cases e)
 case binOp => exact fin ((yH H.tab H.eqs R ho h).post R) (fun c e => by rw [ho] at e; cases e)
 case unOp => exact fin ((Bm R ho h).post R) (fun c e => by rw [ho] at e; cases e)
 case convert => exact fin ((uZ H.tab R ho h).post R) (fun c e => by rw [ho] at e; cases e)
 case extract => exact fin ((m7 R ho h).post R) (fun c e => by rw [ho] at e; cases e)
 case makeInterface => exact fin ((mu H.tab R ho h).post R) (fun c e => by rw [ho] at e; cases e)
 case lookup => exact fin ((wn H.tab R ho h).post R) (fun c e => by rw [ho] at e; cases e)
 case build => exact fin ((yJ H.tab R ho h).post R) (fun c e => by rw [ho] at e; cases e)
 case buildSlice => exact fin (pV H.tab R ho h) (fun c e => by rw [ho] at e; cases e)
 case slice => exact fin ((yM H.tab R ho h).post R) (fun c e => by rw [ho] at e; cases e)
 case makeSlice => exact fin (qK H.tab R ho h) (fun c e => by rw [ho] at e; cases e)
 case mapUpdate => exact fin (qN H.tab R ho h) (fun c e => by rw [ho] at e; cases e)
 case makeFunc g first caps =>
  cases g with
  | func n => exact fin ((s5 R ho h).post R) (fun c e => by rw [ho] at e; cases e)
  | _ => unfold aE at h; rw [ho] at h; cases h
 case makeMap t r =>
  cases r with
  | none => exact fin (u0 R ho h) (fun c e => by rw [ho] at e; cases e)
  | some x => unfold aE at h; rw [ho] at h; cases h
 case alloc t =>
  cases hd : o.dst with
  | none => unfold aE at h; rw [ho, hd] at h; dsimp only at h; cases hh : look C.tab t <;> rw [hh] at h <;> cases h
  | some d =>
   by_cases hesc : d ∈ C.esc f
   ·exact fin (yL H.tab R ho hd hesc h) (fun c e => by rw [ho] at e; cases e)
   ·exact absurd (by unfold kb; rw [ho]; exact ⟨d, hd, hesc⟩) hl
 case box t x =>
  cases hd : o.dst with
  | none => unfold aE at h; rw [ho, hd] at h; cases h
  | some d =>
   by_cases hesc : d ∈ C.esc f
   ·exact fin (CO R ho hd hesc h) (fun c e => by rw [ho] at e; cases e)
   ·exact absurd (by unfold kb; rw [ho]; exact ⟨d, hd, hesc⟩) hl
 case store t x y => exact fin (yN H.tab R ho (fun d off e => hl (by unfold kb; rw [ho]; exact ⟨d, off, e⟩)) h) (fun c e => by rw [ho] at e; cases e)
 case call c =>
  cases hc : c.callee with
  | builtin b => exact fin (nc H.tab R ho hc h) (fun c e => by rw [ho] at e; cases e)
  | value x => exact EV H R ho hc h hn
  | invoke r m =>
   unfold aE at h;rw [ho] at h;dsimp only at h
   split at h
   ·rw [hc] at h; cases h
   ·cases h
 all_goals (unfold aE at h; rw [ho] at h; cases h)
end Go.Ev
