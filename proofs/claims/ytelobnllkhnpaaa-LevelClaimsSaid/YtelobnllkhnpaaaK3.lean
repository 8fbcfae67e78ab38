/- The tables of this seat's program for the evaluator, and the closed call awake: it returns true. -/
import Derived.Test.YtelobnllkhnpaaaK2
import Derived.Test.YtelobnllkhnpaaaProg
import Derived.KernelRfl
namespace Go.Proofs.Ytelobnllkhnpaaa.E
open Go.Ev
def tab : Tab := [
  (3, ⟨.int .i64, 1, 8, [.int .i64 0]⟩),
  (4, ⟨.bool, 1, 1, [.bool false]⟩),
  (5, ⟨.int .u8, 1, 1, [.int .u8 0]⟩),
  (9, ⟨.str, 1, 16, [.str ⟨#[]⟩]⟩),
  (22, ⟨.slice 76, 1, 24, [.nils]⟩),
  (23, ⟨.slice 86, 1, 24, [.nils]⟩),
  (25, ⟨.struct [(0, 3), (1, 22), (2, 23)], 3, 56, [.int .i64 0, .nils, .nils]⟩),
  (26, ⟨.slice 28, 1, 24, [.nils]⟩),
  (28, ⟨.struct [(0, 3), (1, 3), (2, 3), (3, 26)], 4, 48, [.int .i64 0, .int .i64 0, .int .i64 0, .nils]⟩),
  (32, ⟨.int .i64, 1, 8, [.int .i64 0]⟩),
  (38, ⟨.slice 3, 1, 24, [.nils]⟩),
  (41, ⟨.slice 94, 1, 24, [.nils]⟩),
  (45, ⟨.slice 89, 1, 24, [.nils]⟩),
  (60, ⟨.slice 4, 1, 24, [.nils]⟩),
  (67, ⟨.struct [(0, 3), (1, 28), (5, 28), (9, 3), (10, 3)], 11, 120, [.int .i64 0, .int .i64 0, .int .i64 0, .int .i64 0, .nils, .int .i64 0, .int .i64 0, .int .i64 0, .nils, .int .i64 0, .int .i64 0]⟩),
  (76, ⟨.struct [(0, 9), (1, 3), (2, 3)], 3, 32, [.str ⟨#[]⟩, .int .i64 0, .int .i64 0]⟩),
  (78, ⟨.int .u64, 1, 8, [.int .u64 0]⟩),
  (86, ⟨.struct [(0, 3), (1, 3), (2, 26), (3, 23), (4, 23)], 5, 88, [.int .i64 0, .int .i64 0, .nils, .nils, .nils]⟩),
  (89, ⟨.struct [(0, 3), (1, 3), (2, 3)], 3, 24, [.int .i64 0, .int .i64 0, .int .i64 0]⟩),
  (94, ⟨.struct [(0, 3), (1, 3), (2, 3)], 3, 24, [.int .i64 0, .int .i64 0, .int .i64 0]⟩),
  (96, ⟨.slice 105, 1, 24, [.nils]⟩),
  (101, ⟨.slice 107, 1, 24, [.nils]⟩),
  (105, ⟨.struct [(0, 3), (1, 86)], 6, 96, [.int .i64 0, .int .i64 0, .int .i64 0, .nils, .nils, .nils]⟩),
  (107, ⟨.struct [(0, 105), (6, 38), (7, 3)], 8, 128, [.int .i64 0, .int .i64 0, .int .i64 0, .nils, .nils, .nils, .nils, .int .i64 0]⟩),
  (117, ⟨.map 3 3, 1, 8, [.nilm]⟩),
  (132, ⟨.struct [(0, 3), (1, 22), (2, 3)], 3, 40, [.int .i64 0, .nils, .int .i64 0]⟩),
  (168, ⟨.func, 1, 8, [.nilf]⟩),
  (173, ⟨.struct [(0, 3), (1, 3)], 2, 16, [.int .i64 0, .int .i64 0]⟩),
  (177, ⟨.map 9 4, 1, 8, [.nilm]⟩)]
def tabTypes : List Nat := [3, 4, 5, 9, 22, 23, 25, 26, 28, 32, 38, 41, 45, 60, 67, 76, 78, 86, 89, 94, 96, 101, 105, 107, 117, 132, 168, 173, 177]

def esc : Nat → List Nat
  | 36 => [9, 11]
  | 102 => [11]
  | 70 => [3]
  | 98 => [5]
  | 26 => [7]
  | 23 => [6]
  | 54 => [5, 6]
  | 71 => [3]
  | 74 => [6, 7, 8]
  | 81 => [2, 3]
  | 82 => [5]
  | 99 => [1]
  | 108 => [1]
  | 126 => [2]
  | 131 => [2]
  | 132 => [3]
  | _ => []
def live : Nat → Nat → Option (List Nat)
  | 9, 8 => some [1, 2, 5, 7, 10]
  | 17, 5 => some [0, 3, 5, 6]
  | 18, 3 => some [1, 3, 4]
  | 20, 4 => some [0, 1, 5]
  | 21, 3 => some [0, 3, 4]
  | 24, 4 => some [4, 5, 6, 7]
  | 25, 4 => some [0, 1, 5]
  | 26, 8 => some [1, 4, 7, 37, 38]
  | 27, 2 => some [1, 2, 3, 7]
  | 30, 3 => some [1, 4, 5, 6]
  | 31, 8 => some [1, 2, 8, 30, 31]
  | 31, 14 => some [1, 2, 8, 10]
  | 31, 18 => some [1, 2, 8, 10, 52, 53, 54]
  | 32, 3 => some [1, 2, 6, 7]
  | 32, 7 => some [1, 2, 6]
  | 38, 3 => some [0, 3, 4]
  | 39, 2 => some [0, 1, 5]
  | 39, 6 => some [0, 1, 5, 6]
  | 40, 5 => some [2, 5, 6]
  | 47, 5 => some [0, 5, 17, 18, 19]
  | 48, 3 => some [3, 7, 8, 9]
  | 50, 2 => some [1, 3]
  | 51, 3 => some [1, 3, 4]
  | 52, 4 => some [0, 1, 2, 7, 9]
  | 55, 3 => some [0, 1, 2, 7, 8]
  | 56, 3 => some [0, 1, 5, 6]
  | 59, 3 => some [0, 5, 8, 9, 10]
  | 63, 3 => some [0, 3, 5, 6]
  | 67, 3 => some [3, 6, 7, 8]
  | 68, 4 => some [0, 1, 5]
  | 69, 4 => some [0, 1, 5]
  | 70, 3 => some [1, 2, 3, 4]
  | 72, 2 => some [0, 1, 2, 3, 9]
  | 74, 7 => some [5, 6, 8, 10, 12, 13, 14, 31, 32, 33]
  | 76, 4 => some [2, 3, 5]
  | 79, 3 => some [0, 1, 2, 3, 8, 10, 11, 12]
  | 79, 6 => some [0, 1, 2, 3, 8, 10, 11, 12, 13]
  | 80, 3 => some [0, 1, 5, 6]
  | 81, 4 => some [1, 2, 3, 12, 13, 14]
  | 83, 5 => some [1, 5, 6]
  | 84, 3 => some [0, 3, 4]
  | 85, 2 => some [0, 1, 2, 7]
  | 85, 7 => some [0, 1, 2, 7, 8]
  | 86, 2 => some [0, 3]
  | 88, 1 => some [1, 2, 3, 4, 14, 15, 16]
  | 92, 3 => some [0, 3, 4]
  | 93, 3 => some [1, 2, 3, 4, 24, 25, 26]
  | 93, 17 => some [1, 2, 3, 4, 13, 14, 24, 25, 26]
  | 94, 3 => some [0, 1, 2, 3, 10, 11]
  | 95, 2 => some [0, 1, 7, 8]
  | 96, 3 => some [3, 6, 7, 8]
  | 98, 3 => some [0, 3, 4]
  | 98, 7 => some [0, 3, 4, 5, 6]
  | 102, 4 => some [1, 4, 6, 7, 13, 14, 15]
  | 102, 8 => some [1, 4, 6, 7, 8, 9, 13, 14, 15, 25, 26]
  | 109, 6 => some [5, 6, 26, 27, 28]
  | 110, 14 => some [2, 3, 4, 75, 76, 77]
  | 112, 4 => some [0, 3]
  | 113, 2 => some [0, 1, 5]
  | 119, 3 => some [1, 5, 10, 11]
  | 121, 4 => some [0, 1, 12, 13]
  | 123, 14 => some [0, 1, 2, 7, 10]
  | 124, 4 => some [0, 1, 5]
  | 125, 3 => some [1, 2, 3, 4]
  | 127, 4 => some [1, 2, 3, 4, 14, 15, 16]
  | 127, 9 => some [1, 2, 3, 4, 27, 28, 29]
  | 133, 2 => some [1, 2, 9, 10, 11]
  | 134, 4 => some [0, 3]
  | 141, 3 => some [0, 3, 4]
  | 143, 3 => some [0, 1, 5, 6]
  | 144, 3 => some [3, 6, 7, 8]
  | 145, 4 => some [0, 3, 5, 20, 21, 22]
  | 145, 13 => some [0, 3, 5, 10, 20, 21, 22, 80, 81, 82]
  | 148, 3 => some [3, 7, 8, 9]
  | _, _ => none
def fz : Nat → List Nat
  | 13 => [16, 18, 20, 22, 37, 39, 56, 67, 81, 92, 103]
  | 18 => [19]
  | 21 => [28]
  | 38 => [16]
  | 41 => [5]
  | 48 => [16]
  | 56 => [20]
  | 58 => [32]
  | 62 => [14]
  | 67 => [26]
  | 70 => [25]
  | 74 => [39]
  | 80 => [20]
  | 89 => [16]
  | 96 => [18]
  | 98 => [57]
  | 102 => [43]
  | 105 => [21]
  | 106 => [7]
  | 125 => [27]
  | 127 => [23, 36]
  | 128 => [7]
  | 129 => [17]
  | 130 => [21]
  | 143 => [23]
  | 144 => [18]
  | _ => []


def isCut (n : Nat) : Bool := Nat.beq (Nat.mod (Nat.div 23384695203224133688806204008177759348008488525816 (Nat.pow 2 n)) 2) 1

def nz (n : Nat) : Option Nz := Go.Ev.look [(127, (⟨0, [0, 0, 4, 5, 5]⟩ : Nz)), (128, (⟨0, [0, 0, 0, 4]⟩ : Nz)), (129, (⟨0, [0, 0, 0, 4]⟩ : Nz)), (102, (⟨0, [0, 0, 0, 4]⟩ : Nz)), (105, (⟨0, [0, 0, 0, 4]⟩ : Nz)), (106, (⟨0, [0, 0, 0, 4]⟩ : Nz)), (130, (⟨0, [0, 0, 0, 4]⟩ : Nz)), (79, (⟨0, [0, 0, 0, 4]⟩ : Nz)), (43, (⟨0, [0, 0, 0, 4]⟩ : Nz)), (42, (⟨0, [0, 0, 0, 4]⟩ : Nz)), (44, (⟨0, [0, 0, 0, 4]⟩ : Nz)), (74, (⟨0, [0, 0, 0, 0, 4, 0, 0, 0, 4, 0, 0]⟩ : Nz)), (33, (⟨0, [0, 0, 0, 0, 4, 0, 0, 0, 4, 0, 0]⟩ : Nz)), (36, (⟨0, [0, 0, 0, 0, 4, 0, 0, 0, 4, 0, 0]⟩ : Nz)), (67, (⟨5, []⟩ : Nz)), (96, (⟨4, []⟩ : Nz)), (144, (⟨4, []⟩ : Nz)), (125, (⟨0, [0, 0, 0, 4]⟩ : Nz)), (98, (⟨5, [0, 0, 4, 0, 0]⟩ : Nz))] n
def vw (n : Nat) : Bool := [47, 59, 121].contains n
def nb : Nat → Nat → List Nat
  | 129, 28 => [0, 0, 0, 4]
  | 74, 28 => [0, 0, 0, 4]
  | 74, 67 => [0, 0, 0, 0, 4, 0, 0, 0, 4, 0, 0]
  | _, _ => []
def cfg0 : Cfg := { tab := tab, esc := esc, live := live, eqs := [89, 94, 76], cut := isCut, fz := fz, nz := nz, vw := vw, nb := nb }
/-- What awake comes to, whatever lies in the evaluator's heap. -/
def orc (_ : Nat) (g : Fn) (vs : List AV) (h : Heap) : Option (AV × Heap) :=
  match g, vs with
  | .func 13, [] => some (.bool true, h)
  | _, _ => none
def cfg : Cfg := { cfg0 with orc := orc }
def isTrue : Option (AV × Heap) → Bool
  | some (.bool b, _) => b
  | _ => false
theorem isTrue_spec {x : Option (AV × Heap)} (h : isTrue x = true) : ∃ h', x = some (.bool true, h') := by
  unfold isTrue at h
  split at h
  · subst h; exact ⟨_, rfl⟩
  · cases h
set_option maxRecDepth 1000000
theorem tab_eq : tabOf Try.prog tabTypes = tab := by kernel_rfl
theorem cfg_ok : cfgOk Try.prog cfg0 = true := by kernel_rfl
theorem sound0 : Sound Try.prog cfg0 := ⟨by show TabOk _ tab; rw [← tab_eq]; exact tabOf_ok _, cfg_ok, soundK_none⟩
theorem awakeRun : isTrue (call Try.prog cfg0 300 0 (.func 13) [] []) = true := by kernel_rfl
theorem awake (w : World) : Calls Try.prog 13 #[] w (fun | .returned v, w' => v = .bool true ∧ RowKit.Below w.heap.size w w' | _, _ => False) := by
  obtain ⟨h', h⟩ := isTrue_spec awakeRun
  exact sound0.closed h w
end Go.Proofs.Ytelobnllkhnpaaa.E
