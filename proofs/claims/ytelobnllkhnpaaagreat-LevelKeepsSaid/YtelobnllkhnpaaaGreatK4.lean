/- The tables of this seat's program for the evaluator, and the closed call Aw: it returns true. -/
import Derived.Test.YtelobnllkhnpaaaGreatK3
import Derived.Test.YtelobnllkhnpaaaGreatProg
import Derived.KernelRfl
set_option linter.unusedVariables false
set_option linter.unusedSimpArgs false
set_option maxHeartbeats 40000000
set_option maxRecDepth 1000000
namespace Go.Proofs.YtelobnllkhnpaaaGreat.E
open Go.Ev
def tab : wb := [
  (3, ⟨.int .i64, 1, 8, [.int .i64 0]⟩),
  (4, ⟨.bool, 1, 1, [.bool false]⟩),
  (5, ⟨.int .u8, 1, 1, [.int .u8 0]⟩),
  (9, ⟨.str, 1, 16, [.str ⟨#[]⟩]⟩),
  (22, ⟨.slice 111, 1, 24, [.nils]⟩),
  (23, ⟨.slice 64, 1, 24, [.nils]⟩),
  (25, ⟨.struct [(0, 3), (1, 22), (2, 23)], 3, 56, [.int .i64 0, .nils, .nils]⟩),
  (26, ⟨.slice 3, 1, 24, [.nils]⟩),
  (29, ⟨.slice 31, 1, 24, [.nils]⟩),
  (31, ⟨.struct [(0, 3), (1, 3), (2, 3), (3, 29)], 4, 48, [.int .i64 0, .int .i64 0, .int .i64 0, .nils]⟩),
  (33, ⟨.struct [(0, 3), (1, 31), (5, 31), (9, 3), (10, 3)], 11, 120, [.int .i64 0, .int .i64 0, .int .i64 0, .int .i64 0, .nils, .int .i64 0, .int .i64 0, .int .i64 0, .nils, .int .i64 0, .int .i64 0]⟩),
  (34, ⟨.int .i64, 1, 8, [.int .i64 0]⟩),
  (46, ⟨.slice 109, 1, 24, [.nils]⟩),
  (53, ⟨.slice 165, 1, 24, [.nils]⟩),
  (55, ⟨.struct [(0, 4), (1, 53)], 2, 32, [.bool false, .nils]⟩),
  (64, ⟨.struct [(0, 3), (1, 3), (2, 29), (3, 23), (4, 23)], 5, 88, [.int .i64 0, .int .i64 0, .nils, .nils, .nils]⟩),
  (69, ⟨.slice 72, 1, 24, [.nils]⟩),
  (72, ⟨.struct [(0, 3), (1, 3), (2, 3)], 3, 24, [.int .i64 0, .int .i64 0, .int .i64 0]⟩),
  (76, ⟨.map 3 4, 1, 8, [.nilm]⟩),
  (77, ⟨.map 3 3, 1, 8, [.nilm]⟩),
  (89, ⟨.slice 92, 1, 24, [.nils]⟩),
  (92, ⟨.struct [(0, 3), (1, 64)], 6, 96, [.int .i64 0, .int .i64 0, .int .i64 0, .nils, .nils, .nils]⟩),
  (98, ⟨.slice 102, 1, 24, [.nils]⟩),
  (102, ⟨.struct [(0, 92), (6, 26), (7, 3)], 8, 128, [.int .i64 0, .int .i64 0, .int .i64 0, .nils, .nils, .nils, .nils, .int .i64 0]⟩),
  (109, ⟨.struct [(0, 3), (1, 3), (2, 3)], 3, 24, [.int .i64 0, .int .i64 0, .int .i64 0]⟩),
  (111, ⟨.struct [(0, 9), (1, 3), (2, 3)], 3, 32, [.str ⟨#[]⟩, .int .i64 0, .int .i64 0]⟩),
  (116, ⟨.slice 162, 1, 24, [.nils]⟩),
  (120, ⟨.slice 26, 1, 24, [.nils]⟩),
  (149, ⟨.slice 4, 1, 24, [.nils]⟩),
  (159, ⟨.slice 218, 1, 24, [.nils]⟩),
  (160, ⟨.slice 224, 1, 24, [.nils]⟩),
  (162, ⟨.struct [(0, 3), (1, 26), (2, 159), (3, 160), (4, 3), (5, 3), (6, 3)], 7, 104, [.int .i64 0, .nils, .nils, .nils, .int .i64 0, .int .i64 0, .int .i64 0]⟩),
  (165, ⟨.struct [(0, 26), (1, 26)], 2, 48, [.nils, .nils]⟩),
  (170, ⟨.struct [(0, 3), (1, 22), (2, 3)], 3, 40, [.int .i64 0, .nils, .int .i64 0]⟩),
  (173, ⟨.struct [(0, 3), (1, 3)], 2, 16, [.int .i64 0, .int .i64 0]⟩),
  (176, ⟨.func, 1, 8, [.nilf]⟩),
  (195, ⟨.struct [(0, 162), (7, 3), (8, 89), (9, 4)], 10, 144, [.int .i64 0, .nils, .nils, .nils, .int .i64 0, .int .i64 0, .int .i64 0, .int .i64 0, .nils, .bool false]⟩),
  (218, ⟨.struct [(0, 3), (1, 3)], 2, 16, [.int .i64 0, .int .i64 0]⟩),
  (219, ⟨.map 9 4, 1, 8, [.nilm]⟩),
  (220, ⟨.int .u64, 1, 8, [.int .u64 0]⟩),
  (224, ⟨.struct [(0, 3), (1, 3), (2, 3)], 3, 24, [.int .i64 0, .int .i64 0, .int .i64 0]⟩)]
def C9 : List Nat := [3, 4, 5, 9, 22, 23, 25, 26, 29, 31, 33, 34, 46, 53, 55, 64, 69, 72, 76, 77, 89, 92, 98, 102, 109, 111, 116, 120, 149, 159, 160, 162, 165, 170, 173, 176, 195, 218, 219, 220, 224]
def esc : Nat → List Nat
  | 11 => [11]
  | 49 => [9, 11]
  | 81 => [11]
  | 7 => [4, 5, 14, 17, 18, 20]
  | 16 => [6]
  | 30 => [3, 4, 5]
  | 31 => [3]
  | 37 => [3]
  | 40 => [6, 7, 8]
  | 59 => [5, 6]
  | 72 => [2, 3]
  | 74 => [1]
  | 76 => [1]
  | 111 => [5]
  | 112 => [2]
  | 113 => [3]
  | 116 => [2]
  | _ => []
def live : Nat → Nat → Option (List Nat)
  | 7, 7 => some [3, 4, 5, 6, 35, 36, 37]
  | 7, 15 => some [3, 4, 5, 6, 14, 73]
  | 9, 3 => some [1, 5, 6]
  | 11, 3 => some [1, 2, 3, 6, 8, 9, 10]
  | 11, 10 => some [1, 2, 3, 6, 11, 13, 14]
  | 17, 3 => some [1, 3, 4]
  | 19, 9 => some [3, 5, 6, 8, 10, 11, 12]
  | 20, 2 => some [0, 1, 5]
  | 20, 6 => some [0, 1, 5, 6]
  | 26, 4 => some [0, 1, 5]
  | 27, 3 => some [0, 3, 4]
  | 28, 4 => some [0, 1, 5]
  | 36, 5 => some [0, 5, 17, 18, 19]
  | 39, 5 => some [1, 2, 4, 5, 14, 15, 16]
  | 40, 7 => some [5, 6, 8, 10, 12, 13, 14, 31, 32, 33]
  | 41, 3 => some [3, 7, 8, 9]
  | 43, 2 => some [1, 3]
  | 46, 4 => some [2, 3, 5]
  | 47, 4 => some [4, 5, 6, 7]
  | 48, 2 => some [0, 1, 5]
  | 52, 3 => some [3, 5, 6]
  | 54, 5 => some [1, 2, 4, 5, 6]
  | 58, 3 => some [0, 3, 4]
  | 61, 3 => some [0, 5, 8, 9, 10]
  | 63, 5 => some [1, 2, 6, 7]
  | 64, 3 => some [0, 1, 5, 6]
  | 65, 3 => some [1, 2, 3, 7, 8]
  | 66, 3 => some [0, 2, 7, 8]
  | 67, 9 => some [3, 4, 5, 9, 10]
  | 68, 3 => some [0, 3, 4]
  | 69, 3 => some [0, 1, 3, 9, 10]
  | 70, 5 => some [2, 5, 6]
  | 72, 4 => some [1, 2, 3, 12, 13, 14]
  | 75, 4 => some [1, 2, 3, 4, 14, 15, 16]
  | 75, 9 => some [1, 2, 3, 4, 27, 28, 29]
  | 77, 3 => some [1, 2, 3, 4, 24, 25, 26]
  | 77, 17 => some [1, 2, 3, 4, 13, 14, 24, 25, 26]
  | 78, 2 => some [0, 1, 7, 8]
  | 81, 4 => some [1, 4, 6, 7, 13, 14, 15]
  | 81, 8 => some [1, 4, 6, 7, 8, 9, 13, 14, 15, 25, 26]
  | 84, 5 => some [1, 5, 6]
  | 85, 3 => some [0, 3, 4]
  | 86, 2 => some [0, 1, 2, 7]
  | 86, 7 => some [0, 1, 2, 7, 8]
  | 87, 2 => some [0, 3]
  | 88, 3 => some [0, 3, 4]
  | 89, 3 => some [0, 1, 5, 6]
  | 93, 3 => some [0, 3, 5, 6]
  | 94, 3 => some [0, 1, 2, 3, 8, 10, 11, 12]
  | 94, 6 => some [0, 1, 2, 3, 8, 10, 11, 12, 13]
  | 95, 3 => some [0, 1, 5, 6]
  | 96, 3 => some [0, 1, 2, 3, 10, 11]
  | 97, 4 => some [1, 2, 5]
  | 99, 3 => some [0, 1, 5, 6]
  | 100, 1 => some [1, 2, 3, 4, 14, 15, 16]
  | 104, 3 => some [1, 2, 5, 6]
  | 105, 2 => some [3, 5, 6, 7]
  | 108, 2 => some [0, 3]
  | 109, 2 => some [0, 3]
  | 114, 2 => some [1, 2, 9, 10, 11]
  | 115, 3 => some [3, 6, 7, 8]
  | 118, 3 => some [1, 5, 10, 11]
  | 120, 4 => some [0, 1, 12, 13]
  | 122, 2 => some [0, 1, 7, 8]
  | 125, 4 => some [0, 3]
  | 126, 2 => some [0, 1, 5]
  | 130, 3 => some [0, 3, 4]
  | 131, 5 => some [0, 3, 5, 6]
  | 133, 14 => some [0, 1, 2, 7, 10]
  | 134, 3 => some [1, 3, 4]
  | 135, 4 => some [0, 1, 2, 7, 9]
  | 138, 6 => some [1, 3, 4, 6, 10]
  | 139, 3 => some [0, 3, 4]
  | 142, 12 => some [1, 3, 5, 6, 7, 8, 9, 10]
  | 146, 4 => some [0, 1, 5]
  | 147, 3 => some [0, 1, 5, 6]
  | 149, 6 => some [5, 6, 26, 27, 28]
  | 150, 14 => some [2, 3, 4, 75, 76, 77]
  | 151, 4 => some [0, 3, 5, 20, 21, 22]
  | 151, 13 => some [0, 3, 5, 10, 20, 21, 22, 80, 81, 82]
  | 159, 3 => some [0, 1, 5, 6]
  | 161, 2 => some [0, 1, 7, 8]
  | 164, 3 => some [1, 3, 4]
  | 165, 3 => some [0, 1, 2, 7, 9, 10]
  | 167, 3 => some [0, 1, 2, 3, 9, 10]
  | 169, 4 => some [0, 1, 5]
  | 170, 4 => some [0, 1, 5]
  | 171, 4 => some [0, 3]
  | 174, 3 => some [3, 7, 8, 9]
  | 181, 3 => some [0, 3, 4]
  | _, _ => none
def fz : Nat → List Nat
  | 6 => [16, 18, 20, 22, 37, 39, 56, 67, 81, 92, 103]
  | 11 => [102]
  | 17 => [19]
  | 21 => [5]
  | 27 => [28]
  | 33 => [67]
  | 38 => [7]
  | 39 => [24]
  | 40 => [39]
  | 41 => [16]
  | 53 => [7]
  | 54 => [33]
  | 60 => [32]
  | 65 => [23]
  | 67 => [43]
  | 68 => [17]
  | 75 => [23, 36]
  | 81 => [43]
  | 88 => [16]
  | 89 => [20]
  | 91 => [14]
  | 95 => [20]
  | 101 => [16]
  | 104 => [19]
  | 115 => [18]
  | 123 => [17]
  | 132 => [21]
  | 138 => [21, 47]
  | 139 => [16]
  | 142 => [65, 68]
  | 147 => [25]
  | 156 => [21]
  | 159 => [23]
  | 165 => [42, 60]
  | 166 => [85, 101]
  | 167 => [25]
  | 178 => [16]
  | _ => []
def Gk (n : Nat) : Bool := Nat.beq (Nat.mod (Nat.div 1606987084113370698009450554715796418827173824655123468517304 (Nat.pow 2 n)) 2) 1
def nz (n : Nat) : Option Nz := Go.Ev.look [(75, (⟨0, [0, 0, 4, 5, 5]⟩ : Nz)), (38, (⟨0, [0, 0, 0, 4]⟩ : Nz)), (123, (⟨0, [0, 0, 0, 4]⟩ : Nz)), (81, (⟨0, [0, 0, 0, 4]⟩ : Nz)), (132, (⟨0, [0, 0, 0, 4]⟩ : Nz)), (53, (⟨0, [0, 0, 0, 4]⟩ : Nz)), (156, (⟨0, [0, 0, 0, 4]⟩ : Nz)), (94, (⟨0, [0, 0, 0, 4]⟩ : Nz)), (23, (⟨0, [0, 0, 0, 4]⟩ : Nz)), (22, (⟨0, [0, 0, 0, 4]⟩ : Nz)), (25, (⟨0, [0, 0, 0, 4]⟩ : Nz)), (40, (⟨0, [0, 0, 0, 0, 4, 0, 0, 0, 4, 0, 0]⟩ : Nz)), (62, (⟨0, [0, 0, 0, 0, 4, 0, 0, 0, 4, 0, 0]⟩ : Nz)), (7, (⟨0, [0, 0, 0, 0, 4, 0, 0, 0, 4, 0, 0]⟩ : Nz)), (49, (⟨0, [0, 0, 0, 0, 4, 0, 0, 0, 4, 0, 0]⟩ : Nz)), (11, (⟨0, [0, 0, 0, 0, 4, 0, 0, 0, 4, 0, 0]⟩ : Nz)), (115, (⟨4, []⟩ : Nz)), (54, (⟨0, [0, 0, 0, 4]⟩ : Nz)), (39, (⟨0, [0, 0, 0, 4]⟩ : Nz))] n
def vw (n : Nat) : Bool := [36, 61, 120].contains n
def nb : Nat → Nat → List Nat
  | 123, 31 => [0, 0, 0, 4]
  | 40, 31 => [0, 0, 0, 4]
  | 40, 33 => [0, 0, 0, 0, 4, 0, 0, 0, 4, 0, 0]
  | _, _ => []
def BB : dO := { tab := tab, esc := esc, live := live, eqs := [72, 109, 111], cut := Gk, fz := fz, nz := nz, vw := vw, nb := nb }
/-- What Aw comes to, whatever lies in the evaluator's heap. -/
def orc (_ : Nat) (g : Fn) (vs : List AV) (h : aj) : Option (AV × aj) :=
  match g, vs with
  | .func 6, [] => some (.bool true, h)
  | _, _ => none
def ba : dO := { BB with orc := orc }
def zd : Option (AV × aj) → Bool
  | some (.bool b, _) => b
  | _ => false
theorem wI {x : Option (AV × aj)} (h : zd x = true) : ∃ h', x = some (.bool true, h') := by
  unfold zd at h
  split at h
  · subst h; exact ⟨_, rfl⟩
  · cases h
theorem GN : wA Tryz.prog C9 = tab := by kernel_rfl
theorem ze : wC Tryz.prog BB = true := by kernel_rfl
theorem zf : l5 Tryz.prog BB := ⟨by show ck _ tab; rw [← GN]; exact rf _, ze, wD⟩
theorem Da : zd (call Tryz.prog BB 300 0 (.func 6) [] []) = true := by kernel_rfl
theorem Aw (w : World) : Calls Tryz.prog 6 #[] w (fun | .returned v, w' => v = .bool true ∧ RowKit.Below w.heap.size w w' | _, _ => False) := by
  obtain ⟨h', h⟩ := wI Da
  exact zf.closed h w
end Go.Proofs.YtelobnllkhnpaaaGreat.E
