/- Expressions and programs as data; the level laws' functions on them. -/
import Derived.Test.YtelobnllkhnpaaaEvSym
namespace Go.Ev
set_option linter.unusedVariables false
set_option linter.unusedSimpArgs false

inductive Ex' where
  | mk (op n copy : Int) (args : List Ex')
def Ex'.args : Ex' → List Ex' | .mk _ _ _ l => l

mutual
def exC : Ex' → List AV
  | .mk op n c l => [.int .i64 op, .int .i64 n, .int .i64 c, .vs 4 (exsC l)]
def exsC : List Ex' → List (List AV)
  | [] => []
  | e :: l => exC e :: exsC l
end

theorem exsC_len : ∀ l : List Ex', (exsC l).length = l.length
  | [] => rfl
  | _ :: l => by simp [exsC, exsC_len l]
theorem exsC_get : ∀ (l : List Ex') (i : Nat) (e : Ex'), l[i]? = some e → (exsC l)[i]? = some (exC e)
  | [], i, e, h => by simp at h
  | a :: l, 0, e, h => by simp at h; subst h; rfl
  | a :: l, i + 1, e, h => by simp at h; simpa [exsC] using exsC_get l i e h

-- ref02.Left
mutual
def leftE : Ex' → Int → Int
  | .mk _ _ _ l, m => if m < 1 then 0 else leftEs l (IntKind.i64.wrap (m - 1))
def leftEs : List Ex' → Int → Int
  | [], m => m
  | e :: l, m => leftEs l (leftE e m)
end

-- How deep a call may go.
mutual
def exK : Ex' → Nat
  | .mk _ _ _ l => exsK l + 1
def exsK : List Ex' → Nat
  | [] => 1
  | e :: l => exK e + exsK l
end

-- Lists that memory can hold.
mutual
def exB : Ex' → Prop
  | .mk _ _ _ l => l.length < 9223372036854775808 ∧ exsB l
def exsB : List Ex' → Prop
  | [] => True
  | e :: l => exB e ∧ exsB l
end
theorem exsB_mem : ∀ (l : List Ex') (i : Nat) (e : Ex'), exsB l → l[i]? = some e → exB e
  | [], i, e, _, h => by simp at h
  | a :: l, 0, e, hb, h => by simp at h; subst h; exact hb.1
  | a :: l, i + 1, e, hb, h => by simp at h; exact exsB_mem l i e hb.2 h

theorem exK_pos (e : Ex') : 2 ≤ exK e := by
  cases e with
  | mk op m cp l =>
    rw [exK]
    cases l with
    | nil => simp [exsK]
    | cons a l =>
      rw [exsK]
      have : 1 ≤ exK a := by cases a; rw [exK]; omega
      omega
theorem exsK_len : ∀ l : List Ex', l.length < exsK l
  | [] => by simp [exsK]
  | e :: l => by
    have := exK_pos e
    have := exsK_len l
    rw [exsK, List.length_cons]; omega
theorem exsK_mem : ∀ (l : List Ex') (i : Nat) (e : Ex'), l[i]? = some e → exK e ≤ exsK l
  | [], i, e, h => by simp at h
  | a :: l, 0, e, h => by simp at h; subst h; rw [exsK]; omega
  | a :: l, i + 1, e, h => by
    simp at h
    have := exsK_mem l i e h
    rw [exsK]; omega
theorem exsK_pos : ∀ l : List Ex', 1 ≤ exsK l
  | [] => by simp [exsK]
  | e :: l => by have := exsK_pos l; rw [exsK]; omega
theorem exsK_mem1 : ∀ (l : List Ex') (i : Nat) (e : Ex'), l[i]? = some e → exK e + 1 ≤ exsK l
  | [], i, e, h => by simp at h
  | a :: l, 0, e, h => by simp at h; subst h; rw [exsK]; have := exsK_pos l; omega
  | a :: l, i + 1, e, h => by
    simp at h
    have := exsK_mem1 l i e h
    rw [exsK]; omega
theorem take_succ_of {α : Type} {l : List α} {i : Nat} {e : α} (h : l[i]? = some e) : l.take (i + 1) = l.take i ++ [e] := by
  rw [List.take_add_one, h]; rfl
theorem wrap_small {n : Int} (h1 : -9223372036854775808 ≤ n) (h2 : n < 9223372036854775808) : IntKind.i64.wrap n = n := by
  have e1 : IntKind.i64.bits = 64 := rfl
  have e2 : IntKind.i64.signed = true := rfl
  simp only [IntKind.wrap, e1, e2, if_true]
  try (rw [Int.bmod_def])
  try (simp)
  try omega

inductive Sm' where
  | mk (op n : Int) (args : List Ex') (thn els : List Sm')

mutual
def smC : Sm' → List AV
  | .mk op n a t e => [.int .i64 op, .int .i64 n, .vs 4 (exsC a), .vs 5 (smsC t), .vs 5 (smsC e)]
def smsC : List Sm' → List (List AV)
  | [] => []
  | s :: l => smC s :: smsC l
end
theorem smsC_len : ∀ l : List Sm', (smsC l).length = l.length
  | [] => rfl
  | _ :: l => by simp [smsC, smsC_len l]
theorem smsC_get : ∀ (l : List Sm') (i : Nat) (e : Sm'), l[i]? = some e → (smsC l)[i]? = some (smC e)
  | [], i, e, h => by simp at h
  | a :: l, 0, e, h => by simp at h; subst h; rfl
  | a :: l, i + 1, e, h => by simp at h; simpa [smsC] using smsC_get l i e h

-- ref03.left
mutual
def leftS1 : Sm' → Int → Int
  | .mk _ _ a t e, m => leftSs e (leftSs t (leftEs a (IntKind.i64.wrap (m - 1))))
def leftSs : List Sm' → Int → Int
  | [], m => m
  | s :: l, m => if m > 0 then leftSs l (leftS1 s m) else m
end

-- How deep a call may go.
mutual
def smK : Sm' → Nat
  | .mk _ _ a t e => exsK a + smsK t + smsK e + 1
def smsK : List Sm' → Nat
  | [] => 2
  | s :: l => smK s + smsK l
end
mutual
def smB : Sm' → Prop
  | .mk _ _ a t e => (a.length < 9223372036854775808 ∧ exsB a) ∧ (t.length < 9223372036854775808 ∧ smsB t) ∧ e.length < 9223372036854775808 ∧ smsB e
def smsB : List Sm' → Prop
  | [] => True
  | s :: l => smB s ∧ smsB l
end
theorem smsB_mem : ∀ (l : List Sm') (i : Nat) (e : Sm'), smsB l → l[i]? = some e → smB e
  | [], i, e, _, h => by simp at h
  | a :: l, 0, e, hb, h => by simp at h; subst h; exact hb.1
  | a :: l, i + 1, e, hb, h => by simp at h; exact smsB_mem l i e hb.2 h
theorem smK_pos (s : Sm') : 2 ≤ smK s := by
  obtain ⟨op, n, a, t, e⟩ := s
  rw [smK]
  have := exsK_len a
  omega
theorem smsK_len : ∀ l : List Sm', l.length + 1 < smsK l
  | [] => by simp [smsK]
  | e :: l => by
    have := smK_pos e
    have := smsK_len l
    rw [smsK, List.length_cons]; omega
theorem smsK_mem : ∀ (l : List Sm') (i : Nat) (e : Sm'), l[i]? = some e → smK e ≤ smsK l
  | [], i, e, h => by simp at h
  | a :: l, 0, e, h => by simp at h; subst h; rw [smsK]; omega
  | a :: l, i + 1, e, h => by
    simp at h
    have := smsK_mem l i e h
    rw [smsK]; omega

theorem smsK_pos : ∀ l : List Sm', 2 ≤ smsK l
  | [] => by simp [smsK]
  | e :: l => by have := smsK_pos l; rw [smsK]; omega
theorem smsK_mem2 : ∀ (l : List Sm') (i : Nat) (e : Sm'), l[i]? = some e → smK e + 2 ≤ smsK l
  | [], i, e, h => by simp at h
  | a :: l, 0, e, h => by simp at h; subst h; rw [smsK]; have := smsK_pos l; omega
  | a :: l, i + 1, e, h => by
    simp at h
    have := smsK_mem2 l i e h
    rw [smsK]; omega

theorem leftSs_eq : ∀ (l : List Sm') (m : Int), leftSs l m = wfold leftS1 (fun m => decide (m > 0)) l m
  | [], m => by rw [leftSs]; rfl
  | s :: l, m => by
    rw [leftSs, wfold]
    simp only [decide_eq_true_eq]
    split
    · exact leftSs_eq l _
    · rfl
theorem leftEs_snoc : ∀ (l : List Ex') (e : Ex') (n : Int), leftEs (l ++ [e]) n = leftE e (leftEs l n)
  | [], e, n => by simp [leftEs]
  | a :: l, e, n => by simp [leftEs, leftEs_snoc l e]

structure Vr' where
  name : ByteArray
  level : Int
  cells : Int
def vrC (v : Vr') : List AV := [.str v.name, .int .i64 v.level, .int .i64 v.cells]
def vrB (v : Vr') : Prop := v.name.size < 9223372036854775808
structure Pr' where
  width : Int
  vars : List Vr'
  body : List Sm'
def prC (p : Pr') : List AV := [.int .i64 p.width, .vs 3 (p.vars.map vrC), .vs 5 (smsC p.body)]
def prB (p : Pr') : Prop := (p.vars.length < 9223372036854775808 ∧ ∀ v, v ∈ p.vars → vrB v) ∧ p.body.length < 9223372036854775808 ∧ smsB p.body

end Go.Ev
