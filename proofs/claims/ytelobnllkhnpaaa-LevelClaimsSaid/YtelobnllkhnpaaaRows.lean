/-
  NARROWER THAN 'FOR EVERY INPUT', by the rows' own cells (each row's printed sentence says how): LevelExprs: loops · LevelFixed: loops · LevelMoves: loops · LevelRelabels: loops · LevelInfers: loops · LevelClaims: loops · LevelMore: loops · LevelLess: loops.
  DERIVED. THE GIVEN ROWS OF THIS SEAT. 8 by the template 'for every input the law returns true; each argument reads behind the call as it read before'; 0 by the template 'total and deterministic' (their statements: YtelobnllkhnpaaaTotals.lean).
  GIVEN WITH THE SEED: the statements are not yours to turn. If you find one false, say at which input.
  Laid BY PROGRAM, IN A SANDBOX (cutbox-rows.mjs): the forced cells as the released guide's own fill.sh prints them over the translation d4c7664c3185f7bb… (all of the seat's roots in one cut). By AI agents, Wed Nov 11 2026. No macro, syntax, notation, axiom, sorry.
-/
import Derived.Test.YtelobnllkhnpaaaChecked
import GoSem.Claim
import GoSem.ClaimJoined
import GoSem.ClaimMapViews
import Derived.JoinedTies
import Derived.KernelRfl
namespace Go.Proofs.Ytelobnllkhnpaaa
/- THE CELL 'sum', in the pinned program and in every row, IS THE sha256 OF THE DUMP (.gsa) THAT YtelobnllkhnpaaaProg.lean LOADS. Nothing in Lean hashes anything: it is a label: what it is worth is what the hold of that sum in a sandbox is worth. -/
noncomputable def Try.pinned : Pinned := { name := "ytelobnllkhnpaaa", sum := "d4c7664c3185f7bb3197a20215809f55674dd5777776f84c3b16e68cef58512d", checked := Try.checked }
namespace Rows
def none {H : Type} : Left H := { results := [], args := [] }

/-- 'stereopsislaw21.LevelExprs': WHATEVER THE INPUT: true; the input reads as it did. -/
def levelExprsSpec : ChangeSpec := { name := "levelExprs", fn := fun _ => fun
  | [d1, d2] => { results := [.lit (.bool true)], args := [d1, d2] }
  | _ => none }
def levelExprsRow : OpenClaim := { program := "ytelobnllkhnpaaa", sum := "d4c7664c3185f7bb3197a20215809f55674dd5777776f84c3b16e68cef58512d", func := "stereopsis/stereopsislaw21.LevelExprs", spec := "levelExprs", unfollowed := true, recurses := true, loops := true, apart := false }
def LevelExprsSaid : Prop := levelExprsRow.holds Try.pinned (OpenSpec.ofChange levelExprsSpec)

/-- ITS FALSE NEIGHBOUR: 'it returns false'. Refute it at one input. -/
def levelExprsWrong : ChangeSpec := { name := "levelExprs", fn := fun _ => fun
  | [d1, d2] => { results := [.lit (.bool false)], args := [d1, d2] }
  | _ => none }
def LevelExprsWrongFalsely : Prop := levelExprsRow.holds Try.pinned (OpenSpec.ofChange levelExprsWrong)

/-- 'stereopsislaw21.LevelFixed': WHATEVER THE INPUT: true; the input reads as it did. -/
def levelFixedSpec : ChangeSpec := { name := "levelFixed", fn := fun _ => fun
  | [d] => { results := [.lit (.bool true)], args := [d] }
  | _ => none }
def levelFixedRow : OpenClaim := { program := "ytelobnllkhnpaaa", sum := "d4c7664c3185f7bb3197a20215809f55674dd5777776f84c3b16e68cef58512d", func := "stereopsis/stereopsislaw21.LevelFixed", spec := "levelFixed", unfollowed := true, recurses := true, loops := true, apart := false }
def LevelFixedSaid : Prop := levelFixedRow.holds Try.pinned (OpenSpec.ofChange levelFixedSpec)

/-- ITS FALSE NEIGHBOUR: 'it returns false'. Refute it at one input. -/
def levelFixedWrong : ChangeSpec := { name := "levelFixed", fn := fun _ => fun
  | [d] => { results := [.lit (.bool false)], args := [d] }
  | _ => none }
def LevelFixedWrongFalsely : Prop := levelFixedRow.holds Try.pinned (OpenSpec.ofChange levelFixedWrong)

/-- 'stereopsislaw21.LevelMoves': WHATEVER THE INPUT: true; the input reads as it did. -/
def levelMovesSpec : ChangeSpec := { name := "levelMoves", fn := fun _ => fun
  | [d] => { results := [.lit (.bool true)], args := [d] }
  | _ => none }
def levelMovesRow : OpenClaim := { program := "ytelobnllkhnpaaa", sum := "d4c7664c3185f7bb3197a20215809f55674dd5777776f84c3b16e68cef58512d", func := "stereopsis/stereopsislaw21.LevelMoves", spec := "levelMoves", unfollowed := true, recurses := true, loops := true, apart := false }
def LevelMovesSaid : Prop := levelMovesRow.holds Try.pinned (OpenSpec.ofChange levelMovesSpec)

/-- ITS FALSE NEIGHBOUR: 'it returns false'. Refute it at one input. -/
def levelMovesWrong : ChangeSpec := { name := "levelMoves", fn := fun _ => fun
  | [d] => { results := [.lit (.bool false)], args := [d] }
  | _ => none }
def LevelMovesWrongFalsely : Prop := levelMovesRow.holds Try.pinned (OpenSpec.ofChange levelMovesWrong)

/-- 'stereopsislaw21.LevelRelabels': WHATEVER THE INPUT: true; the input reads as it did. -/
def levelRelabelsSpec : ChangeSpec := { name := "levelRelabels", fn := fun _ => fun
  | [d1, d2] => { results := [.lit (.bool true)], args := [d1, d2] }
  | _ => none }
def levelRelabelsRow : OpenClaim := { program := "ytelobnllkhnpaaa", sum := "d4c7664c3185f7bb3197a20215809f55674dd5777776f84c3b16e68cef58512d", func := "stereopsis/stereopsislaw21.LevelRelabels", spec := "levelRelabels", unfollowed := true, recurses := true, loops := true, apart := false }
def LevelRelabelsSaid : Prop := levelRelabelsRow.holds Try.pinned (OpenSpec.ofChange levelRelabelsSpec)

/-- ITS FALSE NEIGHBOUR: 'it returns false'. Refute it at one input. -/
def levelRelabelsWrong : ChangeSpec := { name := "levelRelabels", fn := fun _ => fun
  | [d1, d2] => { results := [.lit (.bool false)], args := [d1, d2] }
  | _ => none }
def LevelRelabelsWrongFalsely : Prop := levelRelabelsRow.holds Try.pinned (OpenSpec.ofChange levelRelabelsWrong)

/-- 'stereopsislaw21.LevelInfers': WHATEVER THE INPUT: true; the input reads as it did. -/
def levelInfersSpec : ChangeSpec := { name := "levelInfers", fn := fun _ => fun
  | [d1, d2] => { results := [.lit (.bool true)], args := [d1, d2] }
  | _ => none }
def levelInfersRow : OpenClaim := { program := "ytelobnllkhnpaaa", sum := "d4c7664c3185f7bb3197a20215809f55674dd5777776f84c3b16e68cef58512d", func := "stereopsis/stereopsislaw21.LevelInfers", spec := "levelInfers", unfollowed := true, recurses := true, loops := true, apart := false }
def LevelInfersSaid : Prop := levelInfersRow.holds Try.pinned (OpenSpec.ofChange levelInfersSpec)

/-- ITS FALSE NEIGHBOUR: 'it returns false'. Refute it at one input. -/
def levelInfersWrong : ChangeSpec := { name := "levelInfers", fn := fun _ => fun
  | [d1, d2] => { results := [.lit (.bool false)], args := [d1, d2] }
  | _ => none }
def LevelInfersWrongFalsely : Prop := levelInfersRow.holds Try.pinned (OpenSpec.ofChange levelInfersWrong)

/-- 'stereopsislaw21.LevelClaims': WHATEVER THE INPUT: true; the input reads as it did. -/
def levelClaimsSpec : ChangeSpec := { name := "levelClaims", fn := fun _ => fun
  | [d1, d2, d3, d4] => { results := [.lit (.bool true)], args := [d1, d2, d3, d4] }
  | _ => none }
def levelClaimsRow : OpenClaim := { program := "ytelobnllkhnpaaa", sum := "d4c7664c3185f7bb3197a20215809f55674dd5777776f84c3b16e68cef58512d", func := "stereopsis/stereopsislaw21.LevelClaims", spec := "levelClaims", unfollowed := true, recurses := true, loops := true, apart := false }
def LevelClaimsSaid : Prop := levelClaimsRow.holds Try.pinned (OpenSpec.ofChange levelClaimsSpec)

/-- ITS FALSE NEIGHBOUR: 'it returns false'. Refute it at one input. -/
def levelClaimsWrong : ChangeSpec := { name := "levelClaims", fn := fun _ => fun
  | [d1, d2, d3, d4] => { results := [.lit (.bool false)], args := [d1, d2, d3, d4] }
  | _ => none }
def LevelClaimsWrongFalsely : Prop := levelClaimsRow.holds Try.pinned (OpenSpec.ofChange levelClaimsWrong)

/-- 'stereopsislaw21.LevelMore': WHATEVER THE INPUT: true; the input reads as it did. -/
def levelMoreSpec : ChangeSpec := { name := "levelMore", fn := fun _ => fun
  | [d1, d2] => { results := [.lit (.bool true)], args := [d1, d2] }
  | _ => none }
def levelMoreRow : OpenClaim := { program := "ytelobnllkhnpaaa", sum := "d4c7664c3185f7bb3197a20215809f55674dd5777776f84c3b16e68cef58512d", func := "stereopsis/stereopsislaw21.LevelMore", spec := "levelMore", unfollowed := true, recurses := true, loops := true, apart := false }
def LevelMoreSaid : Prop := levelMoreRow.holds Try.pinned (OpenSpec.ofChange levelMoreSpec)

/-- ITS FALSE NEIGHBOUR: 'it returns false'. Refute it at one input. -/
def levelMoreWrong : ChangeSpec := { name := "levelMore", fn := fun _ => fun
  | [d1, d2] => { results := [.lit (.bool false)], args := [d1, d2] }
  | _ => none }
def LevelMoreWrongFalsely : Prop := levelMoreRow.holds Try.pinned (OpenSpec.ofChange levelMoreWrong)

/-- 'stereopsislaw21.LevelLess': WHATEVER THE INPUT: true; the input reads as it did. -/
def levelLessSpec : ChangeSpec := { name := "levelLess", fn := fun _ => fun
  | [d1, d2, d3, d4] => { results := [.lit (.bool true)], args := [d1, d2, d3, d4] }
  | _ => none }
def levelLessRow : OpenClaim := { program := "ytelobnllkhnpaaa", sum := "d4c7664c3185f7bb3197a20215809f55674dd5777776f84c3b16e68cef58512d", func := "stereopsis/stereopsislaw21.LevelLess", spec := "levelLess", unfollowed := true, recurses := true, loops := true, apart := false }
def LevelLessSaid : Prop := levelLessRow.holds Try.pinned (OpenSpec.ofChange levelLessSpec)

/-- ITS FALSE NEIGHBOUR: 'it returns false'. Refute it at one input. -/
def levelLessWrong : ChangeSpec := { name := "levelLess", fn := fun _ => fun
  | [d1, d2, d3, d4] => { results := [.lit (.bool false)], args := [d1, d2, d3, d4] }
  | _ => none }
def LevelLessWrongFalsely : Prop := levelLessRow.holds Try.pinned (OpenSpec.ofChange levelLessWrong)

/- THE SECOND FORM. 'bulk': how many values and letters a reading holds, each counted each time it is reached (what is shared counts as often as it is met; a slice's spare places count too). A statement '..UptoSaid' is the law's where the arguments, and the package variables that the reading takes, are together of bulk at most 1048576: NARROWER than '..Said'. Prove '..Said' where nothing that the law and all that it calls make is longer than what came in: it says more and counts as full. Else prove '..UptoSaid'. A law counts once. -/
mutual
def uptoBulk {H : Type} : DataW H → Nat
  | .lit (.string bytes) => bytes.length + 1
  | .lit _ => 1
  | .nil => 1
  | .ptr d => uptoBulk d + 1
  | .slice elems spare => uptoBulkAll elems + uptoBulkAll spare + 1
  | .agg parts => uptoBulkAll parts + 1
  | .iface _ d => uptoBulk d + 1
  | .map entries => uptoBulkEntries entries + 1
  | .held _ => 1
def uptoBulkAll {H : Type} : List (DataW H) → Nat
  | [] => 0
  | d :: r => uptoBulk d + uptoBulkAll r
def uptoBulkEntries {H : Type} : List (Lit × DataW H) → Nat
  | [] => 0
  | x :: r => uptoBulkEntry x + uptoBulkEntries r
def uptoBulkEntry {H : Type} : Lit × DataW H → Nat
  | (.string bytes, d) => bytes.length + uptoBulk d + 1
  | (_, d) => uptoBulk d + 1
 end
def uptoSmall : (H : Type) → List (DataW H) → Bool := fun _ ds => decide (uptoBulkAll ds ≤ 1048576)
def OpenSpec.upto (s : _root_.Go.ChangeSpec) : _root_.Go.OpenSpec := { _root_.Go.OpenSpec.ofChange s with cond := some uptoSmall }

/-- 'stereopsislaw21.LevelExprs', WHERE WHAT IT READS IS OF BULK AT MOST 1048576: true; the input reads as it did. -/
def levelExprsUptoRow : OpenClaim := { program := "ytelobnllkhnpaaa", sum := "d4c7664c3185f7bb3197a20215809f55674dd5777776f84c3b16e68cef58512d", func := "stereopsis/stereopsislaw21.LevelExprs", spec := "levelExprs", unfollowed := true, recurses := true, loops := true, apart := false, narrowed := true }
def LevelExprsUptoSaid : Prop := levelExprsUptoRow.holds Try.pinned (OpenSpec.upto levelExprsSpec)

/-- 'stereopsislaw21.LevelFixed', WHERE WHAT IT READS IS OF BULK AT MOST 1048576: true; the input reads as it did. -/
def levelFixedUptoRow : OpenClaim := { program := "ytelobnllkhnpaaa", sum := "d4c7664c3185f7bb3197a20215809f55674dd5777776f84c3b16e68cef58512d", func := "stereopsis/stereopsislaw21.LevelFixed", spec := "levelFixed", unfollowed := true, recurses := true, loops := true, apart := false, narrowed := true }
def LevelFixedUptoSaid : Prop := levelFixedUptoRow.holds Try.pinned (OpenSpec.upto levelFixedSpec)

/-- 'stereopsislaw21.LevelMoves', WHERE WHAT IT READS IS OF BULK AT MOST 1048576: true; the input reads as it did. -/
def levelMovesUptoRow : OpenClaim := { program := "ytelobnllkhnpaaa", sum := "d4c7664c3185f7bb3197a20215809f55674dd5777776f84c3b16e68cef58512d", func := "stereopsis/stereopsislaw21.LevelMoves", spec := "levelMoves", unfollowed := true, recurses := true, loops := true, apart := false, narrowed := true }
def LevelMovesUptoSaid : Prop := levelMovesUptoRow.holds Try.pinned (OpenSpec.upto levelMovesSpec)

/-- 'stereopsislaw21.LevelRelabels', WHERE WHAT IT READS IS OF BULK AT MOST 1048576: true; the input reads as it did. -/
def levelRelabelsUptoRow : OpenClaim := { program := "ytelobnllkhnpaaa", sum := "d4c7664c3185f7bb3197a20215809f55674dd5777776f84c3b16e68cef58512d", func := "stereopsis/stereopsislaw21.LevelRelabels", spec := "levelRelabels", unfollowed := true, recurses := true, loops := true, apart := false, narrowed := true }
def LevelRelabelsUptoSaid : Prop := levelRelabelsUptoRow.holds Try.pinned (OpenSpec.upto levelRelabelsSpec)

/-- 'stereopsislaw21.LevelInfers', WHERE WHAT IT READS IS OF BULK AT MOST 1048576: true; the input reads as it did. -/
def levelInfersUptoRow : OpenClaim := { program := "ytelobnllkhnpaaa", sum := "d4c7664c3185f7bb3197a20215809f55674dd5777776f84c3b16e68cef58512d", func := "stereopsis/stereopsislaw21.LevelInfers", spec := "levelInfers", unfollowed := true, recurses := true, loops := true, apart := false, narrowed := true }
def LevelInfersUptoSaid : Prop := levelInfersUptoRow.holds Try.pinned (OpenSpec.upto levelInfersSpec)

/-- 'stereopsislaw21.LevelClaims', WHERE WHAT IT READS IS OF BULK AT MOST 1048576: true; the input reads as it did. -/
def levelClaimsUptoRow : OpenClaim := { program := "ytelobnllkhnpaaa", sum := "d4c7664c3185f7bb3197a20215809f55674dd5777776f84c3b16e68cef58512d", func := "stereopsis/stereopsislaw21.LevelClaims", spec := "levelClaims", unfollowed := true, recurses := true, loops := true, apart := false, narrowed := true }
def LevelClaimsUptoSaid : Prop := levelClaimsUptoRow.holds Try.pinned (OpenSpec.upto levelClaimsSpec)

/-- 'stereopsislaw21.LevelMore', WHERE WHAT IT READS IS OF BULK AT MOST 1048576: true; the input reads as it did. -/
def levelMoreUptoRow : OpenClaim := { program := "ytelobnllkhnpaaa", sum := "d4c7664c3185f7bb3197a20215809f55674dd5777776f84c3b16e68cef58512d", func := "stereopsis/stereopsislaw21.LevelMore", spec := "levelMore", unfollowed := true, recurses := true, loops := true, apart := false, narrowed := true }
def LevelMoreUptoSaid : Prop := levelMoreUptoRow.holds Try.pinned (OpenSpec.upto levelMoreSpec)

/-- 'stereopsislaw21.LevelLess', WHERE WHAT IT READS IS OF BULK AT MOST 1048576: true; the input reads as it did. -/
def levelLessUptoRow : OpenClaim := { program := "ytelobnllkhnpaaa", sum := "d4c7664c3185f7bb3197a20215809f55674dd5777776f84c3b16e68cef58512d", func := "stereopsis/stereopsislaw21.LevelLess", spec := "levelLess", unfollowed := true, recurses := true, loops := true, apart := false, narrowed := true }
def LevelLessUptoSaid : Prop := levelLessUptoRow.holds Try.pinned (OpenSpec.upto levelLessSpec)

end Rows
end Go.Proofs.Ytelobnllkhnpaaa
