/-
  No cell of these rows narrows 'for every input' (looked for: loops, veiled, ifaces, maps, wideKeys, modest, calm, conditions, laid).
  DERIVED. THE GIVEN ROWS OF THIS SEAT. 7 by the template 'for every input the law returns true; each argument reads behind the call as it read before'; 0 by the template 'total and deterministic' (their statements: YtmebmabepifjaaaTotals.lean).
  GIVEN WITH THE SEED: the statements are not yours to turn. If you find one false, say at which input.
  Laid BY PROGRAM, IN A SANDBOX (cutbox-rows.mjs): the forced cells as the released guide's own fill.sh prints them over the translation 23f81eeb7e4b9b44… (all of the seat's roots in one cut). By AI agents, Wed Nov 11 2026. No macro, syntax, notation, axiom, sorry.
-/
import Derived.Test.YtmebmabepifjaaaChecked
import GoSem.Claim
import GoSem.ClaimJoined
import GoSem.ClaimMapViews
import Derived.JoinedTies
import Derived.KernelRfl
namespace Go.Proofs.Ytmebmabepifjaaa
/- THE CELL 'sum', in the pinned program and in every row, IS THE sha256 OF THE DUMP (.gsa) THAT YtmebmabepifjaaaProg.lean LOADS. Nothing in Lean hashes anything: it is a label: what it is worth is what the hold of that sum in a sandbox is worth. -/
noncomputable def Try.pinned : Pinned := { name := "ytmebmabepifjaaa", sum := "23f81eeb7e4b9b446f8e09701a531ff4d55d7a8dd2c68a5b493f2adc7ad66216", checked := Try.checked }
namespace Rows
def none {H : Type} : Left H := { results := [], args := [] }

/-- 'salternlaw16.CheckAudits': WHATEVER THE INPUT: true; the input reads as it did. -/
def checkAuditsSpec : ChangeSpec := { name := "checkAudits", fn := fun _ => fun
  | [d1, d2, d3] => { results := [.lit (.bool true)], args := [d1, d2, d3] }
  | _ => none }
def checkAuditsRow : OpenClaim := { program := "ytmebmabepifjaaa", sum := "23f81eeb7e4b9b446f8e09701a531ff4d55d7a8dd2c68a5b493f2adc7ad66216", func := "saltern/salternlaw16.CheckAudits", spec := "checkAudits", apart := false }
def CheckAuditsSaid : Prop := checkAuditsRow.holds Try.pinned (OpenSpec.ofChange checkAuditsSpec)

/-- ITS FALSE NEIGHBOUR: 'it returns false'. Refute it at one input. -/
def checkAuditsWrong : ChangeSpec := { name := "checkAudits", fn := fun _ => fun
  | [d1, d2, d3] => { results := [.lit (.bool false)], args := [d1, d2, d3] }
  | _ => none }
def CheckAuditsWrongFalsely : Prop := checkAuditsRow.holds Try.pinned (OpenSpec.ofChange checkAuditsWrong)

/-- 'salternlaw16.CheckPrefix': WHATEVER THE INPUT: true; the input reads as it did. -/
def checkPrefixSpec : ChangeSpec := { name := "checkPrefix", fn := fun _ => fun
  | [d1, d2, d3, d4, d5, d6] => { results := [.lit (.bool true)], args := [d1, d2, d3, d4, d5, d6] }
  | _ => none }
def checkPrefixRow : OpenClaim := { program := "ytmebmabepifjaaa", sum := "23f81eeb7e4b9b446f8e09701a531ff4d55d7a8dd2c68a5b493f2adc7ad66216", func := "saltern/salternlaw16.CheckPrefix", spec := "checkPrefix", apart := false }
def CheckPrefixSaid : Prop := checkPrefixRow.holds Try.pinned (OpenSpec.ofChange checkPrefixSpec)

/-- ITS FALSE NEIGHBOUR: 'it returns false'. Refute it at one input. -/
def checkPrefixWrong : ChangeSpec := { name := "checkPrefix", fn := fun _ => fun
  | [d1, d2, d3, d4, d5, d6] => { results := [.lit (.bool false)], args := [d1, d2, d3, d4, d5, d6] }
  | _ => none }
def CheckPrefixWrongFalsely : Prop := checkPrefixRow.holds Try.pinned (OpenSpec.ofChange checkPrefixWrong)

/-- 'salternlaw16.CheckForks': WHATEVER THE INPUT: true; the input reads as it did. -/
def checkForksSpec : ChangeSpec := { name := "checkForks", fn := fun _ => fun
  | [d1, d2, d3, d4, d5, d6] => { results := [.lit (.bool true)], args := [d1, d2, d3, d4, d5, d6] }
  | _ => none }
def checkForksRow : OpenClaim := { program := "ytmebmabepifjaaa", sum := "23f81eeb7e4b9b446f8e09701a531ff4d55d7a8dd2c68a5b493f2adc7ad66216", func := "saltern/salternlaw16.CheckForks", spec := "checkForks", apart := false }
def CheckForksSaid : Prop := checkForksRow.holds Try.pinned (OpenSpec.ofChange checkForksSpec)

/-- ITS FALSE NEIGHBOUR: 'it returns false'. Refute it at one input. -/
def checkForksWrong : ChangeSpec := { name := "checkForks", fn := fun _ => fun
  | [d1, d2, d3, d4, d5, d6] => { results := [.lit (.bool false)], args := [d1, d2, d3, d4, d5, d6] }
  | _ => none }
def CheckForksWrongFalsely : Prop := checkForksRow.holds Try.pinned (OpenSpec.ofChange checkForksWrong)

/-- 'salternlaw16.CheckSealed': WHATEVER THE INPUT: true; the input reads as it did. -/
def checkSealedSpec : ChangeSpec := { name := "checkSealed", fn := fun _ => fun
  | [d1, d2, d3, d4, d5] => { results := [.lit (.bool true)], args := [d1, d2, d3, d4, d5] }
  | _ => none }
def checkSealedRow : OpenClaim := { program := "ytmebmabepifjaaa", sum := "23f81eeb7e4b9b446f8e09701a531ff4d55d7a8dd2c68a5b493f2adc7ad66216", func := "saltern/salternlaw16.CheckSealed", spec := "checkSealed", apart := false }
def CheckSealedSaid : Prop := checkSealedRow.holds Try.pinned (OpenSpec.ofChange checkSealedSpec)

/-- ITS FALSE NEIGHBOUR: 'it returns false'. Refute it at one input. -/
def checkSealedWrong : ChangeSpec := { name := "checkSealed", fn := fun _ => fun
  | [d1, d2, d3, d4, d5] => { results := [.lit (.bool false)], args := [d1, d2, d3, d4, d5] }
  | _ => none }
def CheckSealedWrongFalsely : Prop := checkSealedRow.holds Try.pinned (OpenSpec.ofChange checkSealedWrong)

/-- 'salternlaw16.CheckHeads': WHATEVER THE INPUT: true; the input reads as it did. -/
def checkHeadsSpec : ChangeSpec := { name := "checkHeads", fn := fun _ => fun
  | [d1, d2, d3, d4] => { results := [.lit (.bool true)], args := [d1, d2, d3, d4] }
  | _ => none }
def checkHeadsRow : OpenClaim := { program := "ytmebmabepifjaaa", sum := "23f81eeb7e4b9b446f8e09701a531ff4d55d7a8dd2c68a5b493f2adc7ad66216", func := "saltern/salternlaw16.CheckHeads", spec := "checkHeads", apart := false }
def CheckHeadsSaid : Prop := checkHeadsRow.holds Try.pinned (OpenSpec.ofChange checkHeadsSpec)

/-- ITS FALSE NEIGHBOUR: 'it returns false'. Refute it at one input. -/
def checkHeadsWrong : ChangeSpec := { name := "checkHeads", fn := fun _ => fun
  | [d1, d2, d3, d4] => { results := [.lit (.bool false)], args := [d1, d2, d3, d4] }
  | _ => none }
def CheckHeadsWrongFalsely : Prop := checkHeadsRow.holds Try.pinned (OpenSpec.ofChange checkHeadsWrong)

/-- 'salternlaw16.CheckBack': WHATEVER THE INPUT: true; the input reads as it did. -/
def checkBackSpec : ChangeSpec := { name := "checkBack", fn := fun _ => fun
  | [d1, d2] => { results := [.lit (.bool true)], args := [d1, d2] }
  | _ => none }
def checkBackRow : OpenClaim := { program := "ytmebmabepifjaaa", sum := "23f81eeb7e4b9b446f8e09701a531ff4d55d7a8dd2c68a5b493f2adc7ad66216", func := "saltern/salternlaw16.CheckBack", spec := "checkBack", apart := false }
def CheckBackSaid : Prop := checkBackRow.holds Try.pinned (OpenSpec.ofChange checkBackSpec)

/-- ITS FALSE NEIGHBOUR: 'it returns false'. Refute it at one input. -/
def checkBackWrong : ChangeSpec := { name := "checkBack", fn := fun _ => fun
  | [d1, d2] => { results := [.lit (.bool false)], args := [d1, d2] }
  | _ => none }
def CheckBackWrongFalsely : Prop := checkBackRow.holds Try.pinned (OpenSpec.ofChange checkBackWrong)

/-- 'salternlaw16.CheckMarks': WHATEVER THE INPUT: true; the input reads as it did. -/
def checkMarksSpec : ChangeSpec := { name := "checkMarks", fn := fun _ => fun
  | [d1, d2, d3] => { results := [.lit (.bool true)], args := [d1, d2, d3] }
  | _ => none }
def checkMarksRow : OpenClaim := { program := "ytmebmabepifjaaa", sum := "23f81eeb7e4b9b446f8e09701a531ff4d55d7a8dd2c68a5b493f2adc7ad66216", func := "saltern/salternlaw16.CheckMarks", spec := "checkMarks", apart := false }
def CheckMarksSaid : Prop := checkMarksRow.holds Try.pinned (OpenSpec.ofChange checkMarksSpec)

/-- ITS FALSE NEIGHBOUR: 'it returns false'. Refute it at one input. -/
def checkMarksWrong : ChangeSpec := { name := "checkMarks", fn := fun _ => fun
  | [d1, d2, d3] => { results := [.lit (.bool false)], args := [d1, d2, d3] }
  | _ => none }
def CheckMarksWrongFalsely : Prop := checkMarksRow.holds Try.pinned (OpenSpec.ofChange checkMarksWrong)

/- THE SECOND FORM. 'bulk': how many values and letters a reading holds, each counted each time it is reached (what is shared counts as often as it is met; a slice's spare places count too). A statement '..UptoSaid' is the law's where the arguments, and the package variables that the reading takes, are together of bulk at most 1048576: NARROWER than '..Said'. Prove '..Said' where nothing that the law and all that it calls make is longer than what came in: it says more and counts as full. Else prove '..UptoSaid'. A law counts once. -/
mutual
def uptoBulk {H : Type} : DataW H → Nat
  | .lit (.string bytes) => bytes.length + 1
  | .lit _ => 1
  | .nil => 1
  | .ptr d => uptoBulk d + 1
  | .slice elems spare => uptoBulkAll elems + uptoBulkAll spare + 1
  | .agg parts => uptoBulkAll parts + 1
  | .iface _ d => uptoBulk d + 1
  | .map entries => uptoBulkEntries entries + 1
  | .held _ => 1
def uptoBulkAll {H : Type} : List (DataW H) → Nat
  | [] => 0
  | d :: r => uptoBulk d + uptoBulkAll r
def uptoBulkEntries {H : Type} : List (Lit × DataW H) → Nat
  | [] => 0
  | x :: r => uptoBulkEntry x + uptoBulkEntries r
def uptoBulkEntry {H : Type} : Lit × DataW H → Nat
  | (.string bytes, d) => bytes.length + uptoBulk d + 1
  | (_, d) => uptoBulk d + 1
 end
def uptoSmall : (H : Type) → List (DataW H) → Bool := fun _ ds => decide (uptoBulkAll ds ≤ 1048576)
def OpenSpec.upto (s : _root_.Go.ChangeSpec) : _root_.Go.OpenSpec := { _root_.Go.OpenSpec.ofChange s with cond := some uptoSmall }

/-- 'salternlaw16.CheckAudits', WHERE WHAT IT READS IS OF BULK AT MOST 1048576: true; the input reads as it did. -/
def checkAuditsUptoRow : OpenClaim := { program := "ytmebmabepifjaaa", sum := "23f81eeb7e4b9b446f8e09701a531ff4d55d7a8dd2c68a5b493f2adc7ad66216", func := "saltern/salternlaw16.CheckAudits", spec := "checkAudits", apart := false, narrowed := true }
def CheckAuditsUptoSaid : Prop := checkAuditsUptoRow.holds Try.pinned (OpenSpec.upto checkAuditsSpec)

/-- 'salternlaw16.CheckPrefix', WHERE WHAT IT READS IS OF BULK AT MOST 1048576: true; the input reads as it did. -/
def checkPrefixUptoRow : OpenClaim := { program := "ytmebmabepifjaaa", sum := "23f81eeb7e4b9b446f8e09701a531ff4d55d7a8dd2c68a5b493f2adc7ad66216", func := "saltern/salternlaw16.CheckPrefix", spec := "checkPrefix", apart := false, narrowed := true }
def CheckPrefixUptoSaid : Prop := checkPrefixUptoRow.holds Try.pinned (OpenSpec.upto checkPrefixSpec)

/-- 'salternlaw16.CheckForks', WHERE WHAT IT READS IS OF BULK AT MOST 1048576: true; the input reads as it did. -/
def checkForksUptoRow : OpenClaim := { program := "ytmebmabepifjaaa", sum := "23f81eeb7e4b9b446f8e09701a531ff4d55d7a8dd2c68a5b493f2adc7ad66216", func := "saltern/salternlaw16.CheckForks", spec := "checkForks", apart := false, narrowed := true }
def CheckForksUptoSaid : Prop := checkForksUptoRow.holds Try.pinned (OpenSpec.upto checkForksSpec)

/-- 'salternlaw16.CheckSealed', WHERE WHAT IT READS IS OF BULK AT MOST 1048576: true; the input reads as it did. -/
def checkSealedUptoRow : OpenClaim := { program := "ytmebmabepifjaaa", sum := "23f81eeb7e4b9b446f8e09701a531ff4d55d7a8dd2c68a5b493f2adc7ad66216", func := "saltern/salternlaw16.CheckSealed", spec := "checkSealed", apart := false, narrowed := true }
def CheckSealedUptoSaid : Prop := checkSealedUptoRow.holds Try.pinned (OpenSpec.upto checkSealedSpec)

/-- 'salternlaw16.CheckHeads', WHERE WHAT IT READS IS OF BULK AT MOST 1048576: true; the input reads as it did. -/
def checkHeadsUptoRow : OpenClaim := { program := "ytmebmabepifjaaa", sum := "23f81eeb7e4b9b446f8e09701a531ff4d55d7a8dd2c68a5b493f2adc7ad66216", func := "saltern/salternlaw16.CheckHeads", spec := "checkHeads", apart := false, narrowed := true }
def CheckHeadsUptoSaid : Prop := checkHeadsUptoRow.holds Try.pinned (OpenSpec.upto checkHeadsSpec)

/-- 'salternlaw16.CheckBack', WHERE WHAT IT READS IS OF BULK AT MOST 1048576: true; the input reads as it did. -/
def checkBackUptoRow : OpenClaim := { program := "ytmebmabepifjaaa", sum := "23f81eeb7e4b9b446f8e09701a531ff4d55d7a8dd2c68a5b493f2adc7ad66216", func := "saltern/salternlaw16.CheckBack", spec := "checkBack", apart := false, narrowed := true }
def CheckBackUptoSaid : Prop := checkBackUptoRow.holds Try.pinned (OpenSpec.upto checkBackSpec)

/-- 'salternlaw16.CheckMarks', WHERE WHAT IT READS IS OF BULK AT MOST 1048576: true; the input reads as it did. -/
def checkMarksUptoRow : OpenClaim := { program := "ytmebmabepifjaaa", sum := "23f81eeb7e4b9b446f8e09701a531ff4d55d7a8dd2c68a5b493f2adc7ad66216", func := "saltern/salternlaw16.CheckMarks", spec := "checkMarks", apart := false, narrowed := true }
def CheckMarksUptoSaid : Prop := checkMarksUptoRow.holds Try.pinned (OpenSpec.upto checkMarksSpec)

end Rows
end Go.Proofs.Ytmebmabepifjaaa
