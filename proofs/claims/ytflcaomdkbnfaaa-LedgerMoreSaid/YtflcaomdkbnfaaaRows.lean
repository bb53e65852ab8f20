/-
  No cell of these rows narrows 'for every input' (looked for: loops, veiled, ifaces, maps, wideKeys, modest, calm, conditions, laid).
  DERIVED. THE GIVEN ROWS OF THIS SEAT. 7 by the template 'for every input the law returns true; each argument reads behind the call as it read before'; 0 by the template 'total and deterministic' (their statements: YtflcaomdkbnfaaaTotals.lean).
  GIVEN WITH THE SEED: the statements are not yours to turn. If you find one false, say at which input.
  Laid BY PROGRAM, IN A SANDBOX (cutbox-rows.mjs): the forced cells as the released guide's own fill.sh prints them over the translation d22466ccacb35998… (all of the seat's roots in one cut). By AI agents, Wed Nov 11 2026. No macro, syntax, notation, axiom, sorry.
-/
import Derived.Test.YtflcaomdkbnfaaaChecked
import GoSem.Claim
import GoSem.ClaimJoined
import GoSem.ClaimMapViews
import Derived.JoinedTies
import Derived.KernelRfl
namespace Go.Proofs.Ytflcaomdkbnfaaa
/- THE CELL 'sum', in the pinned program and in every row, IS THE sha256 OF THE DUMP (.gsa) THAT YtflcaomdkbnfaaaProg.lean LOADS. Nothing in Lean hashes anything: it is a label: what it is worth is what the hold of that sum in a sandbox is worth. -/
noncomputable def Try.pinned : Pinned := { name := "ytflcaomdkbnfaaa", sum := "d22466ccacb359981c8e824cf1052e90de92106ed37d8a8f9b7e0ff77cda1184", checked := Try.checked }
namespace Rows
def none {H : Type} : Left H := { results := [], args := [] }

/-- 'salternlaw24.LedgerChecks': WHATEVER THE INPUT: true; the input reads as it did. -/
def ledgerChecksSpec : ChangeSpec := { name := "ledgerChecks", fn := fun _ => fun
  | [d1, d2] => { results := [.lit (.bool true)], args := [d1, d2] }
  | _ => none }
def ledgerChecksRow : OpenClaim := { program := "ytflcaomdkbnfaaa", sum := "d22466ccacb359981c8e824cf1052e90de92106ed37d8a8f9b7e0ff77cda1184", func := "saltern/salternlaw24.LedgerChecks", spec := "ledgerChecks", recurses := true, plainKeys := false, apart := false }
def LedgerChecksSaid : Prop := ledgerChecksRow.holds Try.pinned (OpenSpec.ofChange ledgerChecksSpec)

/-- ITS FALSE NEIGHBOUR: 'it returns false'. Refute it at one input. -/
def ledgerChecksWrong : ChangeSpec := { name := "ledgerChecks", fn := fun _ => fun
  | [d1, d2] => { results := [.lit (.bool false)], args := [d1, d2] }
  | _ => none }
def LedgerChecksWrongFalsely : Prop := ledgerChecksRow.holds Try.pinned (OpenSpec.ofChange ledgerChecksWrong)

/-- 'salternlaw24.LedgerPrefix': WHATEVER THE INPUT: true; the input reads as it did. -/
def ledgerPrefixSpec : ChangeSpec := { name := "ledgerPrefix", fn := fun _ => fun
  | [d1, d2] => { results := [.lit (.bool true)], args := [d1, d2] }
  | _ => none }
def ledgerPrefixRow : OpenClaim := { program := "ytflcaomdkbnfaaa", sum := "d22466ccacb359981c8e824cf1052e90de92106ed37d8a8f9b7e0ff77cda1184", func := "saltern/salternlaw24.LedgerPrefix", spec := "ledgerPrefix", recurses := true, plainKeys := false, apart := false }
def LedgerPrefixSaid : Prop := ledgerPrefixRow.holds Try.pinned (OpenSpec.ofChange ledgerPrefixSpec)

/-- ITS FALSE NEIGHBOUR: 'it returns false'. Refute it at one input. -/
def ledgerPrefixWrong : ChangeSpec := { name := "ledgerPrefix", fn := fun _ => fun
  | [d1, d2] => { results := [.lit (.bool false)], args := [d1, d2] }
  | _ => none }
def LedgerPrefixWrongFalsely : Prop := ledgerPrefixRow.holds Try.pinned (OpenSpec.ofChange ledgerPrefixWrong)

/-- 'salternlaw24.LedgerMore': WHATEVER THE INPUT: true; the input reads as it did. -/
def ledgerMoreSpec : ChangeSpec := { name := "ledgerMore", fn := fun _ => fun
  | [d1, d2, d3, d4] => { results := [.lit (.bool true)], args := [d1, d2, d3, d4] }
  | _ => none }
def ledgerMoreRow : OpenClaim := { program := "ytflcaomdkbnfaaa", sum := "d22466ccacb359981c8e824cf1052e90de92106ed37d8a8f9b7e0ff77cda1184", func := "saltern/salternlaw24.LedgerMore", spec := "ledgerMore", recurses := true, plainKeys := false, apart := false }
def LedgerMoreSaid : Prop := ledgerMoreRow.holds Try.pinned (OpenSpec.ofChange ledgerMoreSpec)

/-- ITS FALSE NEIGHBOUR: 'it returns false'. Refute it at one input. -/
def ledgerMoreWrong : ChangeSpec := { name := "ledgerMore", fn := fun _ => fun
  | [d1, d2, d3, d4] => { results := [.lit (.bool false)], args := [d1, d2, d3, d4] }
  | _ => none }
def LedgerMoreWrongFalsely : Prop := ledgerMoreRow.holds Try.pinned (OpenSpec.ofChange ledgerMoreWrong)

/-- 'salternlaw24.LedgerNotes': WHATEVER THE INPUT: true; the input reads as it did. -/
def ledgerNotesSpec : ChangeSpec := { name := "ledgerNotes", fn := fun _ => fun
  | [d] => { results := [.lit (.bool true)], args := [d] }
  | _ => none }
def ledgerNotesRow : OpenClaim := { program := "ytflcaomdkbnfaaa", sum := "d22466ccacb359981c8e824cf1052e90de92106ed37d8a8f9b7e0ff77cda1184", func := "saltern/salternlaw24.LedgerNotes", spec := "ledgerNotes", recurses := true, plainKeys := false, apart := false }
def LedgerNotesSaid : Prop := ledgerNotesRow.holds Try.pinned (OpenSpec.ofChange ledgerNotesSpec)

/-- ITS FALSE NEIGHBOUR: 'it returns false'. Refute it at one input. -/
def ledgerNotesWrong : ChangeSpec := { name := "ledgerNotes", fn := fun _ => fun
  | [d] => { results := [.lit (.bool false)], args := [d] }
  | _ => none }
def LedgerNotesWrongFalsely : Prop := ledgerNotesRow.holds Try.pinned (OpenSpec.ofChange ledgerNotesWrong)

/-- 'salternlaw24.LedgerPuts': WHATEVER THE INPUT: true; the input reads as it did. -/
def ledgerPutsSpec : ChangeSpec := { name := "ledgerPuts", fn := fun _ => fun
  | [d1, d2, d3, d4] => { results := [.lit (.bool true)], args := [d1, d2, d3, d4] }
  | _ => none }
def ledgerPutsRow : OpenClaim := { program := "ytflcaomdkbnfaaa", sum := "d22466ccacb359981c8e824cf1052e90de92106ed37d8a8f9b7e0ff77cda1184", func := "saltern/salternlaw24.LedgerPuts", spec := "ledgerPuts", recurses := true, plainKeys := false, apart := false }
def LedgerPutsSaid : Prop := ledgerPutsRow.holds Try.pinned (OpenSpec.ofChange ledgerPutsSpec)

/-- ITS FALSE NEIGHBOUR: 'it returns false'. Refute it at one input. -/
def ledgerPutsWrong : ChangeSpec := { name := "ledgerPuts", fn := fun _ => fun
  | [d1, d2, d3, d4] => { results := [.lit (.bool false)], args := [d1, d2, d3, d4] }
  | _ => none }
def LedgerPutsWrongFalsely : Prop := ledgerPutsRow.holds Try.pinned (OpenSpec.ofChange ledgerPutsWrong)

/-- 'salternlaw24.LedgerFinds': WHATEVER THE INPUT: true; the input reads as it did. -/
def ledgerFindsSpec : ChangeSpec := { name := "ledgerFinds", fn := fun _ => fun
  | [d1, d2, d3, d4] => { results := [.lit (.bool true)], args := [d1, d2, d3, d4] }
  | _ => none }
def ledgerFindsRow : OpenClaim := { program := "ytflcaomdkbnfaaa", sum := "d22466ccacb359981c8e824cf1052e90de92106ed37d8a8f9b7e0ff77cda1184", func := "saltern/salternlaw24.LedgerFinds", spec := "ledgerFinds", recurses := true, plainKeys := false, apart := false }
def LedgerFindsSaid : Prop := ledgerFindsRow.holds Try.pinned (OpenSpec.ofChange ledgerFindsSpec)

/-- ITS FALSE NEIGHBOUR: 'it returns false'. Refute it at one input. -/
def ledgerFindsWrong : ChangeSpec := { name := "ledgerFinds", fn := fun _ => fun
  | [d1, d2, d3, d4] => { results := [.lit (.bool false)], args := [d1, d2, d3, d4] }
  | _ => none }
def LedgerFindsWrongFalsely : Prop := ledgerFindsRow.holds Try.pinned (OpenSpec.ofChange ledgerFindsWrong)

/-- 'salternlaw24.LedgerNobody': WHATEVER THE INPUT: true; the input reads as it did. -/
def ledgerNobodySpec : ChangeSpec := { name := "ledgerNobody", fn := fun _ => fun
  | [d1, d2, d3] => { results := [.lit (.bool true)], args := [d1, d2, d3] }
  | _ => none }
def ledgerNobodyRow : OpenClaim := { program := "ytflcaomdkbnfaaa", sum := "d22466ccacb359981c8e824cf1052e90de92106ed37d8a8f9b7e0ff77cda1184", func := "saltern/salternlaw24.LedgerNobody", spec := "ledgerNobody", recurses := true, plainKeys := false, apart := false }
def LedgerNobodySaid : Prop := ledgerNobodyRow.holds Try.pinned (OpenSpec.ofChange ledgerNobodySpec)

/-- ITS FALSE NEIGHBOUR: 'it returns false'. Refute it at one input. -/
def ledgerNobodyWrong : ChangeSpec := { name := "ledgerNobody", fn := fun _ => fun
  | [d1, d2, d3] => { results := [.lit (.bool false)], args := [d1, d2, d3] }
  | _ => none }
def LedgerNobodyWrongFalsely : Prop := ledgerNobodyRow.holds Try.pinned (OpenSpec.ofChange ledgerNobodyWrong)

/- THE SECOND FORM. 'bulk': how many values and letters a reading holds, each counted each time it is reached (what is shared counts as often as it is met; a slice's spare places count too). A statement '..UptoSaid' is the law's where the arguments, and the package variables that the reading takes, are together of bulk at most 1048576: NARROWER than '..Said'. Prove '..Said' where nothing that the law and all that it calls make is longer than what came in: it says more and counts as full. Else prove '..UptoSaid'. A law counts once. -/
mutual
def uptoBulk {H : Type} : DataW H → Nat
  | .lit (.string bytes) => bytes.length + 1
  | .lit _ => 1
  | .nil => 1
  | .ptr d => uptoBulk d + 1
  | .slice elems spare => uptoBulkAll elems + uptoBulkAll spare + 1
  | .agg parts => uptoBulkAll parts + 1
  | .iface _ d => uptoBulk d + 1
  | .map entries => uptoBulkEntries entries + 1
  | .held _ => 1
def uptoBulkAll {H : Type} : List (DataW H) → Nat
  | [] => 0
  | d :: r => uptoBulk d + uptoBulkAll r
def uptoBulkEntries {H : Type} : List (Lit × DataW H) → Nat
  | [] => 0
  | x :: r => uptoBulkEntry x + uptoBulkEntries r
def uptoBulkEntry {H : Type} : Lit × DataW H → Nat
  | (.string bytes, d) => bytes.length + uptoBulk d + 1
  | (_, d) => uptoBulk d + 1
 end
def uptoSmall : (H : Type) → List (DataW H) → Bool := fun _ ds => decide (uptoBulkAll ds ≤ 1048576)
def OpenSpec.upto (s : _root_.Go.ChangeSpec) : _root_.Go.OpenSpec := { _root_.Go.OpenSpec.ofChange s with cond := some uptoSmall }

/-- 'salternlaw24.LedgerChecks', WHERE WHAT IT READS IS OF BULK AT MOST 1048576: true; the input reads as it did. -/
def ledgerChecksUptoRow : OpenClaim := { program := "ytflcaomdkbnfaaa", sum := "d22466ccacb359981c8e824cf1052e90de92106ed37d8a8f9b7e0ff77cda1184", func := "saltern/salternlaw24.LedgerChecks", spec := "ledgerChecks", recurses := true, plainKeys := false, apart := false, narrowed := true }
def LedgerChecksUptoSaid : Prop := ledgerChecksUptoRow.holds Try.pinned (OpenSpec.upto ledgerChecksSpec)

/-- 'salternlaw24.LedgerPrefix', WHERE WHAT IT READS IS OF BULK AT MOST 1048576: true; the input reads as it did. -/
def ledgerPrefixUptoRow : OpenClaim := { program := "ytflcaomdkbnfaaa", sum := "d22466ccacb359981c8e824cf1052e90de92106ed37d8a8f9b7e0ff77cda1184", func := "saltern/salternlaw24.LedgerPrefix", spec := "ledgerPrefix", recurses := true, plainKeys := false, apart := false, narrowed := true }
def LedgerPrefixUptoSaid : Prop := ledgerPrefixUptoRow.holds Try.pinned (OpenSpec.upto ledgerPrefixSpec)

/-- 'salternlaw24.LedgerMore', WHERE WHAT IT READS IS OF BULK AT MOST 1048576: true; the input reads as it did. -/
def ledgerMoreUptoRow : OpenClaim := { program := "ytflcaomdkbnfaaa", sum := "d22466ccacb359981c8e824cf1052e90de92106ed37d8a8f9b7e0ff77cda1184", func := "saltern/salternlaw24.LedgerMore", spec := "ledgerMore", recurses := true, plainKeys := false, apart := false, narrowed := true }
def LedgerMoreUptoSaid : Prop := ledgerMoreUptoRow.holds Try.pinned (OpenSpec.upto ledgerMoreSpec)

/-- 'salternlaw24.LedgerNotes', WHERE WHAT IT READS IS OF BULK AT MOST 1048576: true; the input reads as it did. -/
def ledgerNotesUptoRow : OpenClaim := { program := "ytflcaomdkbnfaaa", sum := "d22466ccacb359981c8e824cf1052e90de92106ed37d8a8f9b7e0ff77cda1184", func := "saltern/salternlaw24.LedgerNotes", spec := "ledgerNotes", recurses := true, plainKeys := false, apart := false, narrowed := true }
def LedgerNotesUptoSaid : Prop := ledgerNotesUptoRow.holds Try.pinned (OpenSpec.upto ledgerNotesSpec)

/-- 'salternlaw24.LedgerPuts', WHERE WHAT IT READS IS OF BULK AT MOST 1048576: true; the input reads as it did. -/
def ledgerPutsUptoRow : OpenClaim := { program := "ytflcaomdkbnfaaa", sum := "d22466ccacb359981c8e824cf1052e90de92106ed37d8a8f9b7e0ff77cda1184", func := "saltern/salternlaw24.LedgerPuts", spec := "ledgerPuts", recurses := true, plainKeys := false, apart := false, narrowed := true }
def LedgerPutsUptoSaid : Prop := ledgerPutsUptoRow.holds Try.pinned (OpenSpec.upto ledgerPutsSpec)

/-- 'salternlaw24.LedgerFinds', WHERE WHAT IT READS IS OF BULK AT MOST 1048576: true; the input reads as it did. -/
def ledgerFindsUptoRow : OpenClaim := { program := "ytflcaomdkbnfaaa", sum := "d22466ccacb359981c8e824cf1052e90de92106ed37d8a8f9b7e0ff77cda1184", func := "saltern/salternlaw24.LedgerFinds", spec := "ledgerFinds", recurses := true, plainKeys := false, apart := false, narrowed := true }
def LedgerFindsUptoSaid : Prop := ledgerFindsUptoRow.holds Try.pinned (OpenSpec.upto ledgerFindsSpec)

/-- 'salternlaw24.LedgerNobody', WHERE WHAT IT READS IS OF BULK AT MOST 1048576: true; the input reads as it did. -/
def ledgerNobodyUptoRow : OpenClaim := { program := "ytflcaomdkbnfaaa", sum := "d22466ccacb359981c8e824cf1052e90de92106ed37d8a8f9b7e0ff77cda1184", func := "saltern/salternlaw24.LedgerNobody", spec := "ledgerNobody", recurses := true, plainKeys := false, apart := false, narrowed := true }
def LedgerNobodyUptoSaid : Prop := ledgerNobodyUptoRow.holds Try.pinned (OpenSpec.upto ledgerNobodySpec)

end Rows
end Go.Proofs.Ytflcaomdkbnfaaa
