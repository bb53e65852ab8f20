/-
  No cell of these rows narrows 'for every input' (looked for: loops, veiled, ifaces, maps, wideKeys, modest, calm, conditions, laid).
  DERIVED. THE GIVEN ROWS OF THIS SEAT. 6 by the template 'for every input the law returns true; each argument reads behind the call as it read before'; 0 by the template 'total and deterministic' (their statements: YtjoajlmjlffehaaTotals.lean).
  GIVEN WITH THE SEED: the statements are not yours to turn. If you find one false, say at which input.
  Laid BY PROGRAM, IN A SANDBOX (cutbox-rows.mjs): the forced cells as the released guide's own fill.sh prints them over the translation 68cca90b543fad9a… (all of the seat's roots in one cut). By AI agents, Wed Nov 11 2026. No macro, syntax, notation, axiom, sorry.
-/
import Derived.Test.YtjoajlmjlffehaaChecked
import GoSem.Claim
import GoSem.ClaimJoined
import GoSem.ClaimMapViews
import Derived.JoinedTies
import Derived.KernelRfl
namespace Go.Proofs.Ytjoajlmjlffehaa
/- THE CELL 'sum', in the pinned program and in every row, IS THE sha256 OF THE DUMP (.gsa) THAT YtjoajlmjlffehaaProg.lean LOADS. Nothing in Lean hashes anything: it is a label: what it is worth is what the hold of that sum in a sandbox is worth. -/
noncomputable def Try.pinned : Pinned := { name := "ytjoajlmjlffehaa", sum := "68cca90b543fad9a82ea4c456d21640bf17ae54f36d8772b78fbea4d85201b3f", checked := Try.checked }
namespace Rows
def none {H : Type} : Left H := { results := [], args := [] }

/-- 'salternlaw13.RecordWalks': WHATEVER THE INPUT: true; the input reads as it did. -/
def recordWalksSpec : ChangeSpec := { name := "recordWalks", fn := fun _ => fun
  | [d1, d2, d3] => { results := [.lit (.bool true)], args := [d1, d2, d3] }
  | _ => none }
def recordWalksRow : OpenClaim := { program := "ytjoajlmjlffehaa", sum := "68cca90b543fad9a82ea4c456d21640bf17ae54f36d8772b78fbea4d85201b3f", func := "saltern/salternlaw13.RecordWalks", spec := "recordWalks", apart := false }
def RecordWalksSaid : Prop := recordWalksRow.holds Try.pinned (OpenSpec.ofChange recordWalksSpec)

/-- ITS FALSE NEIGHBOUR: 'it returns false'. Refute it at one input. -/
def recordWalksWrong : ChangeSpec := { name := "recordWalks", fn := fun _ => fun
  | [d1, d2, d3] => { results := [.lit (.bool false)], args := [d1, d2, d3] }
  | _ => none }
def RecordWalksWrongFalsely : Prop := recordWalksRow.holds Try.pinned (OpenSpec.ofChange recordWalksWrong)

/-- 'salternlaw13.RecordOne': WHATEVER THE INPUT: true; the input reads as it did. -/
def recordOneSpec : ChangeSpec := { name := "recordOne", fn := fun _ => fun
  | [d1, d2] => { results := [.lit (.bool true)], args := [d1, d2] }
  | _ => none }
def recordOneRow : OpenClaim := { program := "ytjoajlmjlffehaa", sum := "68cca90b543fad9a82ea4c456d21640bf17ae54f36d8772b78fbea4d85201b3f", func := "saltern/salternlaw13.RecordOne", spec := "recordOne", apart := false }
def RecordOneSaid : Prop := recordOneRow.holds Try.pinned (OpenSpec.ofChange recordOneSpec)

/-- ITS FALSE NEIGHBOUR: 'it returns false'. Refute it at one input. -/
def recordOneWrong : ChangeSpec := { name := "recordOne", fn := fun _ => fun
  | [d1, d2] => { results := [.lit (.bool false)], args := [d1, d2] }
  | _ => none }
def RecordOneWrongFalsely : Prop := recordOneRow.holds Try.pinned (OpenSpec.ofChange recordOneWrong)

/-- 'salternlaw13.RecordEpochs': WHATEVER THE INPUT: true; the input reads as it did. -/
def recordEpochsSpec : ChangeSpec := { name := "recordEpochs", fn := fun _ => fun
  | [d1, d2] => { results := [.lit (.bool true)], args := [d1, d2] }
  | _ => none }
def recordEpochsRow : OpenClaim := { program := "ytjoajlmjlffehaa", sum := "68cca90b543fad9a82ea4c456d21640bf17ae54f36d8772b78fbea4d85201b3f", func := "saltern/salternlaw13.RecordEpochs", spec := "recordEpochs", apart := false }
def RecordEpochsSaid : Prop := recordEpochsRow.holds Try.pinned (OpenSpec.ofChange recordEpochsSpec)

/-- ITS FALSE NEIGHBOUR: 'it returns false'. Refute it at one input. -/
def recordEpochsWrong : ChangeSpec := { name := "recordEpochs", fn := fun _ => fun
  | [d1, d2] => { results := [.lit (.bool false)], args := [d1, d2] }
  | _ => none }
def RecordEpochsWrongFalsely : Prop := recordEpochsRow.holds Try.pinned (OpenSpec.ofChange recordEpochsWrong)

/-- 'salternlaw13.RecordForms': WHATEVER THE INPUT: true; the input reads as it did. -/
def recordFormsSpec : ChangeSpec := { name := "recordForms", fn := fun _ => fun
  | [d1, d2, d3, d4] => { results := [.lit (.bool true)], args := [d1, d2, d3, d4] }
  | _ => none }
def recordFormsRow : OpenClaim := { program := "ytjoajlmjlffehaa", sum := "68cca90b543fad9a82ea4c456d21640bf17ae54f36d8772b78fbea4d85201b3f", func := "saltern/salternlaw13.RecordForms", spec := "recordForms", apart := false }
def RecordFormsSaid : Prop := recordFormsRow.holds Try.pinned (OpenSpec.ofChange recordFormsSpec)

/-- ITS FALSE NEIGHBOUR: 'it returns false'. Refute it at one input. -/
def recordFormsWrong : ChangeSpec := { name := "recordForms", fn := fun _ => fun
  | [d1, d2, d3, d4] => { results := [.lit (.bool false)], args := [d1, d2, d3, d4] }
  | _ => none }
def RecordFormsWrongFalsely : Prop := recordFormsRow.holds Try.pinned (OpenSpec.ofChange recordFormsWrong)

/-- 'salternlaw13.RecordParses': WHATEVER THE INPUT: true; the input reads as it did. -/
def recordParsesSpec : ChangeSpec := { name := "recordParses", fn := fun _ => fun
  | [d] => { results := [.lit (.bool true)], args := [d] }
  | _ => none }
def recordParsesRow : OpenClaim := { program := "ytjoajlmjlffehaa", sum := "68cca90b543fad9a82ea4c456d21640bf17ae54f36d8772b78fbea4d85201b3f", func := "saltern/salternlaw13.RecordParses", spec := "recordParses", unfollowed := true, recurses := true, apart := false }
def RecordParsesSaid : Prop := recordParsesRow.holds Try.pinned (OpenSpec.ofChange recordParsesSpec)

/-- ITS FALSE NEIGHBOUR: 'it returns false'. Refute it at one input. -/
def recordParsesWrong : ChangeSpec := { name := "recordParses", fn := fun _ => fun
  | [d] => { results := [.lit (.bool false)], args := [d] }
  | _ => none }
def RecordParsesWrongFalsely : Prop := recordParsesRow.holds Try.pinned (OpenSpec.ofChange recordParsesWrong)

/-- 'salternlaw13.RecordBack': WHATEVER THE INPUT: true; the input reads as it did. -/
def recordBackSpec : ChangeSpec := { name := "recordBack", fn := fun _ => fun
  | [d1, d2] => { results := [.lit (.bool true)], args := [d1, d2] }
  | _ => none }
def recordBackRow : OpenClaim := { program := "ytjoajlmjlffehaa", sum := "68cca90b543fad9a82ea4c456d21640bf17ae54f36d8772b78fbea4d85201b3f", func := "saltern/salternlaw13.RecordBack", spec := "recordBack", unfollowed := true, recurses := true, apart := false }
def RecordBackSaid : Prop := recordBackRow.holds Try.pinned (OpenSpec.ofChange recordBackSpec)

/-- ITS FALSE NEIGHBOUR: 'it returns false'. Refute it at one input. -/
def recordBackWrong : ChangeSpec := { name := "recordBack", fn := fun _ => fun
  | [d1, d2] => { results := [.lit (.bool false)], args := [d1, d2] }
  | _ => none }
def RecordBackWrongFalsely : Prop := recordBackRow.holds Try.pinned (OpenSpec.ofChange recordBackWrong)

/- THE SECOND FORM. 'bulk': how many values and letters a reading holds, each counted each time it is reached (what is shared counts as often as it is met; a slice's spare places count too). A statement '..UptoSaid' is the law's where the arguments, and the package variables that the reading takes, are together of bulk at most 1048576: NARROWER than '..Said'. Prove '..Said' where nothing that the law and all that it calls make is longer than what came in: it says more and counts as full. Else prove '..UptoSaid'. A law counts once. -/
mutual
def uptoBulk {H : Type} : DataW H → Nat
  | .lit (.string bytes) => bytes.length + 1
  | .lit _ => 1
  | .nil => 1
  | .ptr d => uptoBulk d + 1
  | .slice elems spare => uptoBulkAll elems + uptoBulkAll spare + 1
  | .agg parts => uptoBulkAll parts + 1
  | .iface _ d => uptoBulk d + 1
  | .map entries => uptoBulkEntries entries + 1
  | .held _ => 1
def uptoBulkAll {H : Type} : List (DataW H) → Nat
  | [] => 0
  | d :: r => uptoBulk d + uptoBulkAll r
def uptoBulkEntries {H : Type} : List (Lit × DataW H) → Nat
  | [] => 0
  | x :: r => uptoBulkEntry x + uptoBulkEntries r
def uptoBulkEntry {H : Type} : Lit × DataW H → Nat
  | (.string bytes, d) => bytes.length + uptoBulk d + 1
  | (_, d) => uptoBulk d + 1
 end
def uptoSmall : (H : Type) → List (DataW H) → Bool := fun _ ds => decide (uptoBulkAll ds ≤ 1048576)
def OpenSpec.upto (s : _root_.Go.ChangeSpec) : _root_.Go.OpenSpec := { _root_.Go.OpenSpec.ofChange s with cond := some uptoSmall }

/-- 'salternlaw13.RecordWalks', WHERE WHAT IT READS IS OF BULK AT MOST 1048576: true; the input reads as it did. -/
def recordWalksUptoRow : OpenClaim := { program := "ytjoajlmjlffehaa", sum := "68cca90b543fad9a82ea4c456d21640bf17ae54f36d8772b78fbea4d85201b3f", func := "saltern/salternlaw13.RecordWalks", spec := "recordWalks", apart := false, narrowed := true }
def RecordWalksUptoSaid : Prop := recordWalksUptoRow.holds Try.pinned (OpenSpec.upto recordWalksSpec)

/-- 'salternlaw13.RecordOne', WHERE WHAT IT READS IS OF BULK AT MOST 1048576: true; the input reads as it did. -/
def recordOneUptoRow : OpenClaim := { program := "ytjoajlmjlffehaa", sum := "68cca90b543fad9a82ea4c456d21640bf17ae54f36d8772b78fbea4d85201b3f", func := "saltern/salternlaw13.RecordOne", spec := "recordOne", apart := false, narrowed := true }
def RecordOneUptoSaid : Prop := recordOneUptoRow.holds Try.pinned (OpenSpec.upto recordOneSpec)

/-- 'salternlaw13.RecordEpochs', WHERE WHAT IT READS IS OF BULK AT MOST 1048576: true; the input reads as it did. -/
def recordEpochsUptoRow : OpenClaim := { program := "ytjoajlmjlffehaa", sum := "68cca90b543fad9a82ea4c456d21640bf17ae54f36d8772b78fbea4d85201b3f", func := "saltern/salternlaw13.RecordEpochs", spec := "recordEpochs", apart := false, narrowed := true }
def RecordEpochsUptoSaid : Prop := recordEpochsUptoRow.holds Try.pinned (OpenSpec.upto recordEpochsSpec)

/-- 'salternlaw13.RecordForms', WHERE WHAT IT READS IS OF BULK AT MOST 1048576: true; the input reads as it did. -/
def recordFormsUptoRow : OpenClaim := { program := "ytjoajlmjlffehaa", sum := "68cca90b543fad9a82ea4c456d21640bf17ae54f36d8772b78fbea4d85201b3f", func := "saltern/salternlaw13.RecordForms", spec := "recordForms", apart := false, narrowed := true }
def RecordFormsUptoSaid : Prop := recordFormsUptoRow.holds Try.pinned (OpenSpec.upto recordFormsSpec)

/-- 'salternlaw13.RecordParses', WHERE WHAT IT READS IS OF BULK AT MOST 1048576: true; the input reads as it did. -/
def recordParsesUptoRow : OpenClaim := { program := "ytjoajlmjlffehaa", sum := "68cca90b543fad9a82ea4c456d21640bf17ae54f36d8772b78fbea4d85201b3f", func := "saltern/salternlaw13.RecordParses", spec := "recordParses", unfollowed := true, recurses := true, apart := false, narrowed := true }
def RecordParsesUptoSaid : Prop := recordParsesUptoRow.holds Try.pinned (OpenSpec.upto recordParsesSpec)

/-- 'salternlaw13.RecordBack', WHERE WHAT IT READS IS OF BULK AT MOST 1048576: true; the input reads as it did. -/
def recordBackUptoRow : OpenClaim := { program := "ytjoajlmjlffehaa", sum := "68cca90b543fad9a82ea4c456d21640bf17ae54f36d8772b78fbea4d85201b3f", func := "saltern/salternlaw13.RecordBack", spec := "recordBack", unfollowed := true, recurses := true, apart := false, narrowed := true }
def RecordBackUptoSaid : Prop := recordBackUptoRow.holds Try.pinned (OpenSpec.upto recordBackSpec)

end Rows
end Go.Proofs.Ytjoajlmjlffehaa
