/-
  No cell of these rows narrows 'for every input' (looked for: loops, veiled, ifaces, maps, wideKeys, modest, calm, conditions, laid).
  DERIVED. THE GIVEN ROWS OF THIS SEAT. 5 by the template 'for every input the law returns true; each argument reads behind the call as it read before'; 0 by the template 'total and deterministic' (their statements: YtogjeflhlnnbdaaTotals.lean).
  GIVEN WITH THE SEED: the statements are not yours to turn. If you find one false, say at which input.
  Laid BY PROGRAM, IN A SANDBOX (cutbox-rows.mjs): the forced cells as the released guide's own fill.sh prints them over the translation f5d0c4abce231f2f… (all of the seat's roots in one cut). By AI agents, Wed Nov 11 2026. No macro, syntax, notation, axiom, sorry.
-/
import Derived.Test.YtogjeflhlnnbdaaChecked
import GoSem.Claim
import GoSem.ClaimJoined
import GoSem.ClaimMapViews
import Derived.JoinedTies
import Derived.KernelRfl
namespace Go.Proofs.Ytogjeflhlnnbdaa
/- THE CELL 'sum', in the pinned program and in every row, IS THE sha256 OF THE DUMP (.gsa) THAT YtogjeflhlnnbdaaProg.lean LOADS. Nothing in Lean hashes anything: it is a label: what it is worth is what the hold of that sum in a sandbox is worth. -/
noncomputable def Try.pinned : Pinned := { name := "ytogjeflhlnnbdaa", sum := "f5d0c4abce231f2fd227752429ac2dd3fb851c382f23c1bb20c621ed616407f6", checked := Try.checked }
namespace Rows
def none {H : Type} : Left H := { results := [], args := [] }

/-- 'salternlaw20.ShipForms': WHATEVER THE INPUT: true; the input reads as it did. -/
def shipFormsSpec : ChangeSpec := { name := "shipForms", fn := fun _ => fun
  | [d1, d2] => { results := [.lit (.bool true)], args := [d1, d2] }
  | _ => none }
def shipFormsRow : OpenClaim := { program := "ytogjeflhlnnbdaa", sum := "f5d0c4abce231f2fd227752429ac2dd3fb851c382f23c1bb20c621ed616407f6", func := "saltern/salternlaw20.ShipForms", spec := "shipForms", inPlace := ["internal/bytealg.Compare"], unfollowed := true, recurses := true, plainKeys := false, apart := false }
def ShipFormsSaid : Prop := shipFormsRow.holds Try.pinned (OpenSpec.ofChange shipFormsSpec)

/-- ITS FALSE NEIGHBOUR: 'it returns false'. Refute it at one input. -/
def shipFormsWrong : ChangeSpec := { name := "shipForms", fn := fun _ => fun
  | [d1, d2] => { results := [.lit (.bool false)], args := [d1, d2] }
  | _ => none }
def ShipFormsWrongFalsely : Prop := shipFormsRow.holds Try.pinned (OpenSpec.ofChange shipFormsWrong)

/-- 'salternlaw20.ShipReads': WHATEVER THE INPUT: true; the input reads as it did. -/
def shipReadsSpec : ChangeSpec := { name := "shipReads", fn := fun _ => fun
  | [d] => { results := [.lit (.bool true)], args := [d] }
  | _ => none }
def shipReadsRow : OpenClaim := { program := "ytogjeflhlnnbdaa", sum := "f5d0c4abce231f2fd227752429ac2dd3fb851c382f23c1bb20c621ed616407f6", func := "saltern/salternlaw20.ShipReads", spec := "shipReads", inPlace := ["internal/bytealg.Compare"], unfollowed := true, recurses := true, plainKeys := false, apart := false }
def ShipReadsSaid : Prop := shipReadsRow.holds Try.pinned (OpenSpec.ofChange shipReadsSpec)

/-- ITS FALSE NEIGHBOUR: 'it returns false'. Refute it at one input. -/
def shipReadsWrong : ChangeSpec := { name := "shipReads", fn := fun _ => fun
  | [d] => { results := [.lit (.bool false)], args := [d] }
  | _ => none }
def ShipReadsWrongFalsely : Prop := shipReadsRow.holds Try.pinned (OpenSpec.ofChange shipReadsWrong)

/-- 'salternlaw20.ShipBack': WHATEVER THE INPUT: true; the input reads as it did. -/
def shipBackSpec : ChangeSpec := { name := "shipBack", fn := fun _ => fun
  | [d1, d2] => { results := [.lit (.bool true)], args := [d1, d2] }
  | _ => none }
def shipBackRow : OpenClaim := { program := "ytogjeflhlnnbdaa", sum := "f5d0c4abce231f2fd227752429ac2dd3fb851c382f23c1bb20c621ed616407f6", func := "saltern/salternlaw20.ShipBack", spec := "shipBack", inPlace := ["internal/bytealg.Compare"], unfollowed := true, recurses := true, plainKeys := false, apart := false }
def ShipBackSaid : Prop := shipBackRow.holds Try.pinned (OpenSpec.ofChange shipBackSpec)

/-- ITS FALSE NEIGHBOUR: 'it returns false'. Refute it at one input. -/
def shipBackWrong : ChangeSpec := { name := "shipBack", fn := fun _ => fun
  | [d1, d2] => { results := [.lit (.bool false)], args := [d1, d2] }
  | _ => none }
def ShipBackWrongFalsely : Prop := shipBackRow.holds Try.pinned (OpenSpec.ofChange shipBackWrong)

/-- 'salternlaw20.ShipMissing': WHATEVER THE INPUT: true; the input reads as it did. -/
def shipMissingSpec : ChangeSpec := { name := "shipMissing", fn := fun _ => fun
  | [d1, d2, d3] => { results := [.lit (.bool true)], args := [d1, d2, d3] }
  | _ => none }
def shipMissingRow : OpenClaim := { program := "ytogjeflhlnnbdaa", sum := "f5d0c4abce231f2fd227752429ac2dd3fb851c382f23c1bb20c621ed616407f6", func := "saltern/salternlaw20.ShipMissing", spec := "shipMissing", inPlace := ["internal/bytealg.Compare"], unfollowed := true, recurses := true, plainKeys := false, apart := false }
def ShipMissingSaid : Prop := shipMissingRow.holds Try.pinned (OpenSpec.ofChange shipMissingSpec)

/-- ITS FALSE NEIGHBOUR: 'it returns false'. Refute it at one input. -/
def shipMissingWrong : ChangeSpec := { name := "shipMissing", fn := fun _ => fun
  | [d1, d2, d3] => { results := [.lit (.bool false)], args := [d1, d2, d3] }
  | _ => none }
def ShipMissingWrongFalsely : Prop := shipMissingRow.holds Try.pinned (OpenSpec.ofChange shipMissingWrong)

/-- 'salternlaw20.ShipTurns': WHATEVER THE INPUT: true; the input reads as it did. -/
def shipTurnsSpec : ChangeSpec := { name := "shipTurns", fn := fun _ => fun
  | [d1, d2, d3] => { results := [.lit (.bool true)], args := [d1, d2, d3] }
  | _ => none }
def shipTurnsRow : OpenClaim := { program := "ytogjeflhlnnbdaa", sum := "f5d0c4abce231f2fd227752429ac2dd3fb851c382f23c1bb20c621ed616407f6", func := "saltern/salternlaw20.ShipTurns", spec := "shipTurns", inPlace := ["internal/bytealg.Compare"], unfollowed := true, recurses := true, plainKeys := false, apart := false }
def ShipTurnsSaid : Prop := shipTurnsRow.holds Try.pinned (OpenSpec.ofChange shipTurnsSpec)

/-- ITS FALSE NEIGHBOUR: 'it returns false'. Refute it at one input. -/
def shipTurnsWrong : ChangeSpec := { name := "shipTurns", fn := fun _ => fun
  | [d1, d2, d3] => { results := [.lit (.bool false)], args := [d1, d2, d3] }
  | _ => none }
def ShipTurnsWrongFalsely : Prop := shipTurnsRow.holds Try.pinned (OpenSpec.ofChange shipTurnsWrong)

/- THE SECOND FORM. 'bulk': how many values and letters a reading holds, each counted each time it is reached (what is shared counts as often as it is met; a slice's spare places count too). A statement '..UptoSaid' is the law's where the arguments, and the package variables that the reading takes, are together of bulk at most 1048576: NARROWER than '..Said'. Prove '..Said' where nothing that the law and all that it calls make is longer than what came in: it says more and counts as full. Else prove '..UptoSaid'. A law counts once. -/
mutual
def uptoBulk {H : Type} : DataW H → Nat
  | .lit (.string bytes) => bytes.length + 1
  | .lit _ => 1
  | .nil => 1
  | .ptr d => uptoBulk d + 1
  | .slice elems spare => uptoBulkAll elems + uptoBulkAll spare + 1
  | .agg parts => uptoBulkAll parts + 1
  | .iface _ d => uptoBulk d + 1
  | .map entries => uptoBulkEntries entries + 1
  | .held _ => 1
def uptoBulkAll {H : Type} : List (DataW H) → Nat
  | [] => 0
  | d :: r => uptoBulk d + uptoBulkAll r
def uptoBulkEntries {H : Type} : List (Lit × DataW H) → Nat
  | [] => 0
  | x :: r => uptoBulkEntry x + uptoBulkEntries r
def uptoBulkEntry {H : Type} : Lit × DataW H → Nat
  | (.string bytes, d) => bytes.length + uptoBulk d + 1
  | (_, d) => uptoBulk d + 1
 end
def uptoSmall : (H : Type) → List (DataW H) → Bool := fun _ ds => decide (uptoBulkAll ds ≤ 1048576)
def OpenSpec.upto (s : _root_.Go.ChangeSpec) : _root_.Go.OpenSpec := { _root_.Go.OpenSpec.ofChange s with cond := some uptoSmall }

/-- 'salternlaw20.ShipForms', WHERE WHAT IT READS IS OF BULK AT MOST 1048576: true; the input reads as it did. -/
def shipFormsUptoRow : OpenClaim := { program := "ytogjeflhlnnbdaa", sum := "f5d0c4abce231f2fd227752429ac2dd3fb851c382f23c1bb20c621ed616407f6", func := "saltern/salternlaw20.ShipForms", spec := "shipForms", inPlace := ["internal/bytealg.Compare"], unfollowed := true, recurses := true, plainKeys := false, apart := false, narrowed := true }
def ShipFormsUptoSaid : Prop := shipFormsUptoRow.holds Try.pinned (OpenSpec.upto shipFormsSpec)

/-- 'salternlaw20.ShipReads', WHERE WHAT IT READS IS OF BULK AT MOST 1048576: true; the input reads as it did. -/
def shipReadsUptoRow : OpenClaim := { program := "ytogjeflhlnnbdaa", sum := "f5d0c4abce231f2fd227752429ac2dd3fb851c382f23c1bb20c621ed616407f6", func := "saltern/salternlaw20.ShipReads", spec := "shipReads", inPlace := ["internal/bytealg.Compare"], unfollowed := true, recurses := true, plainKeys := false, apart := false, narrowed := true }
def ShipReadsUptoSaid : Prop := shipReadsUptoRow.holds Try.pinned (OpenSpec.upto shipReadsSpec)

/-- 'salternlaw20.ShipBack', WHERE WHAT IT READS IS OF BULK AT MOST 1048576: true; the input reads as it did. -/
def shipBackUptoRow : OpenClaim := { program := "ytogjeflhlnnbdaa", sum := "f5d0c4abce231f2fd227752429ac2dd3fb851c382f23c1bb20c621ed616407f6", func := "saltern/salternlaw20.ShipBack", spec := "shipBack", inPlace := ["internal/bytealg.Compare"], unfollowed := true, recurses := true, plainKeys := false, apart := false, narrowed := true }
def ShipBackUptoSaid : Prop := shipBackUptoRow.holds Try.pinned (OpenSpec.upto shipBackSpec)

/-- 'salternlaw20.ShipMissing', WHERE WHAT IT READS IS OF BULK AT MOST 1048576: true; the input reads as it did. -/
def shipMissingUptoRow : OpenClaim := { program := "ytogjeflhlnnbdaa", sum := "f5d0c4abce231f2fd227752429ac2dd3fb851c382f23c1bb20c621ed616407f6", func := "saltern/salternlaw20.ShipMissing", spec := "shipMissing", inPlace := ["internal/bytealg.Compare"], unfollowed := true, recurses := true, plainKeys := false, apart := false, narrowed := true }
def ShipMissingUptoSaid : Prop := shipMissingUptoRow.holds Try.pinned (OpenSpec.upto shipMissingSpec)

/-- 'salternlaw20.ShipTurns', WHERE WHAT IT READS IS OF BULK AT MOST 1048576: true; the input reads as it did. -/
def shipTurnsUptoRow : OpenClaim := { program := "ytogjeflhlnnbdaa", sum := "f5d0c4abce231f2fd227752429ac2dd3fb851c382f23c1bb20c621ed616407f6", func := "saltern/salternlaw20.ShipTurns", spec := "shipTurns", inPlace := ["internal/bytealg.Compare"], unfollowed := true, recurses := true, plainKeys := false, apart := false, narrowed := true }
def ShipTurnsUptoSaid : Prop := shipTurnsUptoRow.holds Try.pinned (OpenSpec.upto shipTurnsSpec)

end Rows
end Go.Proofs.Ytogjeflhlnnbdaa
