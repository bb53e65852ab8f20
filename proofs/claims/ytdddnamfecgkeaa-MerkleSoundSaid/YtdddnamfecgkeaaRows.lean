/-
  No cell of these rows narrows 'for every input' (looked for: loops, veiled, ifaces, maps, wideKeys, modest, calm, conditions, laid).
  DERIVED. THE GIVEN ROWS OF THIS SEAT. 7 by the template 'for every input the law returns true; each argument reads behind the call as it read before'; 0 by the template 'total and deterministic' (their statements: YtdddnamfecgkeaaTotals.lean).
  GIVEN WITH THE SEED: the statements are not yours to turn. If you find one false, say at which input.
  Laid BY PROGRAM, IN A SANDBOX (cutbox-rows.mjs): the forced cells as the released guide's own fill.sh prints them over the translation 6e4dc77bc825021c… (all of the seat's roots in one cut). By AI agents, Wed Nov 11 2026. No macro, syntax, notation, axiom, sorry.
-/
import Derived.Test.YtdddnamfecgkeaaChecked
import GoSem.Claim
import GoSem.ClaimJoined
import GoSem.ClaimMapViews
import Derived.JoinedTies
import Derived.KernelRfl
namespace Go.Proofs.Ytdddnamfecgkeaa
/- THE CELL 'sum', in the pinned program and in every row, IS THE sha256 OF THE DUMP (.gsa) THAT YtdddnamfecgkeaaProg.lean LOADS. Nothing in Lean hashes anything: it is a label: what it is worth is what the hold of that sum in a sandbox is worth. -/
noncomputable def Try.pinned : Pinned := { name := "ytdddnamfecgkeaa", sum := "6e4dc77bc825021c2afbae1eb913d910be2bab7620dd872ef1c3aa28c0e52b12", checked := Try.checked }
namespace Rows
def none {H : Type} : Left H := { results := [], args := [] }

/-- 'salternlaw27.MerkleRoots': WHATEVER THE INPUT: true; the input reads as it did. -/
def merkleRootsSpec : ChangeSpec := { name := "merkleRoots", fn := fun _ => fun
  | [d1, d2] => { results := [.lit (.bool true)], args := [d1, d2] }
  | _ => none }
def merkleRootsRow : OpenClaim := { program := "ytdddnamfecgkeaa", sum := "6e4dc77bc825021c2afbae1eb913d910be2bab7620dd872ef1c3aa28c0e52b12", func := "saltern/salternlaw27.MerkleRoots", spec := "merkleRoots", recurses := true, apart := false }
def MerkleRootsSaid : Prop := merkleRootsRow.holds Try.pinned (OpenSpec.ofChange merkleRootsSpec)

/-- ITS FALSE NEIGHBOUR: 'it returns false'. Refute it at one input. -/
def merkleRootsWrong : ChangeSpec := { name := "merkleRoots", fn := fun _ => fun
  | [d1, d2] => { results := [.lit (.bool false)], args := [d1, d2] }
  | _ => none }
def MerkleRootsWrongFalsely : Prop := merkleRootsRow.holds Try.pinned (OpenSpec.ofChange merkleRootsWrong)

/-- 'salternlaw27.MerkleProofs': WHATEVER THE INPUT: true; the input reads as it did. -/
def merkleProofsSpec : ChangeSpec := { name := "merkleProofs", fn := fun _ => fun
  | [d1, d2, d3] => { results := [.lit (.bool true)], args := [d1, d2, d3] }
  | _ => none }
def merkleProofsRow : OpenClaim := { program := "ytdddnamfecgkeaa", sum := "6e4dc77bc825021c2afbae1eb913d910be2bab7620dd872ef1c3aa28c0e52b12", func := "saltern/salternlaw27.MerkleProofs", spec := "merkleProofs", recurses := true, apart := false }
def MerkleProofsSaid : Prop := merkleProofsRow.holds Try.pinned (OpenSpec.ofChange merkleProofsSpec)

/-- ITS FALSE NEIGHBOUR: 'it returns false'. Refute it at one input. -/
def merkleProofsWrong : ChangeSpec := { name := "merkleProofs", fn := fun _ => fun
  | [d1, d2, d3] => { results := [.lit (.bool false)], args := [d1, d2, d3] }
  | _ => none }
def MerkleProofsWrongFalsely : Prop := merkleProofsRow.holds Try.pinned (OpenSpec.ofChange merkleProofsWrong)

/-- 'salternlaw27.MerkleTakes': WHATEVER THE INPUT: true; the input reads as it did. -/
def merkleTakesSpec : ChangeSpec := { name := "merkleTakes", fn := fun _ => fun
  | [d1, d2, d3, d4, d5, d6] => { results := [.lit (.bool true)], args := [d1, d2, d3, d4, d5, d6] }
  | _ => none }
def merkleTakesRow : OpenClaim := { program := "ytdddnamfecgkeaa", sum := "6e4dc77bc825021c2afbae1eb913d910be2bab7620dd872ef1c3aa28c0e52b12", func := "saltern/salternlaw27.MerkleTakes", spec := "merkleTakes", unfollowed := true, recurses := true, apart := false }
def MerkleTakesSaid : Prop := merkleTakesRow.holds Try.pinned (OpenSpec.ofChange merkleTakesSpec)

/-- ITS FALSE NEIGHBOUR: 'it returns false'. Refute it at one input. -/
def merkleTakesWrong : ChangeSpec := { name := "merkleTakes", fn := fun _ => fun
  | [d1, d2, d3, d4, d5, d6] => { results := [.lit (.bool false)], args := [d1, d2, d3, d4, d5, d6] }
  | _ => none }
def MerkleTakesWrongFalsely : Prop := merkleTakesRow.holds Try.pinned (OpenSpec.ofChange merkleTakesWrong)

/-- 'salternlaw27.MerkleSound': WHATEVER THE INPUT: true; the input reads as it did. -/
def merkleSoundSpec : ChangeSpec := { name := "merkleSound", fn := fun _ => fun
  | [d1, d2, d3, d4, d5, d6, d7] => { results := [.lit (.bool true)], args := [d1, d2, d3, d4, d5, d6, d7] }
  | _ => none }
def merkleSoundRow : OpenClaim := { program := "ytdddnamfecgkeaa", sum := "6e4dc77bc825021c2afbae1eb913d910be2bab7620dd872ef1c3aa28c0e52b12", func := "saltern/salternlaw27.MerkleSound", spec := "merkleSound", unfollowed := true, recurses := true, apart := false }
def MerkleSoundSaid : Prop := merkleSoundRow.holds Try.pinned (OpenSpec.ofChange merkleSoundSpec)

/-- ITS FALSE NEIGHBOUR: 'it returns false'. Refute it at one input. -/
def merkleSoundWrong : ChangeSpec := { name := "merkleSound", fn := fun _ => fun
  | [d1, d2, d3, d4, d5, d6, d7] => { results := [.lit (.bool false)], args := [d1, d2, d3, d4, d5, d6, d7] }
  | _ => none }
def MerkleSoundWrongFalsely : Prop := merkleSoundRow.holds Try.pinned (OpenSpec.ofChange merkleSoundWrong)

/-- 'salternlaw27.MerkleProved': WHATEVER THE INPUT: true; the input reads as it did. -/
def merkleProvedSpec : ChangeSpec := { name := "merkleProved", fn := fun _ => fun
  | [d1, d2, d3] => { results := [.lit (.bool true)], args := [d1, d2, d3] }
  | _ => none }
def merkleProvedRow : OpenClaim := { program := "ytdddnamfecgkeaa", sum := "6e4dc77bc825021c2afbae1eb913d910be2bab7620dd872ef1c3aa28c0e52b12", func := "saltern/salternlaw27.MerkleProved", spec := "merkleProved", unfollowed := true, recurses := true, apart := false }
def MerkleProvedSaid : Prop := merkleProvedRow.holds Try.pinned (OpenSpec.ofChange merkleProvedSpec)

/-- ITS FALSE NEIGHBOUR: 'it returns false'. Refute it at one input. -/
def merkleProvedWrong : ChangeSpec := { name := "merkleProved", fn := fun _ => fun
  | [d1, d2, d3] => { results := [.lit (.bool false)], args := [d1, d2, d3] }
  | _ => none }
def MerkleProvedWrongFalsely : Prop := merkleProvedRow.holds Try.pinned (OpenSpec.ofChange merkleProvedWrong)

/-- 'salternlaw27.MerkleRecords': WHATEVER THE INPUT: true; the input reads as it did. -/
def merkleRecordsSpec : ChangeSpec := { name := "merkleRecords", fn := fun _ => fun
  | [d] => { results := [.lit (.bool true)], args := [d] }
  | _ => none }
def merkleRecordsRow : OpenClaim := { program := "ytdddnamfecgkeaa", sum := "6e4dc77bc825021c2afbae1eb913d910be2bab7620dd872ef1c3aa28c0e52b12", func := "saltern/salternlaw27.MerkleRecords", spec := "merkleRecords", recurses := true, apart := false }
def MerkleRecordsSaid : Prop := merkleRecordsRow.holds Try.pinned (OpenSpec.ofChange merkleRecordsSpec)

/-- ITS FALSE NEIGHBOUR: 'it returns false'. Refute it at one input. -/
def merkleRecordsWrong : ChangeSpec := { name := "merkleRecords", fn := fun _ => fun
  | [d] => { results := [.lit (.bool false)], args := [d] }
  | _ => none }
def MerkleRecordsWrongFalsely : Prop := merkleRecordsRow.holds Try.pinned (OpenSpec.ofChange merkleRecordsWrong)

/-- 'salternlaw27.MerkleLogs': WHATEVER THE INPUT: true; the input reads as it did. -/
def merkleLogsSpec : ChangeSpec := { name := "merkleLogs", fn := fun _ => fun
  | [d1, d2] => { results := [.lit (.bool true)], args := [d1, d2] }
  | _ => none }
def merkleLogsRow : OpenClaim := { program := "ytdddnamfecgkeaa", sum := "6e4dc77bc825021c2afbae1eb913d910be2bab7620dd872ef1c3aa28c0e52b12", func := "saltern/salternlaw27.MerkleLogs", spec := "merkleLogs", unfollowed := true, recurses := true, apart := false }
def MerkleLogsSaid : Prop := merkleLogsRow.holds Try.pinned (OpenSpec.ofChange merkleLogsSpec)

/-- ITS FALSE NEIGHBOUR: 'it returns false'. Refute it at one input. -/
def merkleLogsWrong : ChangeSpec := { name := "merkleLogs", fn := fun _ => fun
  | [d1, d2] => { results := [.lit (.bool false)], args := [d1, d2] }
  | _ => none }
def MerkleLogsWrongFalsely : Prop := merkleLogsRow.holds Try.pinned (OpenSpec.ofChange merkleLogsWrong)

/- THE SECOND FORM. 'bulk': how many values and letters a reading holds, each counted each time it is reached (what is shared counts as often as it is met; a slice's spare places count too). A statement '..UptoSaid' is the law's where the arguments, and the package variables that the reading takes, are together of bulk at most 1048576: NARROWER than '..Said'. Prove '..Said' where nothing that the law and all that it calls make is longer than what came in: it says more and counts as full. Else prove '..UptoSaid'. A law counts once. -/
mutual
def uptoBulk {H : Type} : DataW H → Nat
  | .lit (.string bytes) => bytes.length + 1
  | .lit _ => 1
  | .nil => 1
  | .ptr d => uptoBulk d + 1
  | .slice elems spare => uptoBulkAll elems + uptoBulkAll spare + 1
  | .agg parts => uptoBulkAll parts + 1
  | .iface _ d => uptoBulk d + 1
  | .map entries => uptoBulkEntries entries + 1
  | .held _ => 1
def uptoBulkAll {H : Type} : List (DataW H) → Nat
  | [] => 0
  | d :: r => uptoBulk d + uptoBulkAll r
def uptoBulkEntries {H : Type} : List (Lit × DataW H) → Nat
  | [] => 0
  | x :: r => uptoBulkEntry x + uptoBulkEntries r
def uptoBulkEntry {H : Type} : Lit × DataW H → Nat
  | (.string bytes, d) => bytes.length + uptoBulk d + 1
  | (_, d) => uptoBulk d + 1
 end
def uptoSmall : (H : Type) → List (DataW H) → Bool := fun _ ds => decide (uptoBulkAll ds ≤ 1048576)
def OpenSpec.upto (s : _root_.Go.ChangeSpec) : _root_.Go.OpenSpec := { _root_.Go.OpenSpec.ofChange s with cond := some uptoSmall }

/-- 'salternlaw27.MerkleRoots', WHERE WHAT IT READS IS OF BULK AT MOST 1048576: true; the input reads as it did. -/
def merkleRootsUptoRow : OpenClaim := { program := "ytdddnamfecgkeaa", sum := "6e4dc77bc825021c2afbae1eb913d910be2bab7620dd872ef1c3aa28c0e52b12", func := "saltern/salternlaw27.MerkleRoots", spec := "merkleRoots", recurses := true, apart := false, narrowed := true }
def MerkleRootsUptoSaid : Prop := merkleRootsUptoRow.holds Try.pinned (OpenSpec.upto merkleRootsSpec)

/-- 'salternlaw27.MerkleProofs', WHERE WHAT IT READS IS OF BULK AT MOST 1048576: true; the input reads as it did. -/
def merkleProofsUptoRow : OpenClaim := { program := "ytdddnamfecgkeaa", sum := "6e4dc77bc825021c2afbae1eb913d910be2bab7620dd872ef1c3aa28c0e52b12", func := "saltern/salternlaw27.MerkleProofs", spec := "merkleProofs", recurses := true, apart := false, narrowed := true }
def MerkleProofsUptoSaid : Prop := merkleProofsUptoRow.holds Try.pinned (OpenSpec.upto merkleProofsSpec)

/-- 'salternlaw27.MerkleTakes', WHERE WHAT IT READS IS OF BULK AT MOST 1048576: true; the input reads as it did. -/
def merkleTakesUptoRow : OpenClaim := { program := "ytdddnamfecgkeaa", sum := "6e4dc77bc825021c2afbae1eb913d910be2bab7620dd872ef1c3aa28c0e52b12", func := "saltern/salternlaw27.MerkleTakes", spec := "merkleTakes", unfollowed := true, recurses := true, apart := false, narrowed := true }
def MerkleTakesUptoSaid : Prop := merkleTakesUptoRow.holds Try.pinned (OpenSpec.upto merkleTakesSpec)

/-- 'salternlaw27.MerkleSound', WHERE WHAT IT READS IS OF BULK AT MOST 1048576: true; the input reads as it did. -/
def merkleSoundUptoRow : OpenClaim := { program := "ytdddnamfecgkeaa", sum := "6e4dc77bc825021c2afbae1eb913d910be2bab7620dd872ef1c3aa28c0e52b12", func := "saltern/salternlaw27.MerkleSound", spec := "merkleSound", unfollowed := true, recurses := true, apart := false, narrowed := true }
def MerkleSoundUptoSaid : Prop := merkleSoundUptoRow.holds Try.pinned (OpenSpec.upto merkleSoundSpec)

/-- 'salternlaw27.MerkleProved', WHERE WHAT IT READS IS OF BULK AT MOST 1048576: true; the input reads as it did. -/
def merkleProvedUptoRow : OpenClaim := { program := "ytdddnamfecgkeaa", sum := "6e4dc77bc825021c2afbae1eb913d910be2bab7620dd872ef1c3aa28c0e52b12", func := "saltern/salternlaw27.MerkleProved", spec := "merkleProved", unfollowed := true, recurses := true, apart := false, narrowed := true }
def MerkleProvedUptoSaid : Prop := merkleProvedUptoRow.holds Try.pinned (OpenSpec.upto merkleProvedSpec)

/-- 'salternlaw27.MerkleRecords', WHERE WHAT IT READS IS OF BULK AT MOST 1048576: true; the input reads as it did. -/
def merkleRecordsUptoRow : OpenClaim := { program := "ytdddnamfecgkeaa", sum := "6e4dc77bc825021c2afbae1eb913d910be2bab7620dd872ef1c3aa28c0e52b12", func := "saltern/salternlaw27.MerkleRecords", spec := "merkleRecords", recurses := true, apart := false, narrowed := true }
def MerkleRecordsUptoSaid : Prop := merkleRecordsUptoRow.holds Try.pinned (OpenSpec.upto merkleRecordsSpec)

/-- 'salternlaw27.MerkleLogs', WHERE WHAT IT READS IS OF BULK AT MOST 1048576: true; the input reads as it did. -/
def merkleLogsUptoRow : OpenClaim := { program := "ytdddnamfecgkeaa", sum := "6e4dc77bc825021c2afbae1eb913d910be2bab7620dd872ef1c3aa28c0e52b12", func := "saltern/salternlaw27.MerkleLogs", spec := "merkleLogs", unfollowed := true, recurses := true, apart := false, narrowed := true }
def MerkleLogsUptoSaid : Prop := merkleLogsUptoRow.holds Try.pinned (OpenSpec.upto merkleLogsSpec)

end Rows
end Go.Proofs.Ytdddnamfecgkeaa
