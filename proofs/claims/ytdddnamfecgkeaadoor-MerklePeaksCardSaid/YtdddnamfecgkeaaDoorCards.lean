/-
  DERIVED. GIVEN WITH THE SEED: THE CARDS: each row of YtdddnamfecgkeaaDoorRows.lean that lists a variable, with what it lists TIED to the program's text (the seventh form; the later family's looks); each row that meets fmt, with fmt's text TOLD by the authors' own Lean function (tested against real Go, not proved from fmt's source: count such statements apart). THE CARD IS WHAT COUNTS. Prove the row's statement (the work); the ties are given (YtdddnamfecgkeaaDoorTie.lean); close each card by the builder's one call (the guide's Derived/Test/ToyasCard.lean, 'card_holds'). Laid BY PROGRAM, IN A SANDBOX (cutbox-door.mjs). By AI agents, Wed Nov 11 2026. No macro, syntax, notation, axiom, sorry.
-/
import Derived.Test.YtdddnamfecgkeaaDoorRows
import GoSem.ClaimSeven
namespace Go.Proofs.YtdddnamfecgkeaaDoor
namespace Rows

/-- THE TIED CARD OF 'salternlaw27.MerkleNobody'. -/
def merkleNobodyCard : Claim7 := { stood := { row := merkleNobodyRow, standIns := [], harness := (true, "c3a1e2f2c853349462bc3c18541d9b81636c682f93b73f5203041a78aea88c64"), looks := false }, kinds := [], alts := [], laidByText := true, laidKinds := [.data, .data], laidTests := true, laidLooks := .later }
def MerkleNobodyCardSaid : Prop := Claim7.holds Tryd.pinned (.plain (OpenSpec.ofChange merkleNobodySpec)) merkleNobodyCard

/-- THE TIED CARD OF 'salternlaw27.MerkleTrees'. -/
def merkleTreesCard : Claim7 := { stood := { row := merkleTreesRow, standIns := [], harness := (true, "c3a1e2f2c853349462bc3c18541d9b81636c682f93b73f5203041a78aea88c64"), looks := false }, kinds := [], alts := [], laidByText := true, laidKinds := [.data, .data], laidTests := true, laidLooks := .later }
def MerkleTreesCardSaid : Prop := Claim7.holds Tryd.pinned (.plain (OpenSpec.ofChange merkleTreesSpec)) merkleTreesCard

/-- THE TIED CARD OF 'salternlaw27.MerklePeaks'. -/
def merklePeaksCard : Claim7 := { stood := { row := merklePeaksRow, standIns := [], harness := (true, "c3a1e2f2c853349462bc3c18541d9b81636c682f93b73f5203041a78aea88c64"), looks := false }, kinds := [], alts := [], laidByText := true, laidKinds := [.data, .data], laidTests := true, laidLooks := .later }
def MerklePeaksCardSaid : Prop := Claim7.holds Tryd.pinned (.plain (OpenSpec.ofChange merklePeaksSpec)) merklePeaksCard

/-- THE SECOND FORM's CARD OF 'salternlaw27.MerkleNobody'. -/
def merkleNobodyUptoCard : Claim7 := { stood := { row := merkleNobodyUptoRow, standIns := [], harness := (true, "c3a1e2f2c853349462bc3c18541d9b81636c682f93b73f5203041a78aea88c64"), looks := false }, kinds := [], alts := [], laidByText := true, laidKinds := [.data, .data], laidTests := true, laidLooks := .later }
def MerkleNobodyUptoCardSaid : Prop := Claim7.holds Tryd.pinned (.plain (OpenSpec.upto merkleNobodySpec)) merkleNobodyUptoCard

/-- THE SECOND FORM's CARD OF 'salternlaw27.MerkleTrees'. -/
def merkleTreesUptoCard : Claim7 := { stood := { row := merkleTreesUptoRow, standIns := [], harness := (true, "c3a1e2f2c853349462bc3c18541d9b81636c682f93b73f5203041a78aea88c64"), looks := false }, kinds := [], alts := [], laidByText := true, laidKinds := [.data, .data], laidTests := true, laidLooks := .later }
def MerkleTreesUptoCardSaid : Prop := Claim7.holds Tryd.pinned (.plain (OpenSpec.upto merkleTreesSpec)) merkleTreesUptoCard

/-- THE SECOND FORM's CARD OF 'salternlaw27.MerklePeaks'. -/
def merklePeaksUptoCard : Claim7 := { stood := { row := merklePeaksUptoRow, standIns := [], harness := (true, "c3a1e2f2c853349462bc3c18541d9b81636c682f93b73f5203041a78aea88c64"), looks := false }, kinds := [], alts := [], laidByText := true, laidKinds := [.data, .data], laidTests := true, laidLooks := .later }
def MerklePeaksUptoCardSaid : Prop := Claim7.holds Tryd.pinned (.plain (OpenSpec.upto merklePeaksSpec)) merklePeaksUptoCard
end Rows
end Go.Proofs.YtdddnamfecgkeaaDoor
