/-
  No cell of these rows narrows 'for every input' (looked for: loops, veiled, ifaces, maps, wideKeys, modest, calm, conditions, laid).
  DERIVED. THE GIVEN ROWS OF THIS SEAT. 6 by the template 'for every input the law returns true; each argument reads behind the call as it read before'; 0 by the template 'total and deterministic' (their statements: YtglkhgodeghnlaaTotals.lean).
  GIVEN WITH THE SEED: the statements are not yours to turn. If you find one false, say at which input.
  Laid BY PROGRAM, IN A SANDBOX (cutbox-rows.mjs): the forced cells as the released guide's own fill.sh prints them over the translation c6093bf08eab828b… (all of the seat's roots in one cut). By AI agents, Wed Nov 11 2026. No macro, syntax, notation, axiom, sorry.
-/
import Derived.Test.YtglkhgodeghnlaaChecked
import GoSem.Claim
import GoSem.ClaimJoined
import GoSem.ClaimMapViews
import Derived.JoinedTies
import Derived.KernelRfl
namespace Go.Proofs.Ytglkhgodeghnlaa
/- THE CELL 'sum', in the pinned program and in every row, IS THE sha256 OF THE DUMP (.gsa) THAT YtglkhgodeghnlaaProg.lean LOADS. Nothing in Lean hashes anything: it is a label: what it is worth is what the hold of that sum in a sandbox is worth. -/
noncomputable def Try.pinned : Pinned := { name := "ytglkhgodeghnlaa", sum := "c6093bf08eab828bca035de93cd143d218bddc1f4be6403015177e4ca23ab38e", checked := Try.checked }
namespace Rows
def none {H : Type} : Left H := { results := [], args := [] }

/-- 'salternlaw28.ReconResponds': WHATEVER THE INPUT: true; the input reads as it did. -/
def reconRespondsSpec : ChangeSpec := { name := "reconResponds", fn := fun _ => fun
  | [d1, d2] => { results := [.lit (.bool true)], args := [d1, d2] }
  | _ => none }
def reconRespondsRow : OpenClaim := { program := "ytglkhgodeghnlaa", sum := "c6093bf08eab828bca035de93cd143d218bddc1f4be6403015177e4ca23ab38e", func := "saltern/salternlaw28.ReconResponds", spec := "reconResponds", inPlace := ["internal/bytealg.Compare"], unfollowed := true, recurses := true, plainKeys := false, apart := false }
def ReconRespondsSaid : Prop := reconRespondsRow.holds Try.pinned (OpenSpec.ofChange reconRespondsSpec)

/-- ITS FALSE NEIGHBOUR: 'it returns false'. Refute it at one input. -/
def reconRespondsWrong : ChangeSpec := { name := "reconResponds", fn := fun _ => fun
  | [d1, d2] => { results := [.lit (.bool false)], args := [d1, d2] }
  | _ => none }
def ReconRespondsWrongFalsely : Prop := reconRespondsRow.holds Try.pinned (OpenSpec.ofChange reconRespondsWrong)

/-- 'salternlaw28.ReconMeets': WHATEVER THE INPUT: true; the input reads as it did. -/
def reconMeetsSpec : ChangeSpec := { name := "reconMeets", fn := fun _ => fun
  | [d1, d2, d3] => { results := [.lit (.bool true)], args := [d1, d2, d3] }
  | _ => none }
def reconMeetsRow : OpenClaim := { program := "ytglkhgodeghnlaa", sum := "c6093bf08eab828bca035de93cd143d218bddc1f4be6403015177e4ca23ab38e", func := "saltern/salternlaw28.ReconMeets", spec := "reconMeets", inPlace := ["internal/bytealg.Compare"], unfollowed := true, recurses := true, plainKeys := false, apart := false }
def ReconMeetsSaid : Prop := reconMeetsRow.holds Try.pinned (OpenSpec.ofChange reconMeetsSpec)

/-- ITS FALSE NEIGHBOUR: 'it returns false'. Refute it at one input. -/
def reconMeetsWrong : ChangeSpec := { name := "reconMeets", fn := fun _ => fun
  | [d1, d2, d3] => { results := [.lit (.bool false)], args := [d1, d2, d3] }
  | _ => none }
def ReconMeetsWrongFalsely : Prop := reconMeetsRow.holds Try.pinned (OpenSpec.ofChange reconMeetsWrong)

/-- 'salternlaw28.ReconJust': WHATEVER THE INPUT: true; the input reads as it did. -/
def reconJustSpec : ChangeSpec := { name := "reconJust", fn := fun _ => fun
  | [d1, d2] => { results := [.lit (.bool true)], args := [d1, d2] }
  | _ => none }
def reconJustRow : OpenClaim := { program := "ytglkhgodeghnlaa", sum := "c6093bf08eab828bca035de93cd143d218bddc1f4be6403015177e4ca23ab38e", func := "saltern/salternlaw28.ReconJust", spec := "reconJust", inPlace := ["internal/bytealg.Compare"], unfollowed := true, recurses := true, plainKeys := false, apart := false }
def ReconJustSaid : Prop := reconJustRow.holds Try.pinned (OpenSpec.ofChange reconJustSpec)

/-- ITS FALSE NEIGHBOUR: 'it returns false'. Refute it at one input. -/
def reconJustWrong : ChangeSpec := { name := "reconJust", fn := fun _ => fun
  | [d1, d2] => { results := [.lit (.bool false)], args := [d1, d2] }
  | _ => none }
def ReconJustWrongFalsely : Prop := reconJustRow.holds Try.pinned (OpenSpec.ofChange reconJustWrong)

/-- 'salternlaw28.ReconBoth': WHATEVER THE INPUT: true; the input reads as it did. -/
def reconBothSpec : ChangeSpec := { name := "reconBoth", fn := fun _ => fun
  | [d1, d2] => { results := [.lit (.bool true)], args := [d1, d2] }
  | _ => none }
def reconBothRow : OpenClaim := { program := "ytglkhgodeghnlaa", sum := "c6093bf08eab828bca035de93cd143d218bddc1f4be6403015177e4ca23ab38e", func := "saltern/salternlaw28.ReconBoth", spec := "reconBoth", inPlace := ["internal/bytealg.Compare"], unfollowed := true, recurses := true, plainKeys := false, apart := false }
def ReconBothSaid : Prop := reconBothRow.holds Try.pinned (OpenSpec.ofChange reconBothSpec)

/-- ITS FALSE NEIGHBOUR: 'it returns false'. Refute it at one input. -/
def reconBothWrong : ChangeSpec := { name := "reconBoth", fn := fun _ => fun
  | [d1, d2] => { results := [.lit (.bool false)], args := [d1, d2] }
  | _ => none }
def ReconBothWrongFalsely : Prop := reconBothRow.holds Try.pinned (OpenSpec.ofChange reconBothWrong)

/-- 'salternlaw28.ReconSums': WHATEVER THE INPUT: true; the input reads as it did. -/
def reconSumsSpec : ChangeSpec := { name := "reconSums", fn := fun _ => fun
  | [d1, d2] => { results := [.lit (.bool true)], args := [d1, d2] }
  | _ => none }
def reconSumsRow : OpenClaim := { program := "ytglkhgodeghnlaa", sum := "c6093bf08eab828bca035de93cd143d218bddc1f4be6403015177e4ca23ab38e", func := "saltern/salternlaw28.ReconSums", spec := "reconSums", inPlace := ["internal/bytealg.Compare"], unfollowed := true, recurses := true, plainKeys := false, apart := false }
def ReconSumsSaid : Prop := reconSumsRow.holds Try.pinned (OpenSpec.ofChange reconSumsSpec)

/-- ITS FALSE NEIGHBOUR: 'it returns false'. Refute it at one input. -/
def reconSumsWrong : ChangeSpec := { name := "reconSums", fn := fun _ => fun
  | [d1, d2] => { results := [.lit (.bool false)], args := [d1, d2] }
  | _ => none }
def ReconSumsWrongFalsely : Prop := reconSumsRow.holds Try.pinned (OpenSpec.ofChange reconSumsWrong)

/-- 'salternlaw28.ReconForms': WHATEVER THE INPUT: true; the input reads as it did. -/
def reconFormsSpec : ChangeSpec := { name := "reconForms", fn := fun _ => fun
  | [d1, d2, d3, d4] => { results := [.lit (.bool true)], args := [d1, d2, d3, d4] }
  | _ => none }
def reconFormsRow : OpenClaim := { program := "ytglkhgodeghnlaa", sum := "c6093bf08eab828bca035de93cd143d218bddc1f4be6403015177e4ca23ab38e", func := "saltern/salternlaw28.ReconForms", spec := "reconForms", inPlace := ["internal/bytealg.Compare"], unfollowed := true, recurses := true, plainKeys := false, apart := false }
def ReconFormsSaid : Prop := reconFormsRow.holds Try.pinned (OpenSpec.ofChange reconFormsSpec)

/-- ITS FALSE NEIGHBOUR: 'it returns false'. Refute it at one input. -/
def reconFormsWrong : ChangeSpec := { name := "reconForms", fn := fun _ => fun
  | [d1, d2, d3, d4] => { results := [.lit (.bool false)], args := [d1, d2, d3, d4] }
  | _ => none }
def ReconFormsWrongFalsely : Prop := reconFormsRow.holds Try.pinned (OpenSpec.ofChange reconFormsWrong)

/- THE SECOND FORM. 'bulk': how many values and letters a reading holds, each counted each time it is reached (what is shared counts as often as it is met; a slice's spare places count too). A statement '..UptoSaid' is the law's where the arguments, and the package variables that the reading takes, are together of bulk at most 1048576: NARROWER than '..Said'. Prove '..Said' where nothing that the law and all that it calls make is longer than what came in: it says more and counts as full. Else prove '..UptoSaid'. A law counts once. -/
mutual
def uptoBulk {H : Type} : DataW H → Nat
  | .lit (.string bytes) => bytes.length + 1
  | .lit _ => 1
  | .nil => 1
  | .ptr d => uptoBulk d + 1
  | .slice elems spare => uptoBulkAll elems + uptoBulkAll spare + 1
  | .agg parts => uptoBulkAll parts + 1
  | .iface _ d => uptoBulk d + 1
  | .map entries => uptoBulkEntries entries + 1
  | .held _ => 1
def uptoBulkAll {H : Type} : List (DataW H) → Nat
  | [] => 0
  | d :: r => uptoBulk d + uptoBulkAll r
def uptoBulkEntries {H : Type} : List (Lit × DataW H) → Nat
  | [] => 0
  | x :: r => uptoBulkEntry x + uptoBulkEntries r
def uptoBulkEntry {H : Type} : Lit × DataW H → Nat
  | (.string bytes, d) => bytes.length + uptoBulk d + 1
  | (_, d) => uptoBulk d + 1
 end
def uptoSmall : (H : Type) → List (DataW H) → Bool := fun _ ds => decide (uptoBulkAll ds ≤ 1048576)
def OpenSpec.upto (s : _root_.Go.ChangeSpec) : _root_.Go.OpenSpec := { _root_.Go.OpenSpec.ofChange s with cond := some uptoSmall }

/-- 'salternlaw28.ReconResponds', WHERE WHAT IT READS IS OF BULK AT MOST 1048576: true; the input reads as it did. -/
def reconRespondsUptoRow : OpenClaim := { program := "ytglkhgodeghnlaa", sum := "c6093bf08eab828bca035de93cd143d218bddc1f4be6403015177e4ca23ab38e", func := "saltern/salternlaw28.ReconResponds", spec := "reconResponds", inPlace := ["internal/bytealg.Compare"], unfollowed := true, recurses := true, plainKeys := false, apart := false, narrowed := true }
def ReconRespondsUptoSaid : Prop := reconRespondsUptoRow.holds Try.pinned (OpenSpec.upto reconRespondsSpec)

/-- 'salternlaw28.ReconMeets', WHERE WHAT IT READS IS OF BULK AT MOST 1048576: true; the input reads as it did. -/
def reconMeetsUptoRow : OpenClaim := { program := "ytglkhgodeghnlaa", sum := "c6093bf08eab828bca035de93cd143d218bddc1f4be6403015177e4ca23ab38e", func := "saltern/salternlaw28.ReconMeets", spec := "reconMeets", inPlace := ["internal/bytealg.Compare"], unfollowed := true, recurses := true, plainKeys := false, apart := false, narrowed := true }
def ReconMeetsUptoSaid : Prop := reconMeetsUptoRow.holds Try.pinned (OpenSpec.upto reconMeetsSpec)

/-- 'salternlaw28.ReconJust', WHERE WHAT IT READS IS OF BULK AT MOST 1048576: true; the input reads as it did. -/
def reconJustUptoRow : OpenClaim := { program := "ytglkhgodeghnlaa", sum := "c6093bf08eab828bca035de93cd143d218bddc1f4be6403015177e4ca23ab38e", func := "saltern/salternlaw28.ReconJust", spec := "reconJust", inPlace := ["internal/bytealg.Compare"], unfollowed := true, recurses := true, plainKeys := false, apart := false, narrowed := true }
def ReconJustUptoSaid : Prop := reconJustUptoRow.holds Try.pinned (OpenSpec.upto reconJustSpec)

/-- 'salternlaw28.ReconBoth', WHERE WHAT IT READS IS OF BULK AT MOST 1048576: true; the input reads as it did. -/
def reconBothUptoRow : OpenClaim := { program := "ytglkhgodeghnlaa", sum := "c6093bf08eab828bca035de93cd143d218bddc1f4be6403015177e4ca23ab38e", func := "saltern/salternlaw28.ReconBoth", spec := "reconBoth", inPlace := ["internal/bytealg.Compare"], unfollowed := true, recurses := true, plainKeys := false, apart := false, narrowed := true }
def ReconBothUptoSaid : Prop := reconBothUptoRow.holds Try.pinned (OpenSpec.upto reconBothSpec)

/-- 'salternlaw28.ReconSums', WHERE WHAT IT READS IS OF BULK AT MOST 1048576: true; the input reads as it did. -/
def reconSumsUptoRow : OpenClaim := { program := "ytglkhgodeghnlaa", sum := "c6093bf08eab828bca035de93cd143d218bddc1f4be6403015177e4ca23ab38e", func := "saltern/salternlaw28.ReconSums", spec := "reconSums", inPlace := ["internal/bytealg.Compare"], unfollowed := true, recurses := true, plainKeys := false, apart := false, narrowed := true }
def ReconSumsUptoSaid : Prop := reconSumsUptoRow.holds Try.pinned (OpenSpec.upto reconSumsSpec)

/-- 'salternlaw28.ReconForms', WHERE WHAT IT READS IS OF BULK AT MOST 1048576: true; the input reads as it did. -/
def reconFormsUptoRow : OpenClaim := { program := "ytglkhgodeghnlaa", sum := "c6093bf08eab828bca035de93cd143d218bddc1f4be6403015177e4ca23ab38e", func := "saltern/salternlaw28.ReconForms", spec := "reconForms", inPlace := ["internal/bytealg.Compare"], unfollowed := true, recurses := true, plainKeys := false, apart := false, narrowed := true }
def ReconFormsUptoSaid : Prop := reconFormsUptoRow.holds Try.pinned (OpenSpec.upto reconFormsSpec)

end Rows
end Go.Proofs.Ytglkhgodeghnlaa
