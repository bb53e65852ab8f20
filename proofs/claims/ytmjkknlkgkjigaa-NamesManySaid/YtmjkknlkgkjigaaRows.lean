/-
  No cell of these rows narrows 'for every input' (looked for: loops, veiled, ifaces, maps, wideKeys, modest, calm, conditions, laid).
  DERIVED. THE GIVEN ROWS OF THIS SEAT. 6 by the template 'for every input the law returns true; each argument reads behind the call as it read before'; 0 by the template 'total and deterministic' (their statements: YtmjkknlkgkjigaaTotals.lean).
  GIVEN WITH THE SEED: the statements are not yours to turn. If you find one false, say at which input.
  Laid BY PROGRAM, IN A SANDBOX (cutbox-rows.mjs): the forced cells as the released guide's own fill.sh prints them over the translation 2ef7aa5ef3d2a2ab… (all of the seat's roots in one cut). By AI agents, Wed Nov 11 2026. No macro, syntax, notation, axiom, sorry.
-/
import Derived.Test.YtmjkknlkgkjigaaChecked
import GoSem.Claim
import GoSem.ClaimJoined
import GoSem.ClaimMapViews
import Derived.JoinedTies
import Derived.KernelRfl
namespace Go.Proofs.Ytmjkknlkgkjigaa
/- THE CELL 'sum', in the pinned program and in every row, IS THE sha256 OF THE DUMP (.gsa) THAT YtmjkknlkgkjigaaProg.lean LOADS. Nothing in Lean hashes anything: it is a label: what it is worth is what the hold of that sum in a sandbox is worth. -/
noncomputable def Try.pinned : Pinned := { name := "ytmjkknlkgkjigaa", sum := "2ef7aa5ef3d2a2ab7609af1d194bfe7f37ad1372f06f7be318a0fe7cf101ad77", checked := Try.checked }
namespace Rows
def none {H : Type} : Left H := { results := [], args := [] }

/-- 'salternlaw15.NamesSlices': WHATEVER THE INPUT: true; the input reads as it did. -/
def namesSlicesSpec : ChangeSpec := { name := "namesSlices", fn := fun _ => fun
  | [d1, d2, d3, d4] => { results := [.lit (.bool true)], args := [d1, d2, d3, d4] }
  | _ => none }
def namesSlicesRow : OpenClaim := { program := "ytmjkknlkgkjigaa", sum := "2ef7aa5ef3d2a2ab7609af1d194bfe7f37ad1372f06f7be318a0fe7cf101ad77", func := "saltern/salternlaw15.NamesSlices", spec := "namesSlices", unfollowed := true, recurses := true, plainKeys := false, apart := false }
def NamesSlicesSaid : Prop := namesSlicesRow.holds Try.pinned (OpenSpec.ofChange namesSlicesSpec)

/-- ITS FALSE NEIGHBOUR: 'it returns false'. Refute it at one input. -/
def namesSlicesWrong : ChangeSpec := { name := "namesSlices", fn := fun _ => fun
  | [d1, d2, d3, d4] => { results := [.lit (.bool false)], args := [d1, d2, d3, d4] }
  | _ => none }
def NamesSlicesWrongFalsely : Prop := namesSlicesRow.holds Try.pinned (OpenSpec.ofChange namesSlicesWrong)

/-- 'salternlaw15.NamesLast': WHATEVER THE INPUT: true; the input reads as it did. -/
def namesLastSpec : ChangeSpec := { name := "namesLast", fn := fun _ => fun
  | [d1, d2, d3] => { results := [.lit (.bool true)], args := [d1, d2, d3] }
  | _ => none }
def namesLastRow : OpenClaim := { program := "ytmjkknlkgkjigaa", sum := "2ef7aa5ef3d2a2ab7609af1d194bfe7f37ad1372f06f7be318a0fe7cf101ad77", func := "saltern/salternlaw15.NamesLast", spec := "namesLast", unfollowed := true, recurses := true, plainKeys := false, apart := false }
def NamesLastSaid : Prop := namesLastRow.holds Try.pinned (OpenSpec.ofChange namesLastSpec)

/-- ITS FALSE NEIGHBOUR: 'it returns false'. Refute it at one input. -/
def namesLastWrong : ChangeSpec := { name := "namesLast", fn := fun _ => fun
  | [d1, d2, d3] => { results := [.lit (.bool false)], args := [d1, d2, d3] }
  | _ => none }
def NamesLastWrongFalsely : Prop := namesLastRow.holds Try.pinned (OpenSpec.ofChange namesLastWrong)

/-- 'salternlaw15.NamesFolds': WHATEVER THE INPUT: true; the input reads as it did. -/
def namesFoldsSpec : ChangeSpec := { name := "namesFolds", fn := fun _ => fun
  | [d] => { results := [.lit (.bool true)], args := [d] }
  | _ => none }
def namesFoldsRow : OpenClaim := { program := "ytmjkknlkgkjigaa", sum := "2ef7aa5ef3d2a2ab7609af1d194bfe7f37ad1372f06f7be318a0fe7cf101ad77", func := "saltern/salternlaw15.NamesFolds", spec := "namesFolds", unfollowed := true, recurses := true, plainKeys := false, apart := false }
def NamesFoldsSaid : Prop := namesFoldsRow.holds Try.pinned (OpenSpec.ofChange namesFoldsSpec)

/-- ITS FALSE NEIGHBOUR: 'it returns false'. Refute it at one input. -/
def namesFoldsWrong : ChangeSpec := { name := "namesFolds", fn := fun _ => fun
  | [d] => { results := [.lit (.bool false)], args := [d] }
  | _ => none }
def NamesFoldsWrongFalsely : Prop := namesFoldsRow.holds Try.pinned (OpenSpec.ofChange namesFoldsWrong)

/-- 'salternlaw15.NamesMany': WHATEVER THE INPUT: true; the input reads as it did. -/
def namesManySpec : ChangeSpec := { name := "namesMany", fn := fun _ => fun
  | [d] => { results := [.lit (.bool true)], args := [d] }
  | _ => none }
def namesManyRow : OpenClaim := { program := "ytmjkknlkgkjigaa", sum := "2ef7aa5ef3d2a2ab7609af1d194bfe7f37ad1372f06f7be318a0fe7cf101ad77", func := "saltern/salternlaw15.NamesMany", spec := "namesMany", unfollowed := true, recurses := true, plainKeys := false, apart := false }
def NamesManySaid : Prop := namesManyRow.holds Try.pinned (OpenSpec.ofChange namesManySpec)

/-- ITS FALSE NEIGHBOUR: 'it returns false'. Refute it at one input. -/
def namesManyWrong : ChangeSpec := { name := "namesMany", fn := fun _ => fun
  | [d] => { results := [.lit (.bool false)], args := [d] }
  | _ => none }
def NamesManyWrongFalsely : Prop := namesManyRow.holds Try.pinned (OpenSpec.ofChange namesManyWrong)

/-- 'salternlaw15.NamesRuns': WHATEVER THE INPUT: true; the input reads as it did. -/
def namesRunsSpec : ChangeSpec := { name := "namesRuns", fn := fun _ => fun
  | [d1, d2, d3, d4, d5] => { results := [.lit (.bool true)], args := [d1, d2, d3, d4, d5] }
  | _ => none }
def namesRunsRow : OpenClaim := { program := "ytmjkknlkgkjigaa", sum := "2ef7aa5ef3d2a2ab7609af1d194bfe7f37ad1372f06f7be318a0fe7cf101ad77", func := "saltern/salternlaw15.NamesRuns", spec := "namesRuns", inPlace := ["internal/bytealg.Compare"], unfollowed := true, recurses := true, plainKeys := false, apart := false }
def NamesRunsSaid : Prop := namesRunsRow.holds Try.pinned (OpenSpec.ofChange namesRunsSpec)

/-- ITS FALSE NEIGHBOUR: 'it returns false'. Refute it at one input. -/
def namesRunsWrong : ChangeSpec := { name := "namesRuns", fn := fun _ => fun
  | [d1, d2, d3, d4, d5] => { results := [.lit (.bool false)], args := [d1, d2, d3, d4, d5] }
  | _ => none }
def NamesRunsWrongFalsely : Prop := namesRunsRow.holds Try.pinned (OpenSpec.ofChange namesRunsWrong)

/-- 'salternlaw15.NamesNobody': WHATEVER THE INPUT: true; the input reads as it did. -/
def namesNobodySpec : ChangeSpec := { name := "namesNobody", fn := fun _ => fun
  | [d1, d2] => { results := [.lit (.bool true)], args := [d1, d2] }
  | _ => none }
def namesNobodyRow : OpenClaim := { program := "ytmjkknlkgkjigaa", sum := "2ef7aa5ef3d2a2ab7609af1d194bfe7f37ad1372f06f7be318a0fe7cf101ad77", func := "saltern/salternlaw15.NamesNobody", spec := "namesNobody", inPlace := ["internal/bytealg.Compare"], unfollowed := true, recurses := true, plainKeys := false, apart := false }
def NamesNobodySaid : Prop := namesNobodyRow.holds Try.pinned (OpenSpec.ofChange namesNobodySpec)

/-- ITS FALSE NEIGHBOUR: 'it returns false'. Refute it at one input. -/
def namesNobodyWrong : ChangeSpec := { name := "namesNobody", fn := fun _ => fun
  | [d1, d2] => { results := [.lit (.bool false)], args := [d1, d2] }
  | _ => none }
def NamesNobodyWrongFalsely : Prop := namesNobodyRow.holds Try.pinned (OpenSpec.ofChange namesNobodyWrong)

/- THE SECOND FORM. 'bulk': how many values and letters a reading holds, each counted each time it is reached (what is shared counts as often as it is met; a slice's spare places count too). A statement '..UptoSaid' is the law's where the arguments, and the package variables that the reading takes, are together of bulk at most 1048576: NARROWER than '..Said'. Prove '..Said' where nothing that the law and all that it calls make is longer than what came in: it says more and counts as full. Else prove '..UptoSaid'. A law counts once. -/
mutual
def uptoBulk {H : Type} : DataW H → Nat
  | .lit (.string bytes) => bytes.length + 1
  | .lit _ => 1
  | .nil => 1
  | .ptr d => uptoBulk d + 1
  | .slice elems spare => uptoBulkAll elems + uptoBulkAll spare + 1
  | .agg parts => uptoBulkAll parts + 1
  | .iface _ d => uptoBulk d + 1
  | .map entries => uptoBulkEntries entries + 1
  | .held _ => 1
def uptoBulkAll {H : Type} : List (DataW H) → Nat
  | [] => 0
  | d :: r => uptoBulk d + uptoBulkAll r
def uptoBulkEntries {H : Type} : List (Lit × DataW H) → Nat
  | [] => 0
  | x :: r => uptoBulkEntry x + uptoBulkEntries r
def uptoBulkEntry {H : Type} : Lit × DataW H → Nat
  | (.string bytes, d) => bytes.length + uptoBulk d + 1
  | (_, d) => uptoBulk d + 1
 end
def uptoSmall : (H : Type) → List (DataW H) → Bool := fun _ ds => decide (uptoBulkAll ds ≤ 1048576)
def OpenSpec.upto (s : _root_.Go.ChangeSpec) : _root_.Go.OpenSpec := { _root_.Go.OpenSpec.ofChange s with cond := some uptoSmall }

/-- 'salternlaw15.NamesSlices', WHERE WHAT IT READS IS OF BULK AT MOST 1048576: true; the input reads as it did. -/
def namesSlicesUptoRow : OpenClaim := { program := "ytmjkknlkgkjigaa", sum := "2ef7aa5ef3d2a2ab7609af1d194bfe7f37ad1372f06f7be318a0fe7cf101ad77", func := "saltern/salternlaw15.NamesSlices", spec := "namesSlices", unfollowed := true, recurses := true, plainKeys := false, apart := false, narrowed := true }
def NamesSlicesUptoSaid : Prop := namesSlicesUptoRow.holds Try.pinned (OpenSpec.upto namesSlicesSpec)

/-- 'salternlaw15.NamesLast', WHERE WHAT IT READS IS OF BULK AT MOST 1048576: true; the input reads as it did. -/
def namesLastUptoRow : OpenClaim := { program := "ytmjkknlkgkjigaa", sum := "2ef7aa5ef3d2a2ab7609af1d194bfe7f37ad1372f06f7be318a0fe7cf101ad77", func := "saltern/salternlaw15.NamesLast", spec := "namesLast", unfollowed := true, recurses := true, plainKeys := false, apart := false, narrowed := true }
def NamesLastUptoSaid : Prop := namesLastUptoRow.holds Try.pinned (OpenSpec.upto namesLastSpec)

/-- 'salternlaw15.NamesFolds', WHERE WHAT IT READS IS OF BULK AT MOST 1048576: true; the input reads as it did. -/
def namesFoldsUptoRow : OpenClaim := { program := "ytmjkknlkgkjigaa", sum := "2ef7aa5ef3d2a2ab7609af1d194bfe7f37ad1372f06f7be318a0fe7cf101ad77", func := "saltern/salternlaw15.NamesFolds", spec := "namesFolds", unfollowed := true, recurses := true, plainKeys := false, apart := false, narrowed := true }
def NamesFoldsUptoSaid : Prop := namesFoldsUptoRow.holds Try.pinned (OpenSpec.upto namesFoldsSpec)

/-- 'salternlaw15.NamesMany', WHERE WHAT IT READS IS OF BULK AT MOST 1048576: true; the input reads as it did. -/
def namesManyUptoRow : OpenClaim := { program := "ytmjkknlkgkjigaa", sum := "2ef7aa5ef3d2a2ab7609af1d194bfe7f37ad1372f06f7be318a0fe7cf101ad77", func := "saltern/salternlaw15.NamesMany", spec := "namesMany", unfollowed := true, recurses := true, plainKeys := false, apart := false, narrowed := true }
def NamesManyUptoSaid : Prop := namesManyUptoRow.holds Try.pinned (OpenSpec.upto namesManySpec)

/-- 'salternlaw15.NamesRuns', WHERE WHAT IT READS IS OF BULK AT MOST 1048576: true; the input reads as it did. -/
def namesRunsUptoRow : OpenClaim := { program := "ytmjkknlkgkjigaa", sum := "2ef7aa5ef3d2a2ab7609af1d194bfe7f37ad1372f06f7be318a0fe7cf101ad77", func := "saltern/salternlaw15.NamesRuns", spec := "namesRuns", inPlace := ["internal/bytealg.Compare"], unfollowed := true, recurses := true, plainKeys := false, apart := false, narrowed := true }
def NamesRunsUptoSaid : Prop := namesRunsUptoRow.holds Try.pinned (OpenSpec.upto namesRunsSpec)

/-- 'salternlaw15.NamesNobody', WHERE WHAT IT READS IS OF BULK AT MOST 1048576: true; the input reads as it did. -/
def namesNobodyUptoRow : OpenClaim := { program := "ytmjkknlkgkjigaa", sum := "2ef7aa5ef3d2a2ab7609af1d194bfe7f37ad1372f06f7be318a0fe7cf101ad77", func := "saltern/salternlaw15.NamesNobody", spec := "namesNobody", inPlace := ["internal/bytealg.Compare"], unfollowed := true, recurses := true, plainKeys := false, apart := false, narrowed := true }
def NamesNobodyUptoSaid : Prop := namesNobodyUptoRow.holds Try.pinned (OpenSpec.upto namesNobodySpec)

end Rows
end Go.Proofs.Ytmjkknlkgkjigaa
