/- For every input the law saltern/salternlaw20.ShipTurns returns true, and what it is given reads behind the call as it read before; no condition is set on the input. -/
import Derived.Test.YtogjeflhlnnbdaaRows
import Derived.Test.YtogjeflhlnnbdaaWCShip4
import Derived.Test.YtogjeflhlnnbdaaWVseClose
import Derived.Handed
set_option maxRecDepth 100000
namespace Go.Proofs.Ytogjeflhlnnbdaa.shipTurns
open Go.ChangeShapes Go.WideShapes Go.ChangeAt Go.RowKit Go.Vse Go.Sal Go.Sal.Nm

theorem own : ownKnob Try.prog.godebug = none := by kernel_rfl
def zSlice : Value := .slice none 0 0
def zInt : Value := .int .i64 0
theorem lifted (os : Os) (started : os.Started) (H : Type) (enc : TypeId × Value → H) :
 ReturnsInHanded {} Try.checked os 7 .any (Rows.shipTurnsSpec.pre6 enc Try.prog Try.f7 Rows.shipTurnsRow.domain false) (Rows.shipTurnsSpec.post enc Try.prog Try.f7 false true false false) := by
 refine returnsInHanded_of_change (C := Try.checked) own started (by kernel_rfl) Try.func7
  (ChangeSpec.witness6 (enc := enc) (C := Try.checked) false ⟨#[], #[zSlice, zSlice, (.int .u8 0)], []⟩ 12 (by kernel_rfl) (by kernel_rfl) (by kernel_rfl) (by kernel_rfl)) ?_
 intro W base args ds gs before hval hW _ _
 exact law_calls law20_ShipTurnsF_spec (params_as 12 (by kernel_rfl)) (tb := 4) (by kernel_rfl) Try.underlying4 (by kernel_rfl) (by kernel_rfl) (by kernel_rfl) (by decide) (by kernel_rfl) rfl
  (fun ds h => by
   have h : ds.length = 3 := h.trans (by kernel_rfl)
   match ds, h with
   | [_, _, _], _ => rfl) hval hW

theorem proved : Rows.ShipTurnsSaid :=
 OpenClaim.holds_of_wide 7 Try.f7 rfl rfl rfl rfl rfl rfl rfl ⟨rfl, rfl, rfl, rfl, rfl⟩ rfl rfl rfl rfl rfl (by kernel_rfl) Try.func7 (by kernel_rfl)
  (of_decide_eq_true (by kernel_rfl)) (by unfold Func.isWrapper; first | (rw [if_pos (by decide +kernel)]; kernel_rfl) | (rw [if_neg (by decide +kernel)]; exact ⟨rfl, rfl⟩))
  (fun os started H enc _ => lifted os started H enc)

end Go.Proofs.Ytogjeflhlnnbdaa.shipTurns
