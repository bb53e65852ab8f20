/- For every input the law saltern/salternlaw28.ReconSums returns true, and what it is given reads behind the call as it read before; no condition is set on the input. -/
import Derived.Test.YtglkhgodeghnlaaRows
import Derived.Test.YtglkhgodeghnlaaQCLaw28
import Derived.Test.YtglkhgodeghnlaaQVseClose
import Derived.Handed
set_option maxRecDepth 100000
namespace Go.Proofs.Ytglkhgodeghnlaa.reconSums
open Go.ChangeShapes Go.WideShapes Go.ChangeAt Go.RowKit Go.Vse Go.Sal Go.Sal.Nm

theorem own : ownKnob Try.prog.godebug = none := by kernel_rfl
def zDig : Array Value := Array.replicate 32 (.int .u8 0)
def zHead : Value := .agg (#[.int .i64 0, .int .i64 0] ++ zDig)
def zSlice : Value := .slice none 0 0
def zStr : Value := .string ByteArray.empty
def zInt : Value := .int .i64 0
def zRec : Value := .agg (#[.int .i64 0, .int .i64 0] ++ zDig ++ #[.int .i64 0, .int .i64 0, zStr, zSlice])

def zMsg : Value := .agg (#[.int .i64 0] ++ (#[.int .i64 0, .int .i64 0] ++ zDig) ++ #[.int .i64 0] ++ zDig ++ (#[.int .i64 0, .int .i64 0] ++ zDig ++ #[.int .i64 0, .int .i64 0, zStr, zSlice]) ++ #[zSlice, zSlice])
def zOp : Value := .agg #[zInt, zInt, zInt, zInt, .int .u8 0, zSlice, zSlice]
def zMark0 : Array Value := #[.int .i64 0, .int .i64 0, .int .i64 0] ++ zDig ++ zDig
def zPre : Value := .agg (#[.int .i64 0] ++ zDig)
def zItem : Value := .agg (#[.int .i64 0, .int .i64 0] ++ zDig ++ #[.int .i64 0] ++ zDig ++ #[zSlice])
def zAct : Value := .agg (#[.bool false, zInt, zInt, zInt, zStr, zSlice, zInt, zInt, zSlice, zInt, zInt, zInt] ++ zDig ++ zMark0 ++ #[zSlice, zInt, zInt, zInt, zInt] ++ zMark0)
def zMark : Value := .agg (#[.int .i64 0, .int .i64 0, .int .i64 0] ++ zDig ++ zDig)

theorem lifted (os : Os) (started : os.Started) (H : Type) (enc : TypeId × Value → H) :
 ReturnsInHanded {} Try.checked os 7 .any (Rows.reconSumsSpec.pre6 enc Try.prog Try.f7 Rows.reconSumsRow.domain false) (Rows.reconSumsSpec.post enc Try.prog Try.f7 false true false false) := by
 refine returnsInHanded_of_change (C := Try.checked) own started (by kernel_rfl) Try.func7
  (ChangeSpec.witness6 (enc := enc) (C := Try.checked) false ⟨#[], #[zSlice, zPre], []⟩ 12 (by kernel_rfl) (by kernel_rfl) (by kernel_rfl) (by kernel_rfl)) ?_
 intro W base args ds gs before hval hW _ _
 exact law_calls law28_ReconSums_spec (params_as 12 (by kernel_rfl)) (tb := 4) (by kernel_rfl) Try.underlying4 (by kernel_rfl) (by kernel_rfl) (by kernel_rfl) (by decide) (by kernel_rfl) rfl
  (fun ds h => by
   have h : ds.length = 2 := h.trans (by kernel_rfl)
   match ds, h with
   | [_, _], _ => rfl) hval hW

theorem proved : Rows.ReconSumsSaid :=
 OpenClaim.holds_of_wide 7 Try.f7 rfl rfl rfl rfl rfl rfl rfl ⟨rfl, rfl, rfl, rfl, rfl⟩ rfl rfl rfl rfl rfl (by kernel_rfl) Try.func7 (by kernel_rfl)
  (of_decide_eq_true (by kernel_rfl)) (by unfold Func.isWrapper; first | (rw [if_pos (by decide +kernel)]; kernel_rfl) | (rw [if_neg (by decide +kernel)]; exact ⟨rfl, rfl⟩))
  (fun os started H enc _ => lifted os started H enc)

end Go.Proofs.Ytglkhgodeghnlaa.reconSums
