/- The laws of chapter 13, but for Parse: their contracts hold. -/
import Derived.Test.YtogjeflhlnnbdaaWCLaw13
set_option maxRecDepth 100000
namespace Go.Sal
open Go.Vse Go.Sal.Nm

theorem eqPie_spec : Vse.Spec P f_slices_Equal_Piece c_eqPie :=
 spec_fn (l := []) trivial h_slices_Equal_Piece rfl rfl fun x _ ok => body_ok (an_eqPie x.1 x.2.1) (eqPie_vc x.1 x.2.1 ok.1.1) (by kernel_rfl)

theorem record_Same_spec : Vse.Spec P f_record_Same c_Same :=
 spec_fn (l := [(f_slices_Equal_Piece, c_eqPie)]) ⟨eqPie_spec, trivial⟩ h_record_Same rfl rfl fun x _ _ => body_ok an_none (record_Same_vc x.1 x.2.1) (by kernel_rfl)

end Go.Sal
