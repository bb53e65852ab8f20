/- The laws of chapter 13, but for Parse: their contracts hold. -/
import Derived.Test.YtflcaomdkbnfaaaQCLaw13
set_option maxRecDepth 100000
namespace Go.Sal
open Go.Vse Go.Sal.Nm

theorem ref13_Make_spec : Vse.Spec P f_ref13_Make c_Make :=
  spec_fn (l := [(f_ref13_Next, c_Next)]) ⟨ref13_Next_spec, trivial⟩ h_ref13_Make rfl rfl
    fun x h ok => body_ok an_none (ref13_Make_vc x.1 x.2.1) (by kernel_rfl)

def c_law (ts : List T) : PC := D ts [.bool] (fun _ => none) (fun _ => (true, ()))

end Go.Sal
