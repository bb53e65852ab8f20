/- Contracts of package sha, and of what it calls. -/
import Derived.Test.YtogjeflhlnnbdaaWCWord
import Derived.Test.YtogjeflhlnnbdaaWSalWord
set_option maxRecDepth 100000
namespace Go.Sal
open Go.Vse Go.Sal.Nm

def x_labAt (S : SState) (t : Nat) : Nat :=
 match S.get t with
 | .sv (.ref (.cell l _ _)) => l
 | .sv (.ref (.win l _ _ _ _ _ _ _)) => l
 | _ => 0

def an_none : Nat → SState → Option LoopAnn := fun _ _ => none

def c_bytesClone : PC := O [.slc .u8] .u8 t_uint8 1 [] (fun x => some (x.1.length ≤ ROOM)) (fun x => (x.1, ()))

end Go.Sal
