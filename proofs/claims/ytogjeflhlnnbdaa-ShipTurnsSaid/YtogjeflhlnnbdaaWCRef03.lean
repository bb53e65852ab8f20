/- Contracts of the reference of package sha. -/
import Derived.Test.YtogjeflhlnnbdaaWCSha
set_option maxRecDepth 100000
namespace Go.Sal
open Go.Vse Go.Sal.Nm

def x_int (S : SState) (t : Nat) : Int :=
 match S.get t with
 | .sv (.dv (.i64 n)) => n
 | _ => 0

def x_tok (S : SState) (t : Nat) : Nat :=
 match S.get t with
 | .sv (.own k _ _) => k
 | _ => 0

end Go.Sal
