/- Contracts of ref13: the record of bytes, read loosely. -/
import Derived.Test.YtogjeflhlnnbdaaWCPse
import Derived.Test.YtogjeflhlnnbdaaWSalMac
set_option maxRecDepth 100000
namespace Go.Sal
open Go.Vse Go.Sal.Nm

end Go.Sal
