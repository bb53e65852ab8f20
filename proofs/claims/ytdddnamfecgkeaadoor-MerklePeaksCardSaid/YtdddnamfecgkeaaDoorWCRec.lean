/- Contracts of package record, and of its reference, but for Parse. -/
import Derived.Test.YtdddnamfecgkeaaDoorWCRef03
import Derived.Test.YtdddnamfecgkeaaDoorWSalWord
set_option maxRecDepth 100000
namespace Go.Sal
open Go.Vse Go.Sal.Nm

end Go.Sal
