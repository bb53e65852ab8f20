/- Contracts of package word, and of its reference. -/
import Derived.Test.YtdddnamfecgkeaaDoorWNm
import Derived.Test.YtdddnamfecgkeaaDoorWSalWord
set_option maxRecDepth 100000
namespace Go.Sal
open Go.Vse Go.Sal.Nm

end Go.Sal
