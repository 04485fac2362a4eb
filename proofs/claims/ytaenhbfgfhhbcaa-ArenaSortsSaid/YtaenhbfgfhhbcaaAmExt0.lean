/- The functions that are told otherwise than by their code: none. -/
import Derived.Test.YtaenhbfgfhhbcaaAmTop
namespace Go.AM.YtaenhbfgfhhbcaaT
open Go Go.AM
def ext0 (_ : FuncId) : Option (List V → Hp → Option (V × Hp)) := none
end Go.AM.YtaenhbfgfhhbcaaT
