import Derived.Test.YtlillgmgpmbfnaaGreatDoorAmC3
set_option linter.unusedVariables false
set_option linter.unusedSimpArgs false
set_option maxRecDepth 100000
namespace Go.AM
open Go
end Go.AM
