import Derived.Test.YtlillgmgpmbfnaaGreatDoorAmC3
set_option maxRecDepth 100000
namespace Go.AM
open Go
end Go.AM
