import Derived.Test.YtlillgmgpmbfnaaGreatDoorAmC3
set_option linter.unusedVariables false
set_option linter.unusedSimpArgs false
set_option maxRecDepth 100000
namespace Go.AM
open Go
def opW:List (List UInt8):=[[99,111,110,115,116],[109,111,118,101],[110,101,119],[103,101,116],[112,117,116],[99,108,111,115,101],[99,97,108,108],[109,105,110,117,115],[110,111,116],[97,100,100],[115,117,98],[109,117,108],[101,113,117,97,108],[117,110,108,105,107,101],[108,101,115,115],[106,117,109,112],[98,97,99,107],[117,110,108,101,115,115],[114,101,116,117,114,110],[116,104,114,111,119],[116,114,121],[100,111,110,101]]
def opT (i:Nat):List UInt8:=(opW[i]?).getD []
end Go.AM
