/- From a contract to what a row asks of a call: the sizes of slices, from what the call may reach. -/
import Derived.Test.YtkkpjmcpnmbbfaaGreatDoorBR2
import Derived.SizedLaws
namespace Go.AI
open Go.RowKit Go.ChangeShapes
set_option linter.unusedVariables false
section
variable {H : Type} {enc : TypeId × Value → H} {P : Program} {W : World}
end
end Go.AI
