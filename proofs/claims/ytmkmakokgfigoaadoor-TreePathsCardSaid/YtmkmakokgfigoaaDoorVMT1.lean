import Derived.Test.YtmkmakokgfigoaaDoorVMClosed
import Derived.Test.YtmkmakokgfigoaaDoorVMKit
import Derived.Test.YtmkmakokgfigoaaDoorChecked
namespace Go.Proofs.YtmkmakokgfigoaaDoor
open Go.Proofs.YtmkmakokgfigoaaDoor.VM
set_option maxRecDepth 100000
set_option linter.unusedVariables false
instance : Glob := ⟨fun _ => .undef, fun _ => True⟩
/-- Closed calls alone. -/
def TC0 : Cfg := { keep := fun _ => false, ro := fun f d => !([(23, 3), (25, 1), (34, 1), (35, 2), (40, 3), (50, 1)].contains (f, d.getD 0)), hnd := fun _ => false, intr := fun _ => none }
end Go.Proofs.YtmkmakokgfigoaaDoor
