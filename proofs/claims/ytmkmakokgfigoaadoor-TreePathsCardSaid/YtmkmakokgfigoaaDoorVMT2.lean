import Derived.Test.YtmkmakokgfigoaaDoorVMT1
namespace Go.Proofs.YtmkmakokgfigoaaDoor
open Go.Proofs.YtmkmakokgfigoaaDoor.VM
set_option maxRecDepth 100000
theorem alive_run : isRet true (callA Tryd.prog TC0 100 18 [] st0) = true := by kernel_rfl
end Go.Proofs.YtmkmakokgfigoaaDoor
