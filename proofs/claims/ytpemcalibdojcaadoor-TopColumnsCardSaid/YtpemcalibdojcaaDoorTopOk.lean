/- The tables of the top seat, looked over by the kernel. Own work; no condition. -/
import Derived.Test.YtpemcalibdojcaaDoorHLTok
import Derived.Test.YtpemcalibdojcaaDoorTopTab
import Derived.KernelRfl
set_option maxRecDepth 100000
namespace Go.HL.Top
theorem xok : XOk Go.Proofs.Tryd.prog X := XOk.of (by kernel_rfl) (by kernel_rfl) (by kernel_rfl) (by kernel_rfl)
end Go.HL.Top
