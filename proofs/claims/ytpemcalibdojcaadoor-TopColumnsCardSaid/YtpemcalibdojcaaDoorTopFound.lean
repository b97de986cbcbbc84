/- found() of the top package, run by the kernel over each order in which its table of turns can stand. Own work; no condition. -/
import Derived.Test.YtpemcalibdojcaaDoorTopBase
import Derived.KernelRfl
set_option maxRecDepth 100000
namespace Go.HL.Top

theorem found1 : isTrue (callF X (exec X 3000) 4 [] (H0 [eL, eR, eS]) 11) = true := by kernel_rfl
theorem found2 : isTrue (callF X (exec X 3000) 4 [] (H0 [eL, eS, eR]) 11) = true := by kernel_rfl
theorem found3 : isTrue (callF X (exec X 3000) 4 [] (H0 [eR, eL, eS]) 11) = true := by kernel_rfl
theorem found4 : isTrue (callF X (exec X 3000) 4 [] (H0 [eR, eS, eL]) 11) = true := by kernel_rfl
theorem found5 : isTrue (callF X (exec X 3000) 4 [] (H0 [eS, eL, eR]) 11) = true := by kernel_rfl
theorem found6 : isTrue (callF X (exec X 3000) 4 [] (H0 [eS, eR, eL]) 11) = true := by kernel_rfl
end Go.HL.Top
