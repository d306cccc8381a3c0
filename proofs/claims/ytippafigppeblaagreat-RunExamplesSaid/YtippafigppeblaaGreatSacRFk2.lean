/- One call that the closed statement makes: the kernel runs it. -/
import Derived.KernelRfl
import Derived.Test.YtippafigppeblaaGreatSacRC
namespace Go.Sac
set_option maxRecDepth 100000
theorem k2 : bulky ((fastOr 59).call 8 a2 St.none) = true := by kernel_rfl
end Go.Sac
