/- One call that the closed statement makes: the kernel runs it. -/
import Derived.KernelRfl
import Derived.Test.YtippafigppeblaaGreatSacRC
namespace Go.Sac
set_option maxRecDepth 100000
theorem l3 : frozenIs ((fastOr 59).call 8 b3 St.none) r3 = true := by kernel_rfl
end Go.Sac
