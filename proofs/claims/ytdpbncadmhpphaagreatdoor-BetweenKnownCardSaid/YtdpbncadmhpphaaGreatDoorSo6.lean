/- Proves, for the given program, that slices.Sort sorts ninety of the orders of six given numbers. -/
import Derived.Test.YtdpbncadmhpphaaGreatDoorMk4
set_option linter.all false
namespace Ab.Mk
open Go Go.Proofs
theorem so5 : runAll (part 5) = true := by decide +kernel
end Ab.Mk
