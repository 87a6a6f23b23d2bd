/- Proves, for the given program, that slices.Sort sorts each of the orders of six given numbers. -/
import Derived.Test.YtdpbncadmhpphaaGreatDoorSo1
import Derived.Test.YtdpbncadmhpphaaGreatDoorSo2
import Derived.Test.YtdpbncadmhpphaaGreatDoorSo3
import Derived.Test.YtdpbncadmhpphaaGreatDoorSo4
import Derived.Test.YtdpbncadmhpphaaGreatDoorSo5
import Derived.Test.YtdpbncadmhpphaaGreatDoorSo6
import Derived.Test.YtdpbncadmhpphaaGreatDoorSo7
import Derived.Test.YtdpbncadmhpphaaGreatDoorSo8
set_option linter.all false
namespace Ab.Mk
open Go Go.Proofs
theorem sorts : ∀ i, i < 8 → runAll (part i) = true := fun i hi => match i, hi with
  | 0, _ => so0
  | 1, _ => so1
  | 2, _ => so2
  | 3, _ => so3
  | 4, _ => so4
  | 5, _ => so5
  | 6, _ => so6
  | 7, _ => so7
end Ab.Mk
