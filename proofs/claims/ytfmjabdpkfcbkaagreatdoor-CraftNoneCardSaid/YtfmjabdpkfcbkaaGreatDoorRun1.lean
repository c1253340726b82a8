/- The closed runs: the law behind its first guard comes to true. -/
import Derived.Test.YtfmjabdpkfcbkaaGreatDoorOrc
namespace Ev.CX3
open Go Go.Proofs
theorem rest_runs : restTrue Tryz.prog (X0 lay eqs) xt orcB 100000 60 Tryz.f3.ntmps Tryz.f3.results.toList rest3 fr3 h3 1 = true := by kernel_rfl
theorem then_runs : restTrue Tryz.prog (X0 lay eqs) xt orcB 100000 60 Tryz.f3.ntmps Tryz.f3.results.toList then3 .lf .lf 0 = true := by kernel_rfl
end Ev.CX3
