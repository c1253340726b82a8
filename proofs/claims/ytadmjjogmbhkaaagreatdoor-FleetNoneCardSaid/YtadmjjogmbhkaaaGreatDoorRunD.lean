/- The law behind its first guard. -/
import Derived.Test.YtadmjjogmbhkaaaGreatDoorMemos
import Derived.KernelRfl
namespace Ev.CX
open Go Go.Proofs
theorem rest_runs : restTrue Tryz.prog (X0 lay eqs) xt orcL 100000 60 Tryz.f3.ntmps Tryz.f3.results.toList rest3 .lf .lf 0 = true := by kernel_rfl
theorem then_runs : restTrue Tryz.prog (X0 lay eqs) xt orcL 100000 60 Tryz.f3.ntmps Tryz.f3.results.toList then3 .lf .lf 0 = true := by kernel_rfl
end Ev.CX
