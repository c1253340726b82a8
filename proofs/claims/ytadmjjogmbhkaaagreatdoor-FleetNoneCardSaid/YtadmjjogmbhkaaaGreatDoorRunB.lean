/- The closed run of fleet.New. -/
import Derived.Test.YtadmjjogmbhkaaaGreatDoorMemos
import Derived.KernelRfl
namespace Ev.CX
open Go Go.Proofs
theorem m2_runs : putAll m2.hG .lf (fun hg => memoRun m2 (runF (X0 lay eqs) Tryz.prog xt orc1 100000 60 m2.f m2.as hg m2.n0)) = true := by kernel_rfl
end Ev.CX
