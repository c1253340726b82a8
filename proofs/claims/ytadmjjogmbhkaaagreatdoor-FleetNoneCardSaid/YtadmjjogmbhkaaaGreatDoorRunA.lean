/- The closed run of Simple(). -/
import Derived.Test.YtadmjjogmbhkaaaGreatDoorMemos
import Derived.KernelRfl
namespace Ev.CX
open Go Go.Proofs
theorem m1_runs : putAll m1.hG .lf (fun hg => memoRun m1 (runF (X0 lay eqs) Tryz.prog xt orcBase 100000 60 m1.f m1.as hg m1.n0)) = true := by kernel_rfl
end Ev.CX
