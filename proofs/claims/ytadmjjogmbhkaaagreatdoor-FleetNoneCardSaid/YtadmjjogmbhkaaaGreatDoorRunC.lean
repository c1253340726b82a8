/- The closed run of alive, where these two are taken over. -/
import Derived.Test.YtadmjjogmbhkaaaGreatDoorMemos
import Derived.KernelRfl
namespace Ev.CX
open Go Go.Proofs
theorem alive_runs : crTrue (runF (X0 lay eqs) Tryz.prog xt orc2 100000 60 4 [] .lf 0) = true := by kernel_rfl
end Ev.CX
