/- The closed runs: 'alive' comes to true; so does the law behind its first guard. -/
import Derived.Test.YtfmjabdpkfcbkaaGreatDoorOrc
namespace Ev.CX3
open Go Go.Proofs
theorem alive_runs : crTrue (runF (X0 lay eqs) Tryz.prog xt orcA 100000 60 5 [] .lf 0) = true := by kernel_rfl
end Ev.CX3
