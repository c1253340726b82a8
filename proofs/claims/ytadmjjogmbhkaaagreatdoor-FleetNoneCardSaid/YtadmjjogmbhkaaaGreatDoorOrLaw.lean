/- The oracles are right, alive is true. -/
import Derived.Test.YtadmjjogmbhkaaaGreatDoorMemos
import Derived.Test.YtadmjjogmbhkaaaGreatDoorOrAll
import Derived.Test.YtadmjjogmbhkaaaGreatDoorOrDel
import Derived.Test.YtadmjjogmbhkaaaGreatDoorOrCat
import Derived.Test.YtadmjjogmbhkaaaGreatDoorRunA
import Derived.Test.YtadmjjogmbhkaaaGreatDoorRunB
import Derived.Test.YtadmjjogmbhkaaaGreatDoorRunC
namespace Ev.CX
open Go Go.Proofs
theorem cat_does : CatDoes Tryz.prog 21 := by
  intro b o cap b2 o2 cap2 zs w h0 hl hc2 hb hb2 hcell hI
  refine (Mq.concat_calls b o cap b2 o2 cap2 zs h0 hl hc2 w hb hb2 hcell hI).mono ?_
  rintro e w' ⟨v, rfl, hrow, hB⟩
  rcases hrow.2 with ⟨_, hz⟩ | ⟨g, cap', cur, rfl, k1, k2, k3, k4, k5, k6⟩
  · omega
  · exact ⟨g, cap', cur, 3, rfl, k1, k2, k3, k4, by omega, by simpa using k6, hB.size, hB.block, hB.os, hB.tape, hB.output⟩
theorem base_ok : OrcOk Tryz.prog (X0 lay eqs) orcBase :=
  elseO_ok (concatO_ok (enters_of Tryz.func21 (by kernel_rfl) rfl) cat_does) (elseO_ok (delO_ok (enters_of Tryz.func67 (by kernel_rfl) rfl) Mq.del_does) (pureO_ok orcV_ok))
theorem m1_cov : coverL m1.hG m1.hR m1.n0 = true := by kernel_rfl
theorem m2_cov : coverL m2.hG m2.hR m2.n0 = true := by kernel_rfl
theorem orc1_ok : OrcOk Tryz.prog (X0 lay eqs) orc1 :=
  elseO_ok (memo_ok (fuel := 100000) (d := 60) goodX goodCX mixed base_ok xt_ok m1 (enters_of Tryz.func17 (by kernel_rfl) rfl) m1_cov m1_runs) base_ok
theorem orc2_ok : OrcOk Tryz.prog (X0 lay eqs) orc2 :=
  elseO_ok (memo_ok (fuel := 100000) (d := 60) goodX goodCX mixed orc1_ok xt_ok m2 (enters_of Tryz.func18 (by kernel_rfl) rfl) m2_cov m2_runs) orc1_ok
theorem alive_calls (w : World) : Calls Tryz.prog 4 #[] w fun e w' => e = .returned (.bool true) ∧ RowKit.Below w.heap.size w w' :=
  closed_below goodX goodCX mixed orc2_ok xt_ok (enters_of Tryz.func4 (by kernel_rfl) rfl) alive_runs w
theorem aliveV_ok : OrcV Tryz.prog (X0 lay eqs) aliveV := by
  intro f xs h v hc E w us hv hr
  unfold aliveV at hc
  split at hc
  · rename_i hf
    have hf := Nat.eq_of_beq_eq_true hf
    subst hf
    split at hc
    · injection hc with hc; subst hc
      have hu : us = #[] := Array.toList_inj.1 hv.inv_nil
      subst hu
      exact of_below (.bool true) (enters_of Tryz.func4 (by kernel_rfl) rfl) (alive_calls w)
    · cases hc
  · cases hc
theorem orcL_ok : OrcOk Tryz.prog (X0 lay eqs) orcL := elseO_ok (pureO_ok aliveV_ok) base_ok
end Ev.CX
