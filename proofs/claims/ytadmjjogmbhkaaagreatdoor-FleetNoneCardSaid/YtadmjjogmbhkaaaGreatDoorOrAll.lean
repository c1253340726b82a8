/- The oracles are right: at every world. -/
import Derived.Test.YtadmjjogmbhkaaaGreatDoorOrc
import Derived.Test.YtadmjjogmbhkaaaGreatDoorOrMid2
import Derived.Test.YtadmjjogmbhkaaaGreatDoorOrSeen
import Derived.Test.YtadmjjogmbhkaaaGreatDoorOrClone
namespace Ev.CX
open Go Go.Proofs
theorem vr_ptr_inv {X : Ctx S0} {E : Env} {l r s : Nat} {u : Value} (hv : VR X E (.ptr l r s) u) : ∃ b sh wd tot o, u = .pointer (some ⟨b, o, none⟩) ∧ E.io l = some (.at b sh wd tot) ∧ o = sh + r * wd + s := by
  cases hv with
  | ptr l row sub b sh wd tot o h1 h2 => exact ⟨b, sh, wd, tot, o, rfl, h1, h2⟩
theorem vr_map_inv {X : Ctx S0} {E : Env} {l : Nat} {u : Value} (hv : VR X E (.map l) u) : ∃ b sh wd tot, u = .map (some b) ∧ E.io l = some (.at b sh wd tot) := by
  cases hv with
  | map l b sh wd tot h1 => exact ⟨b, sh, wd, tot, rfl, h1⟩
theorem of_below {X : Ctx S0} {E : Env} {f : FuncId} {us : Array Value} {w : World} {v : V} {u : Value} (hv : VR X E v u) (hen : ∀ args w, (callFunc f args).run Tryz.prog w = .ok (.enter f args) w)
    (hc : Calls Tryz.prog f us w fun e w' => e = .returned u ∧ RowKit.Below w.heap.size w w') :
    (∀ w, (callFunc f us).run Tryz.prog w = .ok (.enter f us) w) ∧ Calls Tryz.prog f us w fun e w' => ∃ u, e = .returned u ∧ VR X E v u ∧ w.heap.size ≤ w'.heap.size ∧ (∀ b, b < w.heap.size → w'.heap[b]? = w.heap[b]?) ∧ w'.os = w.os ∧ w'.tape = w.tape ∧ w'.output = w.output :=
  ⟨fun w => hen us w, hc.mono fun _ _ ⟨he, hb⟩ => ⟨u, he, hv, hb.size, hb.block, hb.os, hb.tape, hb.output⟩⟩
theorem orcV_ok : OrcV Tryz.prog (X0 lay eqs) orcV := by
  intro f xs h v hc E w us hv hr
  unfold orcV at hc
  split at hc
  · rename_i hf
    have hf := Nat.eq_of_beq_eq_true hf
    subst hf
    unfold orcClone at hc
    split at hc
    · rename_i s
      split at hc
      · rename_i hs
        have hs := Nat.le_of_ble_eq_true hs
        injection hc with hc; subst hc
        obtain ⟨u1, r1, e1, h1, hr1⟩ := hv.inv_cons
        have e2 := hr1.inv_nil
        subst e2
        have hu : us = #[u1] := Array.toList_inj.1 e1
        subst hu
        refine of_below h1 (enters_of Tryz.func355 (by kernel_rfl) rfl) ?_
        cases h1
        exact Mq.clone_calls s w hs
      · cases hc
    · cases hc
  · split at hc
    · rename_i hf
      have hf := Nat.eq_of_beq_eq_true hf
      subst hf
      unfold orcMid at hc
      split at hc
      · rename_i l off len cl
        split at hc
        · rename_i wd cs hg
          split at hc
          · rename_i hcond
            simp only [Bool.and_eq_true] at hcond
            obtain ⟨⟨⟨c1, c2⟩, c3⟩, c4⟩ := hcond
            have c1 := Nat.eq_of_beq_eq_true c1
            have c2 := bltT.1 c2
            have c3 := Nat.le_of_ble_eq_true c3
            have c4 := Nat.le_of_ble_eq_true c4
            subst c1
            split at hc
            · rename_i zs hz
              injection hc with hc; subst hc
              obtain ⟨u1, r1, e1, h1, hr1⟩ := hv.inv_cons
              have e2 := hr1.inv_nil
              subst e2
              obtain ⟨b, o, cap, rfl, hl, hb, hcell⟩ := slc_ints hr h1 hg hz c2 c3
              have hu : us = #[.slice (some ⟨b, o, none⟩) zs.length cap] := Array.toList_inj.1 e1
              subst hu
              have hm := Mq.mid_calls b o cap zs (by omega) (by omega) w hb hcell
              rw [sortI_eq, hl] at hm
              refine of_below (.int _ _) (enters_of Tryz.func163 (by kernel_rfl) rfl) ?_
              rw [hl]
              exact hm
            · cases hc
          · cases hc
        · cases hc
      · cases hc
    · split at hc
      · rename_i hf
        have hf := Nat.eq_of_beq_eq_true hf
        subst hf
        unfold orcSeen at hc
        split at hc
        · rename_i l r s now
          split at hc
          · rename_i hcond
            simp only [Bool.and_eq_true] at hcond
            have c1 := Nat.eq_of_beq_eq_true hcond.1
            have c2 := Nat.eq_of_beq_eq_true hcond.2
            subst c1; subst c2
            split at hc
            · rename_i wd k0 k1 k2 m rest hg
              split at hc
              · rename_i kt et hgm
                injection hc with hc; subst hc
                obtain ⟨u1, r1, e1, h1, hr1⟩ := hv.inv_cons
                obtain ⟨u2, r2, e2, h2, hr2⟩ := hr1.inv_cons
                have e3 := hr2.inv_nil
                subst e3; subst e2
                obtain ⟨b, sh, wd', tot, o, rfl, hio, ho⟩ := vr_ptr_inv h1
                have hd : hp h l = .arr wd (k0 :: k1 :: k2 :: .map m :: rest) := hg
                obtain ⟨p, hp1, hp2⟩ := hr.blk l (by rw [hd]; intro e; cases e)
                rw [hio] at hp1
                injection hp1 with hp1; subst hp1
                rw [hd] at hp2
                have hlt := hp2.lt (by intro e; cases e)
                obtain ⟨c, el, ⟨fz, hb, hfz⟩, hwd, hct, htm, hsz, hvs⟩ := hp2
                have hl2 := hvs.1
                have e4 : ((c.toList.drop sh).take (k0 :: k1 :: k2 :: AV.map m :: rest).length)[3]? = some (((c.toList.drop sh).take (k0 :: k1 :: k2 :: AV.map m :: rest).length)[3]'(by rw [← hl2]; simp)) := List.getElem?_eq_getElem _
                generalize ((c.toList.drop sh).take (k0 :: k1 :: k2 :: AV.map m :: rest).length)[3]'(by rw [← hl2]; simp) = u4 at e4
                have hv4 := hvs.2 3 (.map m) u4 rfl e4
                rw [List.getElem?_take_of_lt (by simp), List.getElem?_drop] at e4
                obtain ⟨mb, sh2, wd2, tot2, rfl, hio2⟩ := vr_map_inv hv4
                have hdm : hp h m = .mp kt et [] := hgm
                obtain ⟨p2, hp3, hp4⟩ := hr.blk m (by rw [hdm]; intro e; cases e)
                rw [hio2] at hp3
                injection hp3 with hp3; subst hp3
                rw [hdm] at hp4
                obtain ⟨ms, clock, hmb, hMR, _⟩ := hp4
                have hms : ms = #[] := by
                  have := hMR.1
                  exact Array.eq_empty_of_size_eq_zero (by simpa using this)
                subst hms
                have hu : us = #[.pointer (some ⟨b, o, none⟩), u2] := Array.toList_inj.1 e1
                subst hu
                cases h2
                refine of_below .nils (enters_of Tryz.func53 (by kernel_rfl) rfl) (Mq.seen_calls b o mb clock _ w ?_ hmb hlt)
                simp only [World.cell?, hb]
                rw [show o + 3 = sh + 3 by rw [ho]; omega]
                simpa using e4
              · cases hc
            · cases hc
          · cases hc
        · cases hc
      · cases hc
theorem xt_ok : ∀ f xs v, xt f xs = some v → ∀ (E : Env) (w : World) (us : Array Value), VRs (X0 lay eqs) E xs us.toList → ∃ u, (callFunc f us).run Tryz.prog w = .ok (.value u) w ∧ VR (X0 lay eqs) E v u := by
  intro f xs v hc E w us hv
  unfold xt at hc
  split at hc
  · rename_i hf
    have hf := Nat.eq_of_beq_eq_true hf
    subst hf
    exact ext_index (fn := Tryz.f403) Tryz.func403 (by kernel_rfl) (by kernel_rfl) (by kernel_rfl) (by kernel_rfl) hc hv
  · split at hc
    · rename_i hf
      have hf := Nat.eq_of_beq_eq_true hf
      subst hf
      exact ext_add64 (fn := Tryz.f158) Tryz.func158 (by kernel_rfl) (by kernel_rfl) (by kernel_rfl) (by kernel_rfl) hc hv
    · cases hc
theorem mixed : Tryz.prog.follows .mixedOrders = true := by kernel_rfl
end Ev.CX
