/- The concrete run: slices.Concat of one list of numbers: a list of its own. -/
import Derived.Test.YtadmjjogmbhkaaaGreatDoorCe13
import Derived.Test.YtadmjjogmbhkaaaGreatDoorCe11
namespace Ev
open Go
variable {P : Program} {X : Ctx S0}
noncomputable def concatO (f0 : FuncId) : FuncId → List V → Tr CB → Nat → Option Cr := fun f xs h n => match Nat.beq f f0 with
  | true => match xs with
    | [.slc l off len _] => match h.get .dead l with
      | .arr wd cs => match cs.drop off with
        | .slc l2 off2 k _ :: _ => match h.get .dead l2 with
          | .arr wd2 cs2 => match Nat.beq len 1 && Nat.beq wd 1 && Nat.beq wd2 1 && Nat.blt 0 k && Nat.ble k 1000 && Nat.ble (off2 + k) cs2.length && Nat.blt n 4294967295 with
            | true => match i64s ((cs2.drop off2).take k) with
              | some _ => some (fVs ((cs2.drop off2).take k) fun row => Tr.put .dead (.arr 1 row) 64 h n fun h' => fV (.slc n 0 k false) fun v => fN (Nat.succ n) fun n' => .ok v h' n')
              | none => none
            | false => none
          | _ => none
        | _ => none
      | _ => none
    | _ => none
  | false => none
/-- what the function is to do -/
def CatDoes (P : Program) (f : FuncId) : Prop := ∀ (b o cap b2 o2 cap2 : Nat) (zs : List Int) (w : World), 0 < zs.length → zs.length ≤ 1000 → zs.length ≤ cap2 → b < w.heap.size → b2 < w.heap.size → w.cell? ⟨b, o, none⟩ = some (.slice (some ⟨b2, o2, none⟩) zs.length cap2) →
  (∀ j, j < zs.length → w.cell? ⟨b2, o2 + j, none⟩ = some (.int .i64 (zs[j]?.getD 0))) →
  Calls P f #[.slice (some ⟨b, o, none⟩) 1 cap] w fun e w' => ∃ g cap' cur el, e = .returned (.slice (some ⟨g, 0, none⟩) zs.length cap') ∧ w.heap.size ≤ g ∧ w'.heap[g]? = some (.cells cur el (0, 0)) ∧ zs.length ≤ cap' ∧ cap' ≤ maxInt ∧ cur.size = cap' ∧
    cur.toList.take zs.length = zs.map (Value.int .i64) ∧ w.heap.size ≤ w'.heap.size ∧ (∀ k, k < w.heap.size → w'.heap[k]? = w.heap[k]?) ∧ w'.os = w.os ∧ w'.tape = w.tape ∧ w'.output = w.output
theorem i64s_vr {E : Env} {row : List V} {zs : List Int} (h : i64s row = some zs) : VRs X E row (zs.map (Value.int .i64)) := by
  refine ⟨by rw [List.length_map, i64s_len h], fun i a u ha hu => ?_⟩
  rw [List.getElem?_map] at hu
  cases hz : zs[i]? with
  | none => rw [hz] at hu; cases hu
  | some z =>
    rw [hz] at hu
    simp only [Option.map_some, Option.some.injEq] at hu
    subst hu
    have hi : i < zs.length := (List.getElem?_eq_some_iff.1 hz).1
    have := i64s_get h i hi
    rw [ha, hz] at this
    simp only [Option.getD_some, Option.some.injEq] at this
    subst this
    exact .int _ _
theorem concatO_ok {f0 : FuncId} (hen : ∀ args w, (callFunc f0 args).run P w = .ok (.enter f0 args) w) (hdo : CatDoes P f0) : OrcOk P X (concatO f0) := by
  intro f xs h n v h' n' hc E w us hv hr hfresh
  replace hc : (match concatO f0 f xs h n with
    | some r => r
    | none => .bad (.s "")) = .ok v h' n' := hc
  split at hc
  · rename_i r hq
    subst hc
    unfold concatO at hq
    split at hq
    · rename_i hf
      have hf := Nat.eq_of_beq_eq_true hf
      subst hf
      split at hq
      · rename_i l off len cl
        split at hq
        · rename_i wd cs hg
          split at hq
          · rename_i l2 off2 k cl2 tl hdr
            split at hq
            · rename_i wd2 cs2 hg2
              split at hq
              · rename_i hcond
                simp only [Bool.and_eq_true] at hcond
                obtain ⟨⟨⟨⟨⟨⟨c1, c2⟩, c3⟩, c4⟩, c5⟩, c6⟩, c7⟩ := hcond
                have c1 := Nat.eq_of_beq_eq_true c1
                have c2 := Nat.eq_of_beq_eq_true c2
                have c3 := Nat.eq_of_beq_eq_true c3
                have c4 := bltT.1 c4
                have c5 := Nat.le_of_ble_eq_true c5
                have c6 := Nat.le_of_ble_eq_true c6
                have c7 := bltT.1 c7
                subst c1; subst c2; subst c3
                split at hq
                · rename_i zs hz
                  injection hq with hq
                  rw [fVs_eq, Tr.put_eq, fV_eq, fN_eq] at hq
                  injection hq with e1 e2 e3
                  subst e1; subst e2; subst e3
                  obtain ⟨u1, r1, q1, h1, hr1⟩ := hv.inv_cons
                  have q2 := hr1.inv_nil
                  subst q2
                  obtain ⟨b, sh, wd', tot, o, cap, rfl, hio, ho, hcap, hlc⟩ := vr_slc_inv h1 Nat.one_pos
                  have hd : hp h l = .arr 1 cs := hg
                  obtain ⟨p, hp1, hp2⟩ := hr.blk l (by rw [hd]; intro e; cases e)
                  rw [hio] at hp1
                  injection hp1 with hp1; subst hp1
                  rw [hd] at hp2
                  have hlt := hp2.lt (by intro e; cases e)
                  obtain ⟨c, el, ⟨fz, hb, hfz⟩, hwd, hct, htm, hsz, hvs⟩ := hp2
                  subst hwd
                  have hcs : cs[off]? = some (.slc l2 off2 k cl2) := by
                    have : (cs.drop off)[0]? = some (.slc l2 off2 k cl2) := by rw [hdr]; rfl
                    rw [List.getElem?_drop] at this
                    simpa using this
                  have hol : off < cs.length := (List.getElem?_eq_some_iff.1 hcs).1
                  obtain ⟨u2, hu2, hv2⟩ := hvs.get hcs
                  rw [List.getElem?_take_of_lt hol, List.getElem?_drop] at hu2
                  obtain ⟨b2, o2, cap2, rfl, hzl, hb2, hcells⟩ := slc_ints hr hv2 hg2 hz c4 c6
                  obtain ⟨b2', sh2, wd2, tot2, o2', cap2', heq, _, _, _, hlc2⟩ := vr_slc_inv hv2 c4
                  injection heq with k1 k2 k3
                  subst k3
                  have hcell : w.cell? ⟨b, o, none⟩ = some (.slice (some ⟨b2, o2, none⟩) zs.length cap2) := by
                    simp only [World.cell?, hb]
                    rw [show o = sh + off by rw [ho]; omega]
                    simpa using hu2
                  have hu : us = #[.slice (some ⟨b, o, none⟩) 1 cap] := Array.toList_inj.1 q1
                  subst hu
                  refine .inl ⟨fun w => hen _ w, (hdo b o cap b2 o2 cap2 zs w (by omega) (by omega) (by omega) hlt hb2 hcell hcells).mono ?_⟩
                  rintro e w' ⟨g, cap', cur, el', he, hge, hcur, hzc, hcm, hcs', htk, s1, s2, s4, s5, s6⟩
                  have hrl : ((cs2.drop off2).take k).length = k := by simp; omega
                  have hB : CBR X (E.push n (.at g 0 1 cap')) w' (.arr 1 ((cs2.drop off2).take k)) (.at g 0 1 cap') := by
                    refine ⟨cur, el', ⟨(0, 0), hcur, .inl rfl⟩, rfl, by omega, hcm, by omega, ?_⟩
                    rw [List.drop_zero, hrl, ← hzl, htk]
                    rw [hzl]
                    exact i64s_vr hz
                  obtain ⟨m1, m2⟩ := hr.push (hfresh n (Nat.le_refl _)).1 s1 s2 hge hB (hfresh n (Nat.le_refl _)).2 s4 s5 s6
                  have hfun : (fun m => if m = n then CB.arr 1 ((cs2.drop off2).take k) else hp h m) = hp (Tr.ins .dead (.arr 1 ((cs2.drop off2).take k)) 64 h n) := (hp_ins h n _ (by rw [Nat.blt_eq]; omega)).symm
                  rw [hfun] at m1 m2
                  refine ⟨_, _, he, ?_, m1, fun m hm => ⟨?_, ?_⟩, m2.mono fun l hl => Nat.ne_of_lt hl, Nat.le_succ n⟩
                  · rw [hzl]
                    exact .slc n 0 k false g 0 1 cap' 0 cap' (by rw [Env.push_io, if_pos rfl]) (by omega) (by omega) (by omega) hcm (fun e => by cases e)
                  · have hm : n + 1 ≤ m := hm
                    rw [Env.push_io, if_neg (by omega)]
                    exact (hfresh m (by omega)).1
                  · have hm : n + 1 ≤ m := hm
                    rw [← hfun]
                    show (if m = n then _ else _) = _
                    rw [if_neg (by omega)]
                    exact (hfresh m (by omega)).2
                · cases hq
              · cases hq
            · cases hq
          · cases hq
        · cases hq
      · cases hq
    · cases hq
  · cases hc
end Ev
