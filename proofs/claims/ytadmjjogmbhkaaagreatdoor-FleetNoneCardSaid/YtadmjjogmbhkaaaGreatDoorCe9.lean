/- The concrete run: the functions without a body. -/
import Derived.Test.YtadmjjogmbhkaaaGreatDoorCe8
import Derived.Laws.Externs
import Derived.Lib.Bytealg
namespace Ev
open Go
variable {P : Program} {X : Ctx S0} {E : Env} {w : World}

theorem idxB_eq (c : UInt8) : ∀ (l : List UInt8) (i : Nat), idxB c.toNat l i = if Lib.indexByte l c = -1 then -1 else (i : Int) + Lib.indexByte l c
  | [], i => by simp [idxB, Lib.indexByte]
  | b :: r, i => by
    unfold idxB
    have ih := idxB_eq c r (Nat.succ i)
    have hge := Lib.indexByte_ge r c
    by_cases e : b = c
    · subst e
      simp [Lib.indexByte, Nat.beq_refl]
    · have hb : Nat.beq b.toNat c.toNat = false := by
        cases h : Nat.beq b.toNat c.toNat with
        | false => rfl
        | true => exact absurd (UInt8.toNat_inj.1 (Nat.eq_of_beq_eq_true h)) e
      have he : (b == c) = false := by simpa using e
      rw [hb, ih]
      simp only [Lib.indexByte, he]
      by_cases h1 : Lib.indexByte r c = -1
      · simp [h1]
      · simp [h1, Nat.succ_eq_add_one]
        omega
theorem ext_index {f : FuncId} {fn : Func} (hf : P.funcs[f]? = some fn) (hname : (fn.name == "runtime.NumGoroutine") = false) (hb : fn.body.isNone = true) (hnx : Extern.findNext fn = none) (hfd : Extern.find fn = some Extern.BytealgIndexByte.indexByte)
    {as : List V} {v : V} (hc : xIndexByte as = some v) {us : Array Value} (hv : VRs X E as us.toList) : ∃ u, (callFunc f us).run P w = .ok (.value u) w ∧ VR X E v u := by
  unfold xIndexByte at hc
  split at hc
  · rename_i s c
    split at hc
    · rename_i hlt
      injection hc with hc; subst hc
      obtain ⟨u1, r1, e1, h1, hr1⟩ := hv.inv_cons
      obtain ⟨u2, r2, e2, h2, hr2⟩ := hr1.inv_cons
      have e3 := hr2.inv_nil
      subst e3
      cases h1; cases h2
      have hu : us = #[.string s, .int .u8 c] := Array.toList_inj.1 (by rw [e1, e2])
      subst hu
      refine ⟨_, by rw [run_callFunc_extern hf hname hb hnx hfd, Lib.run_indexByteString]; rfl, ?_⟩
      have hc8 : c.toNat.toUInt8.toNat = c.toNat := by
        have := bltT.1 hlt
        simp only [Nat.toUInt8, UInt8.toNat_ofNat']
        omega
      have hi := idxB_eq c.toNat.toUInt8 s.data.toList 0
      rw [hc8] at hi
      rw [hi]
      by_cases h1 : Lib.indexByte s.data.toList c.toNat.toUInt8 = -1
      · rw [if_pos h1, h1]; exact .int _ _
      · rw [if_neg h1]; simp; exact .int _ _
    · cases hc
  · cases hc
theorem ext_add64 {f : FuncId} {fn : Func} (hf : P.funcs[f]? = some fn) (hname : (fn.name == "runtime.NumGoroutine") = false) (hb : fn.body.isNone = true) (hnx : Extern.findNext fn = none) (hfd : Extern.find fn = some add64Entry)
    {as : List V} {v : V} (hc : xAdd64 as = some v) {us : Array Value} (hv : VRs X E as us.toList) : ∃ u, (callFunc f us).run P w = .ok (.value u) w ∧ VR X E v u := by
  unfold xAdd64 at hc
  split at hc
  · rename_i x y c
    split at hc
    · rename_i hb2
      simp only [Bool.and_eq_true, Bool.not_eq_true'] at hb2
      obtain ⟨⟨⟨b1, b2⟩, b3⟩, b4⟩ := hb2
      have b1 := ltI_false.1 b1
      have b2 := ltI_false.1 b2
      have b3 := ltI_false.1 b3
      have b4 := Nat.le_of_ble_eq_true b4
      injection hc with hc; subst hc
      obtain ⟨u1, r1, e1, h1, hr1⟩ := hv.inv_cons
      obtain ⟨u2, r2, e2, h2, hr2⟩ := hr1.inv_cons
      obtain ⟨u3, r3, e3, h3, hr3⟩ := hr2.inv_cons
      have e4 := hr3.inv_nil
      subst e4
      cases h1; cases h2; cases h3
      have hu : us = #[.int .u64 x, .int .u64 y, .int .u64 c] := Array.toList_inj.1 (by rw [e1, e2, e3])
      subst hu
      obtain ⟨a, rfl⟩ := Int.eq_ofNat_of_zero_le b1
      obtain ⟨b, rfl⟩ := Int.eq_ofNat_of_zero_le b2
      obtain ⟨k, rfl⟩ := Int.eq_ofNat_of_zero_le b3
      refine ⟨_, by rw [run_callFunc_extern hf hname hb hnx hfd, run_add64 _ _ _ b1 b2 b3 (by simp only [Int.toNat_natCast] at b4; omega)]; rfl, ?_⟩
      have e5 : ((a : Int) + b + k) % 18446744073709551616 = Int.ofNat (Nat.mod (Nat.add (Nat.add (a : Int).toNat (b : Int).toNat) (k : Int).toNat) 18446744073709551616) := by
        simp only [Int.toNat_natCast]
        show _ = (((a + b + k) % 18446744073709551616 : Nat) : Int)
        omega
      have e6 : ((a : Int) + b + k) / 18446744073709551616 = Int.ofNat (Nat.div (Nat.add (Nat.add (a : Int).toNat (b : Int).toNat) (k : Int).toNat) 18446744073709551616) := by
        simp only [Int.toNat_natCast]
        show _ = (((a + b + k) / 18446744073709551616 : Nat) : Int)
        omega
      rw [e5, e6]
      exact vr_tup_mk (ds := #[_, _]) (VRs.cons (.int _ _) (VRs.cons (.int _ _) VRs.nil))
    · cases hc
  · cases hc
end Ev
