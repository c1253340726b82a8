/- The context of one program: its layouts, its carriers, and that they fit. -/
import Derived.Test.YtfmjabdpkfcbkaaGreatDoorEvG
import Derived.Test.YtfmjabdpkfcbkaaGreatDoorEvC3
import Derived.Test.YtfmjabdpkfcbkaaGreatDoorProg
namespace Ev.L3
open Go Go.Proofs
set_option maxRecDepth 100000
@[reducible] def T : TypeId → Type
  | 3 => Int
  | 9 => ByteArray
  | 25 => InputR
  | 34 => List Int
  | _ => Unit
@[reducible] def Sg : Sig := ⟨T⟩
def lay : Lay := ⟨fun t => match Nat.blt t 507 with
  | true => (match Nat.ble t 252 with
  | true => (match Nat.ble t 125 with
   | true => (match Nat.ble t 62 with
    | true => (match Nat.ble t 30 with
     | true => (match Nat.ble t 14 with
      | true => (match Nat.ble t 6 with
       | true => (match Nat.ble t 2 with
        | true => ⟨.other, 0, 0, []⟩
        | false => (match Nat.ble t 4 with
         | true => (match Nat.ble t 3 with
          | true => ⟨.int .i64, 1, 8, [.int .i64 0]⟩
          | false => ⟨.bool, 1, 1, [.bool false]⟩)
         | false => ⟨.other, 0, 0, []⟩))
       | false => (match Nat.ble t 10 with
        | true => (match Nat.ble t 8 with
         | true => ⟨.other, 0, 0, []⟩
         | false => (match Nat.ble t 9 with
          | true => ⟨.str, 1, 16, [.string .empty]⟩
          | false => ⟨.other, 0, 0, []⟩))
        | false => ⟨.other, 0, 0, []⟩))
      | false => (match Nat.ble t 22 with
       | true => (match Nat.ble t 18 with
        | true => ⟨.other, 0, 0, []⟩
        | false => (match Nat.ble t 20 with
         | true => ⟨.other, 0, 0, []⟩
         | false => (match Nat.ble t 21 with
          | true => ⟨.other, 0, 0, []⟩
          | false => ⟨.slice 34, 1, 24, [.slice none 0 0]⟩)))
       | false => (match Nat.ble t 26 with
        | true => (match Nat.ble t 24 with
         | true => (match Nat.ble t 23 with
          | true => ⟨.slice 9, 1, 24, [.slice none 0 0]⟩
          | false => ⟨.other, 0, 0, []⟩)
         | false => (match Nat.ble t 25 with
          | true => ⟨.struct [(0, 3), (1, 22), (2, 23), (3, 3), (4, 3)], 5, 72, [.int .i64 0, .slice none 0 0, .slice none 0 0, .int .i64 0, .int .i64 0]⟩
          | false => ⟨.other, 0, 0, []⟩))
        | false => ⟨.other, 0, 0, []⟩)))
     | false => (match Nat.ble t 46 with
      | true => (match Nat.ble t 38 with
       | true => (match Nat.ble t 34 with
        | true => (match Nat.ble t 32 with
         | true => ⟨.other, 0, 0, []⟩
         | false => (match Nat.ble t 33 with
          | true => ⟨.other, 0, 0, []⟩
          | false => ⟨.slice 3, 1, 24, [.slice none 0 0]⟩))
        | false => ⟨.other, 0, 0, []⟩)
       | false => ⟨.other, 0, 0, []⟩)
      | false => ⟨.other, 0, 0, []⟩))
    | false => ⟨.other, 0, 0, []⟩)
   | false => ⟨.other, 0, 0, []⟩)
  | false => ⟨.other, 0, 0, []⟩)
  | false => ⟨.other, 0, 0, []⟩⟩
def enc3 (x : Int) : List (AV Sg) := [.int .i64 x]
def dec3 : List (AV Sg) → Option Int
  | [a0] => match rdInt .i64 a0 with
    | none => none
    | some y0 => some y0
  | _ => none
def zero3 : Int := 0
def enc9 (x : ByteArray) : List (AV Sg) := [.str x]
def dec9 : List (AV Sg) → Option ByteArray
  | [a0] => match rdStr a0 with
    | none => none
    | some y0 => some y0
  | _ => none
def zero9 : ByteArray := ByteArray.empty
def enc25 (x : InputR) : List (AV Sg) := [.int .i64 x.Tick, .imm (S := Sg) 34 x.Sensors, .imm (S := Sg) 9 x.Commands, .int .i64 x.Height, .int .i64 x.Want]
def dec25 : List (AV Sg) → Option InputR
  | [a0, a1, a2, a3, a4] => match rdInt .i64 a0 with
    | none => none
    | some y0 => match rdImm (S := Sg) 34 a1 with
    | none => none
    | some y1 => match rdImm (S := Sg) 9 a2 with
    | none => none
    | some y2 => match rdInt .i64 a3 with
    | none => none
    | some y3 => match rdInt .i64 a4 with
    | none => none
    | some y4 => some ⟨y0, y1, y2, y3, y4⟩
  | _ => none
def zero25 : InputR := ⟨0, [], [], 0, 0⟩
def enc34 (x : List Int) : List (AV Sg) := [.imm (S := Sg) 3 x]
def dec34 : List (AV Sg) → Option (List Int)
  | [a0] => match rdImm (S := Sg) 3 a0 with
    | none => none
    | some y0 => some y0
  | _ => none
def zero34 : List Int := []
def enc (e : TypeId) : T e → List (AV Sg) := match e with
  | 3 => enc3
  | 9 => enc9
  | 25 => enc25
  | 34 => enc34
  | e => fun _ => List.replicate (lay.size e) .nilp
def dec (e : TypeId) : List (AV Sg) → Option (T e) := match e with
  | 3 => dec3
  | 9 => dec9
  | 25 => dec25
  | 34 => dec34
  | _ => fun _ => none
theorem inst (e : TypeId) : Nonempty (T e) := by
  unfold T
  split
  · exact ⟨zero3⟩
  · exact ⟨zero9⟩
  · exact ⟨zero25⟩
  · exact ⟨zero34⟩
  · exact ⟨()⟩
noncomputable def zero (e : TypeId) : T e := match e with
  | 3 => zero3
  | 9 => zero9
  | 25 => zero25
  | 34 => zero34
  | e => Classical.choice (inst e)
def asLst : TypeId → Bool
  | _ => false
def has : TypeId → Bool
  | 3 => true
  | 9 => true
  | 25 => true
  | 34 => true
  | _ => false
def isKey : TypeId → Bool
  | 3 => true
  | 9 => true
  | _ => false
def isVal : TypeId → Bool
  | _ => false
def frz : FuncId → List (Nat × TypeId)
  | 4 => [(0, 25)]
  | _ => []
noncomputable def C : Ctx Sg where
  L := lay
  enc := enc
  dec := dec
  zero := zero
  asLst := asLst
  has := has
  eqT := fun _ => false
  isKey := isKey
  isVal := isVal
  frz := frz
  bs := fun t => Nat.beq t 29
  opn := fun e j => false
theorem dec3_sound {X : Ctx Sg} {r : List (AV Sg)} {y : Int} (h : dec3 r = some y) {E : Env} {us : List Value} (hv : VRs X E r us) : VRs X E (enc3 y) us := by
  unfold dec3 at h
  split at h
  · split at h
    · cases h
    · rename_i y0 h0
      injection h with h; subst h
      obtain ⟨u0, r0, rfl, v0, hv⟩ := hv.inv_cons
      have e0 := hv.inv_nil; subst e0
      exact VRs.cons (rdInt_sound h0 v0) VRs.nil
  · cases h
theorem dec9_sound {X : Ctx Sg} {r : List (AV Sg)} {y : ByteArray} (h : dec9 r = some y) {E : Env} {us : List Value} (hv : VRs X E r us) : VRs X E (enc9 y) us := by
  unfold dec9 at h
  split at h
  · split at h
    · cases h
    · rename_i y0 h0
      injection h with h; subst h
      obtain ⟨u0, r0, rfl, v0, hv⟩ := hv.inv_cons
      have e0 := hv.inv_nil; subst e0
      exact VRs.cons (rdStr_sound h0 v0) VRs.nil
  · cases h
theorem dec25_sound {X : Ctx Sg} {r : List (AV Sg)} {y : InputR} (h : dec25 r = some y) {E : Env} {us : List Value} (hv : VRs X E r us) : VRs X E (enc25 y) us := by
  unfold dec25 at h
  split at h
  · split at h
    · cases h
    · rename_i y0 h0
      split at h
      · cases h
      · rename_i y1 h1
        split at h
        · cases h
        · rename_i y2 h2
          split at h
          · cases h
          · rename_i y3 h3
            split at h
            · cases h
            · rename_i y4 h4
              injection h with h; subst h
              obtain ⟨u0, r0, rfl, v0, hv⟩ := hv.inv_cons
              obtain ⟨u1, r1, rfl, v1, hv⟩ := hv.inv_cons
              obtain ⟨u2, r2, rfl, v2, hv⟩ := hv.inv_cons
              obtain ⟨u3, r3, rfl, v3, hv⟩ := hv.inv_cons
              obtain ⟨u4, r4, rfl, v4, hv⟩ := hv.inv_cons
              have e0 := hv.inv_nil; subst e0
              exact VRs.cons (rdInt_sound h0 v0) (VRs.cons (rdImm_sound h1 v1) (VRs.cons (rdImm_sound h2 v2) (VRs.cons (rdInt_sound h3 v3) (VRs.cons (rdInt_sound h4 v4) VRs.nil))))
  · cases h
theorem dec34_sound {X : Ctx Sg} {r : List (AV Sg)} {y : List Int} (h : dec34 r = some y) {E : Env} {us : List Value} (hv : VRs X E r us) : VRs X E (enc34 y) us := by
  unfold dec34 at h
  split at h
  · split at h
    · cases h
    · rename_i y0 h0
      injection h with h; subst h
      obtain ⟨u0, r0, rfl, v0, hv⟩ := hv.inv_cons
      have e0 := hv.inv_nil; subst e0
      exact VRs.cons (rdImm_sound h0 v0) VRs.nil
  · cases h
theorem lay_ok : LayOk Tryz.prog lay := layOk_of 507 (by kernel_rfl) (fun t ht => by
  have : Nat.blt t 507 = false := by
    cases hb : Nat.blt t 507 with
    | false => rfl
    | true => rw [Nat.blt_eq] at hb; exact absurd hb (Nat.not_lt.2 ht)
  show (match Nat.blt t 507 with | true => _ | false => _ : Row) = _
  rw [this])
theorem enc_len (e : TypeId) (x : T e) : (enc e x).length = lay.size e := by
  unfold enc T at *
  split
  · rfl
  · rfl
  · rfl
  · rfl
  · exact List.length_replicate
theorem enc_one (e : TypeId) (x : T e) : allOne (enc e x) = true := by
  unfold enc T at *
  split
  · rfl
  · rfl
  · rfl
  · rfl
  · exact allOne_rep _
theorem enc_noLoc (e : TypeId) (x : T e) : allNoLoc (enc e x) = true := by
  unfold enc T at *
  split
  · rfl
  · rfl
  · rfl
  · rfl
  · exact allNoLoc_rep _
theorem dec_sound (e : TypeId) (r : List (AV Sg)) (x : T e) (h : dec e r = some x) (E : Env) (us : List Value) (hv : VRs C E r us) : VRs C E (enc e x) us := by
  unfold dec enc T at *
  split at h
  · exact dec3_sound h hv
  · exact dec9_sound h hv
  · exact dec25_sound h hv
  · exact dec34_sound h hv
  · cases h
theorem has_sound (e : TypeId) (h : has e = true) (E : Env) (i : TypeInfo) (z : Value) (hi : (Tryz.prog).info? e = some i) (hz : i.zero = some z) : VRs C E (enc e (zero e)) z.cells.toList := by
  unfold has at h
  split at h
  · exact zeroOk_sound lay_ok (t := 3) (enc := enc 3 (zero 3)) (by kernel_rfl) E i z hi hz
  · exact zeroOk_sound lay_ok (t := 9) (enc := enc 9 (zero 9)) (by kernel_rfl) E i z hi hz
  · exact zeroOk_sound lay_ok (t := 25) (enc := enc 25 (zero 25)) (by kernel_rfl) E i z hi hz
  · exact zeroOk_sound lay_ok (t := 34) (enc := enc 34 (zero 34)) (by kernel_rfl) E i z hi hz
  · cases h
theorem arr_sound (t n e : Nat) (h : asLst t = true) (hd : lay.ds t = .array n e) : 0 < lay.size e ∧ n ≤ maxInt ∧ ∃ i z, (Tryz.prog).info? t = some i ∧ i.zero = some z ∧ z.cells.size = n * lay.size e ∧
    ∀ E k, k < n → VRs C E (enc e (zero e)) ((z.cells.toList.drop (k * lay.size e)).take (lay.size e)) := by
  unfold asLst at h
  split at h
  · cases h
theorem good : Good Tryz.prog C where
  lay := lay_ok
  enc_len := enc_len
  enc_one := fun e x => allOne_mem (enc_one e x)
  enc_noLoc := fun e x => allNoLoc_mem (enc_noLoc e x)
  dec := dec_sound
  zero := has_sound
  eqT := fun _ _ _ _ h => nomatch h
  arr := arr_sound
theorem key_sound (e : TypeId) (h : isKey e = true) : (∃ k, lay.ds e = .int k ∧ ∀ y, ∃ n, enc e y = [.int k n]) ∨ (lay.ds e = .str ∧ ∀ y, ∃ s, enc e y = [.str s]) := by
  unfold isKey at h
  split at h
  · exact .inl ⟨.i64, rfl, fun y => ⟨y, rfl⟩⟩
  · exact .inr ⟨rfl, fun y => ⟨y, rfl⟩⟩
  · cases h
theorem goodM : GoodM Tryz.prog C where
  key := key_sound
  val := fun e h => by
    have h : isVal e = true := h
    unfold isVal at h
    split at h
    · cases h
end Ev.L3
