/- The concrete run of one program: its context out of its layouts. -/
import Derived.Test.YtadmjjogmbhkaaaGreatDoorCe7
import Derived.Test.YtadmjjogmbhkaaaGreatDoorEvG
namespace Ev
open Go
variable {P : Program} {L : Lay} {eqs : List TypeId}

/-- 'eqs': the types of flat structs that are compared -/
def X0 (L : Lay) (eqs : List TypeId) : Ctx S0 where
  L := L
  enc := fun e _ => List.replicate (L.size e) .nilp
  dec := fun _ _ => none
  zero := fun _ => ()
  asLst := fun _ => false
  has := fun _ => false
  eqT := fun _ => false
  isKey := fun _ => false
  isVal := fun t => memC t eqs
  frz := fun _ => []

theorem good0 (h : LayOk P L) : Good P (X0 L eqs) where
  lay := h
  enc_len := fun e x => by simp [X0]
  enc_one := fun e x a ha => by simp [X0] at ha; rw [ha.2]; rfl
  enc_noLoc := fun e x a ha => by simp [X0] at ha; rw [ha.2]; rfl
  dec := fun e r x h => by cases h
  zero := fun e h => by cases h
  eqT := fun t cs cs' b h => by cases h
  arr := fun t n e h => by cases h

def eqC (P : Program) (t : TypeId) : Bool := match P.underlying t with
  | some (.struct gs) => !(P.stoodInHeld t) && (gs.toList.all (fun f => !(decide (f.name = "_"))) && !(P.eqGuardType P.depth t))
  | _ => true
def valC (P : Program) (L : Lay) (t : TypeId) : Bool := match zok (X0 L []) t with
  | false => true
  | true => match P.info? t with
    | some i => match i.zero with
      | some z => Nat.beq i.size (L.size t) && (Nat.beq i.bytes (L.bytes t) && (match isAggD (L.ds t) with
        | true => match z with
          | .agg ds => cellsEq ds.toList (L.row t).zero
          | _ => false
        | false => match (L.row t).zero with
          | [c] => cellEq z c && z.oneCell'
          | _ => false))
      | none => false
    | none => false
theorem goodC_of (n : Nat) (heq : eqs.all (eqC P) = true) (h : (List.range n).all (valC P L) = true) (hout : ∀ t, n ≤ t → L.row t = ⟨.other, 0, 0, []⟩) : GoodC P (X0 L eqs) where
  eqt := fun t ht gs hu => by
    have hm : t ∈ eqs := (memC_iff t eqs).1 ht
    have := List.all_eq_true.1 heq t hm
    unfold eqC at this
    rw [hu] at this
    simp only [Bool.and_eq_true, Bool.not_eq_true'] at this
    obtain ⟨h1, h2, h3⟩ := this
    refine ⟨h1, fun f hf => ?_, h3⟩
    have := List.all_eq_true.1 h2 f hf
    simpa using this
  val := fun t hz => by
    have hz : zok (X0 L []) t = true := hz
    have hlt : t < n := by
      rcases Nat.lt_or_ge t n with h1 | h1
      · exact h1
      · have : isOther ((X0 L []).L.ds t) = true := by
          show isOther (L.row t).ds = true
          rw [hout t h1]; rfl
        simp [zok, this] at hz
    have hv := List.all_eq_true.1 h t (List.mem_range.2 hlt)
    unfold valC at hv
    rw [hz] at hv
    simp only at hv
    split at hv
    · rename_i i hi
      split at hv
      · rename_i z hzz
        simp only [Bool.and_eq_true] at hv
        obtain ⟨h1, h2, h3⟩ := hv
        refine ⟨i, z, hi, hzz, Nat.eq_of_beq_eq_true h1, Nat.eq_of_beq_eq_true h2, ?_⟩
        split at h3
        · rename_i ha
          split at h3
          · rename_i ds
            exact .inl ⟨ha, ds, rfl, cellsEq_sound h3⟩
          · cases h3
        · rename_i ha
          split at h3
          · rename_i c hc
            simp only [Bool.and_eq_true] at h3
            have := cellEq_sound h3.1
            subst this
            exact .inr ⟨ha, hc, h3.2⟩
          · cases h3
      · cases hv
    · cases hv
end Ev
