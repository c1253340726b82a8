/- The oracles of the concrete run at this program: functions whose answer is known. -/
import Derived.Test.YtadmjjogmbhkaaaGreatDoorCe9
import Derived.Test.YtadmjjogmbhkaaaGreatDoorCe12
import Derived.Test.YtadmjjogmbhkaaaGreatDoorCe11
import Derived.Test.YtadmjjogmbhkaaaGreatDoorCeX
namespace Ev.CX
open Go Go.Proofs
noncomputable section
noncomputable def xt : FuncId → List (AV S0) → Option (AV S0) := fun f xs => match Nat.beq f 403 with
  | true => xIndexByte xs
  | false => match Nat.beq f 158 with
    | true => xAdd64 xs
    | false => none
noncomputable def orcClone : List V → Option V
  | [.str s] => match Nat.ble s.size 281474976710656 with
    | true => some (.str s)
    | false => none
  | _ => none
noncomputable def orcMid (h : Tr CB) : List V → Option V
  | [.slc l off len _] => match h.get .dead l with
    | .arr wd cs => match Nat.beq wd 1 && Nat.blt 0 len && Nat.ble (off + len) cs.length && Nat.ble len 1000 with
      | true => match i64s ((cs.drop off).take len) with
        | some zs => some (.int .i64 ((sortI zs).getD (Nat.div (Nat.sub len 1) 2) 0))
        | none => none
      | false => none
    | _ => none
  | _ => none
noncomputable def orcSeen (h : Tr CB) : List V → Option V
  | [.ptr l r s, .int .i64 _] => match Nat.beq r 0 && Nat.beq s 0 with
    | true => match h.get .dead l with
      | .arr _ (_ :: _ :: _ :: .map m :: _) => match h.get .dead m with
        | .mp _ _ [] => some .nils
        | _ => none
      | _ => none
    | false => none
  | _ => none
noncomputable def orcV : FuncId → List V → Tr CB → Option V := fun f xs h => match Nat.beq f 355 with
  | true => orcClone xs
  | false => match Nat.beq f 163 with
    | true => orcMid h xs
    | false => match Nat.beq f 53 with
      | true => orcSeen h xs
      | false => none
noncomputable def seqL : Code → Code
  | .seq a _ => a
  | c => c
noncomputable def seqR : Code → Code
  | .seq _ b => b
  | c => c
noncomputable def condA : Code → Code
  | .cond _ a _ => a
  | c => c
noncomputable def bodyC (f : Func) : Code := match f.body with
  | some c => c
  | none => .skip
end
end Ev.CX
