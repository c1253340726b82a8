/- The oracles of the concrete run at this program: functions whose answer is known. -/
import Derived.Test.YtfmjabdpkfcbkaaGreatDoorCe9
import Derived.Test.YtfmjabdpkfcbkaaGreatDoorCe10
import Derived.Test.YtfmjabdpkfcbkaaGreatDoorCe11
import Derived.Test.YtfmjabdpkfcbkaaGreatDoorCeX3
namespace Ev.CX3
open Go Go.Proofs
noncomputable section
noncomputable def xt : FuncId → List (AV S0) → Option (AV S0) := fun f xs => match Nat.beq f 375 with
  | true => xIndexByte xs
  | false => match Nat.beq f 163 with
    | true => xAdd64 xs
    | false => none
noncomputable def orcClone : List V → Option V
  | [.str s] => match Nat.ble s.size 281474976710656 with
    | true => some (.str s)
    | false => none
  | _ => none
noncomputable def orcMid (h : Tr CB) : List V → Option V
  | [.slc l off len _] => match h.get .dead l with
    | .arr wd cs => match Nat.beq wd 1 && Nat.blt 0 len && Nat.ble (off + len) cs.length && Nat.ble len 1000 with
      | true => match i64s ((cs.drop off).take len) with
        | some zs => some (.int .i64 ((sortI zs).getD (Nat.div (Nat.sub len 1) 2) 0))
        | none => none
      | false => none
    | _ => none
  | _ => none
noncomputable def orcSeen (h : Tr CB) : List V → Option V
  | [.ptr l r s, .int .i64 _] => match Nat.beq r 0 && Nat.beq s 0 with
    | true => match h.get .dead l with
      | .arr _ (_ :: _ :: _ :: .map m :: _) => match h.get .dead m with
        | .mp _ _ [] => some .nils
        | _ => none
      | _ => none
    | false => none
  | _ => none
noncomputable def orcA : FuncId → List V → Tr CB → Option V := fun f xs h => match Nat.beq f 338 with
  | true => orcClone xs
  | false => match Nat.beq f 93 with
    | true => orcMid h xs
    | false => match Nat.beq f 12 with
      | true => orcSeen h xs
      | false => none
noncomputable def orcB : FuncId → List V → Tr CB → Option V := fun f xs h => match Nat.beq f 5 with
  | true => match xs with
    | [] => some (.bool true)
    | _ => none
  | false => orcA f xs h
noncomputable def seqL : Code → Code
  | .seq a _ => a
  | c => c
noncomputable def seqR : Code → Code
  | .seq _ b => b
  | c => c
noncomputable def condA : Code → Code
  | .cond _ a _ => a
  | c => c
noncomputable def bodyC (f : Func) : Code := match f.body with
  | some c => c
  | none => .skip
noncomputable def rest3 : Code := seqR (seqR (bodyC Tryz.f3))
noncomputable def then3 : Code := condA (seqR (seqL (seqR (bodyC Tryz.f3))))
noncomputable def top5 : List V := [.top, .top, .top, .top, .top]
noncomputable def fr3 : Tr V := .nd (.nd .lf (.ptr 0 0 0) .lf) .top .lf
noncomputable def h3 : Tr CB := .nd .lf (.arr 5 top5) .lf
end
end Ev.CX3
