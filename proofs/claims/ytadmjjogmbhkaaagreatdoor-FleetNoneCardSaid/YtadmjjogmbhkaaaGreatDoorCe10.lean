/- The concrete run: from the middle of a body on. -/
import Derived.Test.YtadmjjogmbhkaaaGreatDoorCe7
namespace Ev
open Go
variable {P : Program} {X : Ctx S0}

def E00 : Env := ⟨fun _ => none, fun _ => none⟩
theorem ch00 (w : World) : CH X E00 (hp .lf) w := ⟨fun _ => rfl, fun _ => by simp [E00], fun l hl => absurd rfl hl, fun l m b sh wd tot sh' wd' tot' h => by cases h⟩
theorem fresh00 : Fresh 0 E00 (hp .lf) := fun l _ => ⟨rfl, rfl⟩

def trueV (v : V) : Bool := match v with
  | .bool true => true
  | .tt => true
  | _ => false
theorem trueV_vr {v : V} {E : Env} {u : Value} (h : trueV v = true) (hv : VR X E v u) : u = .bool true := by
  unfold trueV at h
  split at h
  · cases hv; rfl
  · cases hv; rfl
  · cases h

/-- what the rest of a body comes to is 'true' -/
noncomputable def restTrue (P : Program) (X : Ctx S0) (xt : FuncId → List V → Option V) (orc : FuncId → List V → Tr CB → Nat → Option Cr) (fuel d : Nat) (nt : Nat) (rs : List ResultVar) (c : Code) (fr : Tr V) (h : Tr CB) (n : Nat) : Bool :=
  match (exF X (runF X P xt orc fuel d) nt fuel c).run fr h n [] with
  | .bad _ => false
  | .ok (.ext _) _ _ _ _ => false
  | .ok .nrm _ _ _ _ => false
  | .ok .ret fr h _ ds => match dfr X P ds h with
    | true => match resC X fr h rs with
      | some vs => trueV (tupled vs)
      | none => false
    | false => false

theorem rest_true (G : Good P X) (C : GoodC P X) (hm : P.follows .mixedOrders = true) {xt : FuncId → List V → Option V} {orc : FuncId → List V → Tr CB → Nat → Option Cr} {fuel d : Nat} (horc : OrcOk P X orc)
    (hxt : ∀ f as v, xt f as = some v → ∀ (E : Env) (w : World) (us : Array Value), VRs X E as us.toList → ∃ u, (callFunc f us).run P w = .ok (.value u) w ∧ VR X E v u)
    {f0 : Func} {c : Code} (c2 : f0.ntmps < 4294967296) {fr : Tr V} {h : Tr CB} {n : Nat} {E : Env} {a : Act} {w : World} (hst : St X f0.ntmps E fr h n [] a w) (n0 : Nat) (w0 : World) (hn0 : n0 ≤ w.heap.size) (hb0 : RowKit.Below n0 w0 w) (hown : ∀ b, owns E (hp h) b → n0 ≤ b)
    (hc : restTrue P X xt orc fuel d f0.ntmps f0.results.toList c fr h n = true) :
    c.wp P (fun x a w => x = .ret ∧ bodyPostD P f0 (fun e w' => e = .returned (.bool true) ∧ RowKit.Below n0 w0 w') x a w) a w := by
  have ih := runF_sound G C hm (fuel := fuel) horc hxt d
  unfold restTrue at hc
  split at hc
  · cases hc
  · cases hc
  · cases hc
  · rename_i fr2 h2 n2 ds2 hx
    split at hc
    · rename_i hd
      split at hc
      · rename_i vs hvs
        refine wp_mono (exF_sound G C hm ih c2 fuel c fr h n [] E a w hx hst) ?_
        rintro e a' w' ⟨p1, p2, E1, p3, p4⟩
        obtain ⟨u, hu, hvu⟩ := resC_sound (P := P) G p3.fr p3.ch hvs
        have hlv : Leaves P f0 a'.tmps (fun e w' => e = .returned (.bool true) ∧ RowKit.Below n0 w0 w') a'.defers .returning w' :=
          dfr_sound G C p3.ch ⟨u, hu, by rw [trueV_vr hc hvu], hb0.trans ⟨p4.os, p4.tape, p4.output, p4.size, fun b hb => p4.frame b (by omega) (fun ho => by have := hown b ho; omega)⟩⟩ ds2 a'.defers hd p3.df
        subst p1
        exact ⟨rfl, hlv⟩
      · cases hc
    · cases hc

def crTrue (c : Cr) : Bool := match c with
  | .ok v _ _ => trueV v
  | .bad _ => false
/-- a call without arguments that comes to 'true' -/
theorem closed_below (G : Good P X) (C : GoodC P X) (hm : P.follows .mixedOrders = true) {xt : FuncId → List V → Option V} {orc : FuncId → List V → Tr CB → Nat → Option Cr} {fuel d f : Nat} (horc : OrcOk P X orc)
    (hxt : ∀ f as v, xt f as = some v → ∀ (E : Env) (w : World) (us : Array Value), VRs X E as us.toList → ∃ u, (callFunc f us).run P w = .ok (.value u) w ∧ VR X E v u)
    (hen : ∀ args w, (callFunc f args).run P w = .ok (.enter f args) w) (hc : crTrue (runF X P xt orc fuel d f [] .lf 0) = true) (w : World) : Calls P f #[] w fun e w' => e = .returned (.bool true) ∧ RowKit.Below w.heap.size w w' := by
  cases hrun : runF X P xt orc fuel d f [] .lf 0 with
  | bad s => rw [hrun] at hc; cases hc
  | ok v h' n' =>
    rw [hrun] at hc
    have hc : trueV v = true := hc
    rcases runF_sound G C hm (fuel := fuel) horc hxt d f [] .lf 0 v h' n' hrun E00 w #[] VRs.nil (ch00 w) fresh00 with ⟨h1, h2⟩ | ⟨u, h1, h2, _⟩
    · refine h2.mono ?_
      rintro e w' ⟨u, E', rfl, hv, hr, _, hx, _⟩
      rw [trueV_vr hc hv]
      exact ⟨rfl, ⟨hx.os, hx.tape, hx.output, hx.size, fun b hb => hx.frame b hb (fun ⟨l, _, _, _, h, _⟩ => h rfl)⟩⟩
    · rw [hen] at h1; cases h1
end Ev
