/- Specifications by typed arguments; lists of specifications. -/
import Derived.Test.YtadmjjogmbhkaaaGreatDoorEvG
namespace Ev
open Go
variable {S : Sig} {P : Program} {X : Ctx S}

/-- what is known of some functions -/
def gam : List (FuncId × Spec S) → FuncId → Spec S
  | [], _ => fun _ _ _ => False
  | (g, s) :: r, f => match Nat.beq g f with
    | true => s
    | false => gam r f
theorem gam_nil : ∀ f, FnOk P X f (gam [] f) := fun _ => fn_none
theorem gam_cons {g : FuncId} {s : Spec S} {r : List (FuncId × Spec S)} (h : FnOk P X g s) (hr : ∀ f, FnOk P X f (gam r f)) : ∀ f, FnOk P X f (gam ((g, s) :: r) f) := by
  intro f
  unfold gam
  split
  · rename_i he; have := Nat.eq_of_beq_eq_true he; subst this; exact h
  · exact hr f

theorem isNilL_nil {α : Type} {l : List α} (h : isNilL l = true) : l = [] := by
  cases l with
  | nil => rfl
  | cons a r => cases h

/-- arguments of some types, each in its written form -/
def p0 (s : (AV S → AH S → Prop) → Prop) : Spec S := fun args H K => isNilL H = true ∧ match args with
  | [] => s K
  | _ => False
def p1 (X : Ctx S) (t : TypeId) (s : S.T t → (AV S → AH S → Prop) → Prop) : Spec S := fun args H K => isNilL H = true ∧ match args with
  | [a] => match X.dec t (cellsOf a) with
    | some x => a = valOf X t x ∧ s x K
    | none => False
  | _ => False
def p2 (X : Ctx S) (t t' : TypeId) (s : S.T t → S.T t' → (AV S → AH S → Prop) → Prop) : Spec S := fun args H K => isNilL H = true ∧ match args with
  | [a, b] => match X.dec t (cellsOf a) with
    | some x => match X.dec t' (cellsOf b) with
      | some y => (a = valOf X t x ∧ b = valOf X t' y) ∧ s x y K
      | none => False
    | none => False
  | _ => False
def p3 (X : Ctx S) (t t' t'' : TypeId) (s : S.T t → S.T t' → S.T t'' → (AV S → AH S → Prop) → Prop) : Spec S := fun args H K => isNilL H = true ∧ match args with
  | [a, b, c] => match X.dec t (cellsOf a) with
    | some x => match X.dec t' (cellsOf b) with
      | some y => match X.dec t'' (cellsOf c) with
        | some z => (a = valOf X t x ∧ b = valOf X t' y ∧ c = valOf X t'' z) ∧ s x y z K
        | none => False
      | none => False
    | none => False
  | _ => False
/-- one argument of a type, then others -/
def tyc (X : Ctx S) (t : TypeId) (s : S.T t → Spec S) : Spec S := fun args H K => match args with
  | a :: r => match X.dec t (cellsOf a) with
    | some x => a = valOf X t x ∧ s x r H K
    | none => False
  | _ => False

theorem of_p1 {t : TypeId} {s : S.T t → (AV S → AH S → Prop) → Prop} {args : List (AV S)} {H : AH S} {K : AV S → AH S → Prop} (h : p1 X t s args H K) : H = [] ∧ ∃ x, args = [valOf X t x] ∧ s x K := by
  unfold p1 at h
  obtain ⟨h0, h⟩ := h
  refine ⟨isNilL_nil h0, ?_⟩
  split at h
  · split at h
    · exact ⟨_, by rw [h.1], h.2⟩
    · exact h.elim
  · exact h.elim
theorem of_p2 {t t' : TypeId} {s : S.T t → S.T t' → (AV S → AH S → Prop) → Prop} {args : List (AV S)} {H : AH S} {K : AV S → AH S → Prop} (h : p2 X t t' s args H K) : H = [] ∧ ∃ x y, args = [valOf X t x, valOf X t' y] ∧ s x y K := by
  unfold p2 at h
  obtain ⟨h0, h⟩ := h
  refine ⟨isNilL_nil h0, ?_⟩
  split at h
  · split at h
    · split at h
      · exact ⟨_, _, by rw [h.1.1, h.1.2], h.2⟩
      · exact h.elim
    · exact h.elim
  · exact h.elim
theorem of_p3 {t t' t'' : TypeId} {s : S.T t → S.T t' → S.T t'' → (AV S → AH S → Prop) → Prop} {args : List (AV S)} {H : AH S} {K : AV S → AH S → Prop} (h : p3 X t t' t'' s args H K) :
    H = [] ∧ ∃ x y z, args = [valOf X t x, valOf X t' y, valOf X t'' z] ∧ s x y z K := by
  unfold p3 at h
  obtain ⟨h0, h⟩ := h
  refine ⟨isNilL_nil h0, ?_⟩
  split at h
  · split at h
    · split at h
      · split at h
        · exact ⟨_, _, _, by rw [h.1.1, h.1.2.1, h.1.2.2], h.2⟩
        · exact h.elim
      · exact h.elim
    · exact h.elim
  · exact h.elim
theorem of_p0 {s : (AV S → AH S → Prop) → Prop} {args : List (AV S)} {H : AH S} {K : AV S → AH S → Prop} (h : p0 s args H K) : H = [] ∧ args = [] ∧ s K := by
  unfold p0 at h
  obtain ⟨h0, h⟩ := h
  refine ⟨isNilL_nil h0, ?_⟩
  split at h
  · exact ⟨rfl, h⟩
  · exact h.elim
theorem of_tyc {t : TypeId} {s : S.T t → Spec S} {args : List (AV S)} {H : AH S} {K : AV S → AH S → Prop} (h : tyc X t s args H K) : ∃ x r, args = valOf X t x :: r ∧ s x r H K := by
  unfold tyc at h
  split at h
  · split at h
    · exact ⟨_, _, by rw [h.1], h.2⟩
    · exact h.elim
  · exact h.elim

def bodyOf (f : Func) : Code := f.body.getD .skip
theorem body_some {f : Func} (h : f.body.isSome = true) : f.body = some (bodyOf f) := by
  unfold bodyOf
  cases hb : f.body with
  | none => rw [hb] at h; cases h
  | some c => rfl

theorem wrap_i64 {n : Int} (h : -9223372036854775808 ≤ n) (h' : n ≤ 9223372036854775807) : IntKind.i64.wrap n = n := by
  simp only [IntKind.wrap]
  split
  · rename_i hc
    simp [IntKind.bits, IntKind.signed] at hc ⊢
    omega
  · rename_i hc
    simp [IntKind.bits, IntKind.signed] at hc ⊢
    omega
theorem wr_i64 {n : Int} (h : -9223372036854775808 ≤ n) (h' : n ≤ 9223372036854775807) : wr .i64 n = n := by rw [wr_eq]; exact wrap_i64 h h'
theorem to_int {K : AV S → AH S → Prop} {k : IntKind} {a b : Int} {H : AH S} (hK : K (.int k a) H) (h : a = b) : K (.int k b) H := h ▸ hK
theorem to_bool {K : AV S → AH S → Prop} {a b : Bool} {H : AH S} (hK : K (.bool a) H) (h : a = b) : K (.bool b) H := h ▸ hK
theorem to_str {K : AV S → AH S → Prop} {a b : ByteArray} {H : AH S} (hK : K (.str a) H) (h : a = b) : K (.str b) H := h ▸ hK
end Ev
