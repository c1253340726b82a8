/- Lemmas for the theorem: a part of the walk. -/
import Derived.Test.YtbndhppjabbacaaF13
namespace Ev
open Go Go.Proofs
set_option maxRecDepth 100000
def s48 : Spec Sg := fun args H K => H = [] ∧ ∃ l : List AtomR, args = [.imm 56 l] ∧ l.length ≤ 1000000000 ∧ K (.slc 0 0 l.length false) [.lst 56 l]
theorem f48_ok : FnOk Try.prog C 48 s48 := fn_ok mixed good goodM (gam []) gam_nil Try.func48 (body_some (by kernel_rfl)) (by kernel_rfl) (by kernel_rfl) s48 fun args H K h => by
  obtain ⟨rfl, l, rfl, hl, hK⟩ := h
  show abody C (gam []) Try.f48 (bodyOf Try.f48) [.imm 56 l] [] K
  refine fun b hb => ?_
  refine br_split (fun h => ?_) (fun h => ?_)
  · have e : l = [] := hb (by simpa using h)
    subst e
    exact ⟨[.slot 2 56], ⟨trivial, trivial⟩, hK⟩
  · have ob : (True ∧ 0 + 0 ≤ 0 ∧ (0 + l.length) * 32 ≤ maxBytes ∧ 0 + l.length ≤ maxInt) := ⟨trivial, by omega, by unfold maxBytes; omega, by unfold maxInt; omega⟩
    refine And.intro trivial ?_
    refine And.intro ob ?_
    refine ⟨[], trivial, ?_⟩
    have e : 0 + l.length = l.length := Nat.zero_add _
    rw [← e] at hK
    exact hK
def s49 : Spec Sg := fun args H K => H = [] ∧ ∃ l : List CodeR, args = [.imm 58 l] ∧ l.length ≤ 1000000000 ∧ K (.slc 0 0 l.length false) [.lst 58 l]
theorem f49_ok : FnOk Try.prog C 49 s49 := fn_ok mixed good goodM (gam []) gam_nil Try.func49 (body_some (by kernel_rfl)) (by kernel_rfl) (by kernel_rfl) s49 fun args H K h => by
  obtain ⟨rfl, l, rfl, hl, hK⟩ := h
  show abody C (gam []) Try.f49 (bodyOf Try.f49) [.imm 58 l] [] K
  refine fun b hb => ?_
  refine br_split (fun h => ?_) (fun h => ?_)
  · have e : l = [] := hb (by simpa using h)
    subst e
    exact ⟨[.slot 2 58], ⟨trivial, trivial⟩, hK⟩
  · have ob : (True ∧ 0 + 0 ≤ 0 ∧ (0 + l.length) * 32 ≤ maxBytes ∧ 0 + l.length ≤ maxInt) := ⟨trivial, by omega, by unfold maxBytes; omega, by unfold maxInt; omega⟩
    refine And.intro trivial ?_
    refine And.intro ob ?_
    refine ⟨[], trivial, ?_⟩
    have e : 0 + l.length = l.length := Nat.zero_add _
    rw [← e] at hK
    exact hK
def s50 : Spec Sg := fun args H K => H = [] ∧ ∃ l : List ByteArray, args = [.imm 9 l] ∧ l.length ≤ 1000000000 ∧ K (.slc 0 0 l.length false) [.lst 9 l]
theorem f50_ok : FnOk Try.prog C 50 s50 := fn_ok mixed good goodM (gam []) gam_nil Try.func50 (body_some (by kernel_rfl)) (by kernel_rfl) (by kernel_rfl) s50 fun args H K h => by
  obtain ⟨rfl, l, rfl, hl, hK⟩ := h
  show abody C (gam []) Try.f50 (bodyOf Try.f50) [.imm 9 l] [] K
  refine fun b hb => ?_
  refine br_split (fun h => ?_) (fun h => ?_)
  · have e : l = [] := hb (by simpa using h)
    subst e
    exact ⟨[.slot 2 9], ⟨trivial, trivial⟩, hK⟩
  · have ob : (True ∧ 0 + 0 ≤ 0 ∧ (0 + l.length) * 16 ≤ maxBytes ∧ 0 + l.length ≤ maxInt) := ⟨trivial, by omega, by unfold maxBytes; omega, by unfold maxInt; omega⟩
    refine And.intro trivial ?_
    refine And.intro ob ?_
    refine ⟨[], trivial, ?_⟩
    have e : 0 + l.length = l.length := Nat.zero_add _
    rw [← e] at hK
    exact hK
def s51 : Spec Sg := fun args H K => H = [] ∧ ∃ l : List WeightR, args = [.imm 62 l] ∧ l.length ≤ 1000000000 ∧ K (.slc 0 0 l.length false) [.lst 62 l]
theorem f51_ok : FnOk Try.prog C 51 s51 := fn_ok mixed good goodM (gam []) gam_nil Try.func51 (body_some (by kernel_rfl)) (by kernel_rfl) (by kernel_rfl) s51 fun args H K h => by
  obtain ⟨rfl, l, rfl, hl, hK⟩ := h
  show abody C (gam []) Try.f51 (bodyOf Try.f51) [.imm 62 l] [] K
  refine fun b hb => ?_
  refine br_split (fun h => ?_) (fun h => ?_)
  · have e : l = [] := hb (by simpa using h)
    subst e
    exact ⟨[.slot 2 62], ⟨trivial, trivial⟩, hK⟩
  · have ob : (True ∧ 0 + 0 ≤ 0 ∧ (0 + l.length) * 16 ≤ maxBytes ∧ 0 + l.length ≤ maxInt) := ⟨trivial, by omega, by unfold maxBytes; omega, by unfold maxInt; omega⟩
    refine And.intro trivial ?_
    refine And.intro ob ?_
    refine ⟨[], trivial, ?_⟩
    have e : 0 + l.length = l.length := Nat.zero_add _
    rw [← e] at hK
    exact hK
def ord27 : Nat → List (Nat × List Nat)
  | 1 => [(0, []), (1, []), (3, []), (4, []), (6, []), (7, []), (2, [4, 7]), (9, []), (5, [7]), (8, []), (10, []), (11, []), (12, []), (13, []), (14, [])]
  | 5 => [(0, []), (1, []), (2, []), (3, []), (4, []), (5, []), (6, []), (7, []), (8, []), (9, [1]), (10, []), (11, []), (12, [])]
  | _ => []
theorem set_get {α : Type} (l : List α) (i : Nat) (d : α) : l.set i (l.getD i d) = l := by
  apply List.ext_getElem
  · simp
  · intro n h1 h2
    rw [List.getElem_set]
    split
    · rename_i e; subst e; rw [List.getD_eq_getElem?_getD, List.getElem?_eq_getElem h2]; rfl
    · rfl
def Few (p : ProgR) : Prop := p.Atoms.length ≤ 1000000 ∧ p.Codes.length ≤ 1000000 ∧ p.Props.length ≤ 1000000 ∧ ∀ a, a ∈ p.Atoms → a.Terms.length ≤ 1000000
def s27 : Spec Sg := p1 C 28 fun (p : ProgR) K => Few p ∧ K (.agg (enc28 p)) []
def G27 : FuncId → Spec Sg := gam [(48, s48), (49, s49), (50, s50), (51, s51)]
theorem f27_ok : FnOk Try.prog C 27 s27 := fn_okO mixed good goodM G27 (gam_cons f48_ok (gam_cons f49_ok (gam_cons f50_ok (gam_cons f51_ok gam_nil)))) Try.func27 (body_some (by kernel_rfl)) (by kernel_rfl) ord27 (by kernel_rfl) s27 fun args H K h => by
  obtain ⟨rfl, p, rfl, hf, hK⟩ := of_p1 h
  clear h
  show abodyO C G27 ord27 Try.f27 (bodyOf Try.f27) [.agg (enc28 p)] [] K
  revert p
  intro (p : ProgR) hf hK
  refine And.intro ⟨trivial, trivial⟩ ?_
  refine ⟨rfl, p.Atoms, rfl, by have := hf.1; omega, ?_⟩
  refine And.intro rfl ?_
  refine And.intro rfl ?_
  refine And.intro ⟨trivial, trivial⟩ ?_
  refine ⟨rfl, p.Codes, rfl, by have := hf.2.1; omega, ?_⟩
  refine And.intro rfl ?_
  refine And.intro ⟨trivial, trivial⟩ ?_
  refine ⟨rfl, p.Props, rfl, by have := hf.2.2.1; omega, ?_⟩
  refine ⟨[1, 2, 18, 19], [], List AtomR × Int, fun (l, i) => (frameOf [(1, .ptr 0 0 0), (2, .ptr 1 0 0), (18, .int .i64 p.Atoms.length), (19, .int .i64 i)],
      [.cells [.int .i64 p.Cells, .int .i64 p.Stack, .int .i64 p.Signals, .slc 2 0 p.Atoms.length false, .slc 3 0 p.Codes.length false, .slc 4 0 p.Props.length false], .cells [.int .i64 0, .int .i64 0, .int .i64 0, .nils, .nils, .nils],
        .lst 56 l, .lst 58 p.Codes, .lst 9 p.Props]),
    fun x => 0 ≤ x.2 ∧ x.2 ≤ p.Atoms.length ∧ x.1 = p.Atoms, fun x => p.Atoms.length - x.2.toNat, ⟨trivial, (p.Atoms, 0), rfl, by simp, by simp, rfl⟩, ?_⟩
  rintro ⟨l, i⟩ ⟨i1, i2, rfl⟩
  dsimp only at i1 i2 ⊢
  refine br_split (fun h4 => ?_) (fun h4 => ?_)
  · have h4 : i < p.Atoms.length := of_decide_eq_true h4
    have hw : wr .i64 (i + 1) = i + 1 := wr_i64 (by omega) (by have := hf.1; omega)
    have hm := mem_get p.Atoms (0 + i.toNat) (C.zero 56) (by omega)
    have ht := hf.2.2.2 _ hm
    refine And.intro ⟨i1, h4⟩ ?_
    refine And.intro (by omega : 0 + i.toNat < p.Atoms.length) ?_
    refine And.intro ⟨trivial, trivial⟩ ?_
    refine ⟨rfl, (p.Atoms.getD (0 + i.toNat) (C.zero 56)).Terms, rfl, by omega, ?_⟩
    refine And.intro rfl ?_
    refine And.intro ⟨i1, h4⟩ ?_
    refine And.intro ⟨⟨by omega, trivial⟩, (by omega : 0 + i.toNat < p.Atoms.length)⟩ ?_
    refine And.intro trivial ⟨(_, _), rfl, ⟨?_, ?_, ?_⟩, ?_⟩
    · rw [hw]; omega
    · rw [hw]; omega
    · have e : ∀ a : AtomR, (⟨(a.Terms.drop 0).take a.Terms.length, a.Num⟩ : AtomR) = a := by intro a; simp
      refine Eq.trans (congrArg (p.Atoms.set (0 + i.toNat)) (e _)) (set_get _ _ _)
    · dsimp only; rw [hw]; omega
  · refine ⟨[.frzc 1 3, .frzc 1 4, .frzc 1 5], ⟨⟨by simp, trivial⟩, ⟨by simp, trivial⟩, ⟨by simp, trivial⟩, trivial⟩, ?_⟩
    have e : ∀ {α : Type} (l : List α), (l.drop 0).take l.length = l := by intro α l; simp
    have hK : K (.agg (enc28 ⟨p.Cells, p.Stack, p.Signals, (p.Atoms.drop 0).take p.Atoms.length, (p.Codes.drop 0).take p.Codes.length, (p.Props.drop 0).take p.Props.length⟩)) [] := by rw [e, e, e]; exact hK
    exact hK
end Ev
