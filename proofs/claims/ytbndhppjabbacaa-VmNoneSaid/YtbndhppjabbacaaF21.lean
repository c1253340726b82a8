/- Lemmas for the theorem: a part of the walk. -/
import Derived.Test.YtbndhppjabbacaaF20
namespace Ev
open Go Go.Proofs
set_option maxRecDepth 100000
def ord56 : Nat → List (Nat × List Nat)
  | _ => []
def sH (cells : List Bool) (nc : Nat) (ticks : Int) (over : Bool) : AH Sg := [.cells [.slc 1 0 nc false, .int .i64 ticks, .bool over], .lst 4 cells]
def s56 : Spec Sg := fun args H K => ∃ (c : CodeR) (p q : Bool) (cells : List Bool) (nc : Nat) (ticks : Int) (over : Bool), args = [.ptr 0 0 0, .agg (enc58 c), .bool p, .bool q] ∧ H = sH cells nc ticks over ∧
  (0 ≤ c.A ∧ 0 ≤ c.From ∧ c.From ≤ 1000 ∧ (c.To = -1 ∨ c.From ≤ c.To ∧ c.To ≤ 1000) ∧ c.A.toNat + (sinceTo c).toNat + 1 ≤ cells.length ∧ nc = cells.length ∧ nc ≤ 20000) ∧
  ∀ v cells', v = sinceHolds c p q cells → cells' = sinceCells c p q cells → K (.bool v) (sH cells' nc ticks over)
theorem f56_ok : FnOk Try.prog C 56 s56 := fn_ok mixed good goodM (gam []) gam_nil Try.func56 (body_some (by kernel_rfl)) (by kernel_rfl) (by kernel_rfl) s56 fun args H K h => by
  obtain ⟨c, p, q, cells, nc, ticks, over, rfl, rfl, ⟨a0, f0, f1, t0, hseg, hnc, hle⟩, hK⟩ := h
  show abody C (gam []) Try.f56 (bodyOf Try.f56) [.ptr 0 0 0, .agg (enc58 c), .bool p, .bool q] (sH cells nc ticks over) K
  refine br_split (fun h => ?_) (fun h => ?_)
  · have hT : c.To = -1 := eq_of_beq h
    have hto : sinceTo c = c.From := by unfold sinceTo; rw [if_pos hT]
    have t1 : 0 ≤ c.From ∧ c.From ≤ 1000 := by omega
    have hseg0 := hseg
    rw [hto] at hseg
    have s0 : Shifted c p cells cells (c.From).toNat := by have := shifted0 c p cells; rw [hto] at this; exact this
    have ehi : wr .i64 (wr .i64 (c.A + c.From) + 1) = c.A + c.From + 1 := by rw [wr_i64 (n := c.A + c.From) (by omega) (by omega), wr_i64 (by omega) (by omega)]
    have o1 : 0 ≤ c.A ∧ c.A ≤ wr .i64 (wr .i64 (c.A + c.From) + 1) ∧ wr .i64 (wr .i64 (c.A + c.From) + 1) ≤ (nc : Int) := by rw [ehi]; omega
    refine And.intro o1 ?_
    have ew : (wr .i64 (wr .i64 (c.A + c.From) + 1)).toNat - c.A.toNat = (c.From).toNat + 1 := by rw [ehi]; omega
    have o2 : 0 ≤ c.From ∧ c.From < (((wr .i64 (wr .i64 (c.A + c.From) + 1)).toNat - c.A.toNat : Nat) : Int) := by rw [ew]; omega
    refine And.intro o2 ?_
    have o3 : 0 + c.A.toNat + (c.From).toNat < cells.length := by omega
    refine And.intro o3 ?_
    have hfar : List.getD cells (0 + c.A.toNat + (c.From).toNat) (C.zero 4) = cells.getD (c.A.toNat + (c.From).toNat) false := by rw [Nat.zero_add]; rfl
    generalize hfv : List.getD cells (0 + c.A.toNat + (c.From).toNat) (C.zero 4) = far at hfar
    refine ⟨[0, 2, 3, 5, 9, 10, 11, 12], [.keep], List Bool × Nat × Nat × Int, fun (cs, o, w, d) => (frameOf [(0, .ptr 0 0 0), (2, .bool p), (3, .bool q), (5, .ptr 2 0 0), (9, .int .i64 c.From), (10, .slc 1 o w false), (11, .bool far), (12, .int .i64 d)], sH cs nc ticks over ++ [.cells (enc58 c)]),
      fun x => 0 ≤ x.2.2.2 ∧ x.2.2.2 ≤ c.From ∧ x.2.1 = c.A.toNat ∧ x.2.2.1 = (c.From).toNat + 1 ∧ Shifted c p cells x.1 x.2.2.2.toNat, fun x => x.2.2.2.toNat,
      ⟨⟨trivial, trivial⟩, (cells, _, _, _), by rw [← hfv]; rfl, t1.1, Int.le_refl _, Nat.zero_add _, ew, s0⟩, ?_⟩
    rintro ⟨cs, o, w, d⟩ ⟨d1, d2, eo, ew2, hsh⟩
    dsimp only at d1 d2 eo ew2 hsh ⊢
    subst eo; subst ew2
    have hlen := hsh.1
    refine br_split (fun h4 => ?_) (fun h4 => ?_)
    · have h4 : d > 0 := of_decide_eq_true h4
      have dw : wr .i64 (d - 1) = d - 1 := wr_i64 (by omega) (by omega)
      obtain ⟨e, he⟩ : ∃ e : Nat, d.toNat = e + 1 := ⟨d.toNat - 1, by omega⟩
      have dw2 : (wr .i64 (d - 1)).toNat = e := by rw [dw]; omega
      rw [he] at hsh
      have st := shifted_step hsh (by rw [hto]; exact hseg) (by rw [hto]; omega)
      have o4 : 0 ≤ d ∧ d < (((c.From).toNat + 1 : Nat) : Int) := by omega
      have o5 : True ∧ c.A.toNat + d.toNat < cs.length := ⟨trivial, by omega⟩
      have o6 : 0 ≤ wr .i64 (d - 1) ∧ wr .i64 (d - 1) < (((c.From).toNat + 1 : Nat) : Int) := by rw [dw]; omega
      have o7 : c.A.toNat + (wr .i64 (d - 1)).toNat < cs.length := by rw [dw2]; omega
      have nx : ∀ b, b = (p && cs.getD (c.A.toNat + e) false) → (0 ≤ wr .i64 (d - 1) ∧ wr .i64 (d - 1) ≤ c.From ∧ c.A.toNat = c.A.toNat ∧ (c.From).toNat + 1 = (c.From).toNat + 1 ∧ Shifted c p cells (cs.set (c.A.toNat + d.toNat) b) (wr .i64 (d - 1)).toNat) ∧ (wr .i64 (d - 1)).toNat < d.toNat := by
        intro b hb
        rw [dw2, he, hb]
        exact ⟨⟨by rw [dw]; omega, by rw [dw]; omega, rfl, rfl, st⟩, by omega⟩
      refine br_split (fun hp => ?_) (fun hp => ?_)
      · refine And.intro o6 ?_
        refine And.intro o7 ?_
        refine And.intro o4 ?_
        refine And.intro o5 ?_
        have := nx (List.getD cs (c.A.toNat + (wr .i64 (d - 1)).toNat) (C.zero 4)) (by rw [hp, dw2]; rfl)
        exact And.intro ⟨trivial, trivial⟩ ⟨(_, _, _, _), rfl, this.1, this.2⟩
      · refine And.intro o4 ?_
        refine And.intro o5 ?_
        have := nx false (by rw [hp]; rfl)
        exact And.intro ⟨trivial, trivial⟩ ⟨(_, _, _, _), rfl, this.1, this.2⟩
    have h4 : ¬ d > 0 := of_decide_eq_false h4
    have d0 : d = 0 := by omega
    subst d0
    have o8 : (0 : Int) ≤ 0 ∧ (0 : Int) < (((c.From).toNat + 1 : Nat) : Int) := by omega
    refine And.intro o8 ?_
    refine And.intro (⟨trivial, by omega⟩ : True ∧ c.A.toNat + (0 : Int).toNat < cs.length) ?_
    have hfin := fun b (hb : b = ((cs.set c.A.toNat q).getD (c.A.toNat + (sinceTo c).toNat) false || (p && cells.getD (c.A.toNat + (sinceTo c).toNat) false))) => (congrArg ((cs.set c.A.toNat q).set (c.A.toNat + (sinceTo c).toNat)) hb).trans (since_done' (q := q) hsh hseg0 hT)
    rw [hto] at hfin
    have l1 : (cs.set (c.A.toNat + (0 : Int).toNat) q).length = cells.length := by rw [List.length_set]; exact hlen
    have o9 : 0 ≤ c.From ∧ c.From < ((c.From.toNat + 1 : Nat) : Int) := by omega
    have o10 : c.A.toNat + c.From.toNat < (cs.set (c.A.toNat + (0 : Int).toNat) q).length := by rw [l1]; omega
    refine br_split (fun h5 => ?_) (fun h5 => by rw [show (c.To == -1) = true from h] at h5; cases h5)
    refine And.intro o9 ?_
    refine And.intro o10 ?_
    refine br_split (fun h6 => ?_) (fun h6 => ?_)
    · have h6 : (cs.set c.A.toNat q).getD (c.A.toNat + c.From.toNat) false = true := h6
      refine And.intro o9 ?_
      refine And.intro ⟨trivial, o10⟩ ?_
      refine ⟨[9, 10, 13], [.keep], List Bool × Int, fun (l, d) => (frameOf [(9, .int .i64 c.From), (10, .slc 1 c.A.toNat ((c.From).toNat + 1) false), (13, .int .i64 d)], sH l nc ticks over),
        fun x => c.From ≤ x.2 ∧ x.2 ≤ c.From + 1 ∧ x.1 = sinceCells c p q cells ∧ ((sinceSeg c p q cells).drop x.2.toNat).any id = sinceHolds c p q cells, fun x => ((c.From).toNat + 1) - x.2.toNat,
        ⟨⟨trivial, trivial⟩, (_, _), rfl, Int.le_refl _, by omega, hfin _ (by rw [h6]; rfl), rfl⟩, ?_⟩
      rintro ⟨l, d⟩ ⟨d1, d2, hl, he⟩
      dsimp only at d1 d2 hl he ⊢
      have hll : l.length = cells.length := by rw [hl]; exact sinceCells_len hseg0
      refine br_split (fun h4 => ?_) (fun h4 => ?_)
      · have h4 : d ≤ c.From := of_decide_eq_true h4
        have dw : wr .i64 (d + 1) = d + 1 := wr_i64 (by omega) (by omega)
        have dw2 : (d + 1).toNat = d.toNat + 1 := by omega
        have hg := since_get (p := p) (q := q) hseg0 d.toNat (by rw [hto]; omega)
        rw [← hl] at hg
        have hget := drop_get (sinceSeg c p q cells) d.toNat false (by rw [sinceSeg_len, hto]; omega)
        rw [hget, List.any_cons, hg] at he
        refine And.intro (by omega : 0 ≤ d ∧ d < (((c.From).toNat + 1 : Nat) : Int)) ?_
        refine And.intro (by omega : c.A.toNat + d.toNat < l.length) ?_
        refine br_split (fun h6 => ?_) (fun h6 => ?_)
        · have h6 : l.getD (c.A.toNat + d.toNat) false = true := h6
          rw [h6] at he
          exact ⟨[.keep], ⟨trivial, trivial⟩, hK true l (by rw [← he]; rfl) hl⟩
        · have h6 : l.getD (c.A.toNat + d.toNat) false = false := h6
          rw [h6] at he
          have he : (false || ((sinceSeg c p q cells).drop (d.toNat + 1)).any id) = sinceHolds c p q cells := he
          rw [Bool.false_or] at he
          refine And.intro ⟨trivial, trivial⟩ ⟨(_, _), rfl, ⟨?_, ?_, hl, ?_⟩, ?_⟩
          · dsimp only; rw [dw]; omega
          · dsimp only; rw [dw]; omega
          · dsimp only; rw [dw, dw2]; exact he
          · dsimp only; rw [dw]; omega
      · have h4 : ¬ d ≤ c.From := of_decide_eq_false h4
        rw [List.drop_eq_nil_of_le (by rw [sinceSeg_len, hto]; omega)] at he
        exact ⟨[.keep], ⟨trivial, trivial⟩, hK false l he hl⟩

    · have h6 : (cs.set c.A.toNat q).getD (c.A.toNat + c.From.toNat) false = false := h6
      refine br_split (fun hp => ?_) (fun hp => ?_)
      · refine And.intro o9 ?_
        refine And.intro ⟨trivial, o10⟩ ?_
        refine ⟨[9, 10, 13], [.keep], List Bool × Int, fun (l, d) => (frameOf [(9, .int .i64 c.From), (10, .slc 1 c.A.toNat ((c.From).toNat + 1) false), (13, .int .i64 d)], sH l nc ticks over),
          fun x => c.From ≤ x.2 ∧ x.2 ≤ c.From + 1 ∧ x.1 = sinceCells c p q cells ∧ ((sinceSeg c p q cells).drop x.2.toNat).any id = sinceHolds c p q cells, fun x => ((c.From).toNat + 1) - x.2.toNat,
          ⟨⟨trivial, trivial⟩, (_, _), rfl, Int.le_refl _, by omega, hfin _ (by rw [h6, hp, hfar]; rfl), rfl⟩, ?_⟩
        rintro ⟨l, d⟩ ⟨d1, d2, hl, he⟩
        dsimp only at d1 d2 hl he ⊢
        have hll : l.length = cells.length := by rw [hl]; exact sinceCells_len hseg0
        refine br_split (fun h4 => ?_) (fun h4 => ?_)
        · have h4 : d ≤ c.From := of_decide_eq_true h4
          have dw : wr .i64 (d + 1) = d + 1 := wr_i64 (by omega) (by omega)
          have dw2 : (d + 1).toNat = d.toNat + 1 := by omega
          have hg := since_get (p := p) (q := q) hseg0 d.toNat (by rw [hto]; omega)
          rw [← hl] at hg
          have hget := drop_get (sinceSeg c p q cells) d.toNat false (by rw [sinceSeg_len, hto]; omega)
          rw [hget, List.any_cons, hg] at he
          refine And.intro (by omega : 0 ≤ d ∧ d < (((c.From).toNat + 1 : Nat) : Int)) ?_
          refine And.intro (by omega : c.A.toNat + d.toNat < l.length) ?_
          refine br_split (fun h6 => ?_) (fun h6 => ?_)
          · have h6 : l.getD (c.A.toNat + d.toNat) false = true := h6
            rw [h6] at he
            exact ⟨[.keep], ⟨trivial, trivial⟩, hK true l (by rw [← he]; rfl) hl⟩
          · have h6 : l.getD (c.A.toNat + d.toNat) false = false := h6
            rw [h6] at he
            have he : (false || ((sinceSeg c p q cells).drop (d.toNat + 1)).any id) = sinceHolds c p q cells := he
            rw [Bool.false_or] at he
            refine And.intro ⟨trivial, trivial⟩ ⟨(_, _), rfl, ⟨?_, ?_, hl, ?_⟩, ?_⟩
            · dsimp only; rw [dw]; omega
            · dsimp only; rw [dw]; omega
            · dsimp only; rw [dw, dw2]; exact he
            · dsimp only; rw [dw]; omega
        · have h4 : ¬ d ≤ c.From := of_decide_eq_false h4
          rw [List.drop_eq_nil_of_le (by rw [sinceSeg_len, hto]; omega)] at he
          exact ⟨[.keep], ⟨trivial, trivial⟩, hK false l he hl⟩

      · refine And.intro o9 ?_
        refine And.intro ⟨trivial, o10⟩ ?_
        refine ⟨[9, 10, 13], [.keep], List Bool × Int, fun (l, d) => (frameOf [(9, .int .i64 c.From), (10, .slc 1 c.A.toNat ((c.From).toNat + 1) false), (13, .int .i64 d)], sH l nc ticks over),
          fun x => c.From ≤ x.2 ∧ x.2 ≤ c.From + 1 ∧ x.1 = sinceCells c p q cells ∧ ((sinceSeg c p q cells).drop x.2.toNat).any id = sinceHolds c p q cells, fun x => ((c.From).toNat + 1) - x.2.toNat,
          ⟨⟨trivial, trivial⟩, (_, _), rfl, Int.le_refl _, by omega, hfin _ (by rw [h6, hp]; rfl), rfl⟩, ?_⟩
        rintro ⟨l, d⟩ ⟨d1, d2, hl, he⟩
        dsimp only at d1 d2 hl he ⊢
        have hll : l.length = cells.length := by rw [hl]; exact sinceCells_len hseg0
        refine br_split (fun h4 => ?_) (fun h4 => ?_)
        · have h4 : d ≤ c.From := of_decide_eq_true h4
          have dw : wr .i64 (d + 1) = d + 1 := wr_i64 (by omega) (by omega)
          have dw2 : (d + 1).toNat = d.toNat + 1 := by omega
          have hg := since_get (p := p) (q := q) hseg0 d.toNat (by rw [hto]; omega)
          rw [← hl] at hg
          have hget := drop_get (sinceSeg c p q cells) d.toNat false (by rw [sinceSeg_len, hto]; omega)
          rw [hget, List.any_cons, hg] at he
          refine And.intro (by omega : 0 ≤ d ∧ d < (((c.From).toNat + 1 : Nat) : Int)) ?_
          refine And.intro (by omega : c.A.toNat + d.toNat < l.length) ?_
          refine br_split (fun h6 => ?_) (fun h6 => ?_)
          · have h6 : l.getD (c.A.toNat + d.toNat) false = true := h6
            rw [h6] at he
            exact ⟨[.keep], ⟨trivial, trivial⟩, hK true l (by rw [← he]; rfl) hl⟩
          · have h6 : l.getD (c.A.toNat + d.toNat) false = false := h6
            rw [h6] at he
            have he : (false || ((sinceSeg c p q cells).drop (d.toNat + 1)).any id) = sinceHolds c p q cells := he
            rw [Bool.false_or] at he
            refine And.intro ⟨trivial, trivial⟩ ⟨(_, _), rfl, ⟨?_, ?_, hl, ?_⟩, ?_⟩
            · dsimp only; rw [dw]; omega
            · dsimp only; rw [dw]; omega
            · dsimp only; rw [dw, dw2]; exact he
            · dsimp only; rw [dw]; omega
        · have h4 : ¬ d ≤ c.From := of_decide_eq_false h4
          rw [List.drop_eq_nil_of_le (by rw [sinceSeg_len, hto]; omega)] at he
          exact ⟨[.keep], ⟨trivial, trivial⟩, hK false l he hl⟩

  · have hT : c.To ≠ -1 := by simpa using h
    have hto : sinceTo c = c.To := by unfold sinceTo; rw [if_neg hT]
    have t1 : 0 ≤ c.To ∧ c.To ≤ 1000 := by omega
    have hseg0 := hseg
    rw [hto] at hseg
    have s0 : Shifted c p cells cells (c.To).toNat := by have := shifted0 c p cells; rw [hto] at this; exact this
    have ehi : wr .i64 (wr .i64 (c.A + c.To) + 1) = c.A + c.To + 1 := by rw [wr_i64 (n := c.A + c.To) (by omega) (by omega), wr_i64 (by omega) (by omega)]
    have o1 : 0 ≤ c.A ∧ c.A ≤ wr .i64 (wr .i64 (c.A + c.To) + 1) ∧ wr .i64 (wr .i64 (c.A + c.To) + 1) ≤ (nc : Int) := by rw [ehi]; omega
    refine And.intro o1 ?_
    have ew : (wr .i64 (wr .i64 (c.A + c.To) + 1)).toNat - c.A.toNat = (c.To).toNat + 1 := by rw [ehi]; omega
    have o2 : 0 ≤ c.To ∧ c.To < (((wr .i64 (wr .i64 (c.A + c.To) + 1)).toNat - c.A.toNat : Nat) : Int) := by rw [ew]; omega
    refine And.intro o2 ?_
    have o3 : 0 + c.A.toNat + (c.To).toNat < cells.length := by omega
    refine And.intro o3 ?_
    have hfar : List.getD cells (0 + c.A.toNat + (c.To).toNat) (C.zero 4) = cells.getD (c.A.toNat + (c.To).toNat) false := by rw [Nat.zero_add]; rfl
    generalize hfv : List.getD cells (0 + c.A.toNat + (c.To).toNat) (C.zero 4) = far at hfar
    refine ⟨[0, 2, 3, 5, 9, 10, 11, 12], [.keep], List Bool × Nat × Nat × Int, fun (cs, o, w, d) => (frameOf [(0, .ptr 0 0 0), (2, .bool p), (3, .bool q), (5, .ptr 2 0 0), (9, .int .i64 c.To), (10, .slc 1 o w false), (11, .bool far), (12, .int .i64 d)], sH cs nc ticks over ++ [.cells (enc58 c)]),
      fun x => 0 ≤ x.2.2.2 ∧ x.2.2.2 ≤ c.To ∧ x.2.1 = c.A.toNat ∧ x.2.2.1 = (c.To).toNat + 1 ∧ Shifted c p cells x.1 x.2.2.2.toNat, fun x => x.2.2.2.toNat,
      ⟨⟨trivial, trivial⟩, (cells, _, _, _), by rw [← hfv]; rfl, t1.1, Int.le_refl _, Nat.zero_add _, ew, s0⟩, ?_⟩
    rintro ⟨cs, o, w, d⟩ ⟨d1, d2, eo, ew2, hsh⟩
    dsimp only at d1 d2 eo ew2 hsh ⊢
    subst eo; subst ew2
    have hlen := hsh.1
    refine br_split (fun h4 => ?_) (fun h4 => ?_)
    · have h4 : d > 0 := of_decide_eq_true h4
      have dw : wr .i64 (d - 1) = d - 1 := wr_i64 (by omega) (by omega)
      obtain ⟨e, he⟩ : ∃ e : Nat, d.toNat = e + 1 := ⟨d.toNat - 1, by omega⟩
      have dw2 : (wr .i64 (d - 1)).toNat = e := by rw [dw]; omega
      rw [he] at hsh
      have st := shifted_step hsh (by rw [hto]; exact hseg) (by rw [hto]; omega)
      have o4 : 0 ≤ d ∧ d < (((c.To).toNat + 1 : Nat) : Int) := by omega
      have o5 : True ∧ c.A.toNat + d.toNat < cs.length := ⟨trivial, by omega⟩
      have o6 : 0 ≤ wr .i64 (d - 1) ∧ wr .i64 (d - 1) < (((c.To).toNat + 1 : Nat) : Int) := by rw [dw]; omega
      have o7 : c.A.toNat + (wr .i64 (d - 1)).toNat < cs.length := by rw [dw2]; omega
      have nx : ∀ b, b = (p && cs.getD (c.A.toNat + e) false) → (0 ≤ wr .i64 (d - 1) ∧ wr .i64 (d - 1) ≤ c.To ∧ c.A.toNat = c.A.toNat ∧ (c.To).toNat + 1 = (c.To).toNat + 1 ∧ Shifted c p cells (cs.set (c.A.toNat + d.toNat) b) (wr .i64 (d - 1)).toNat) ∧ (wr .i64 (d - 1)).toNat < d.toNat := by
        intro b hb
        rw [dw2, he, hb]
        exact ⟨⟨by rw [dw]; omega, by rw [dw]; omega, rfl, rfl, st⟩, by omega⟩
      refine br_split (fun hp => ?_) (fun hp => ?_)
      · refine And.intro o6 ?_
        refine And.intro o7 ?_
        refine And.intro o4 ?_
        refine And.intro o5 ?_
        have := nx (List.getD cs (c.A.toNat + (wr .i64 (d - 1)).toNat) (C.zero 4)) (by rw [hp, dw2]; rfl)
        exact And.intro ⟨trivial, trivial⟩ ⟨(_, _, _, _), rfl, this.1, this.2⟩
      · refine And.intro o4 ?_
        refine And.intro o5 ?_
        have := nx false (by rw [hp]; rfl)
        exact And.intro ⟨trivial, trivial⟩ ⟨(_, _, _, _), rfl, this.1, this.2⟩
    have h4 : ¬ d > 0 := of_decide_eq_false h4
    have d0 : d = 0 := by omega
    subst d0
    have o8 : (0 : Int) ≤ 0 ∧ (0 : Int) < (((c.To).toNat + 1 : Nat) : Int) := by omega
    refine And.intro o8 ?_
    refine And.intro (⟨trivial, by omega⟩ : True ∧ c.A.toNat + (0 : Int).toNat < cs.length) ?_
    have hfin0 := since_done (q := q) hsh hseg0 hT
    have hfin := fun (u : Unit) (_ : u = ()) => hfin0
    refine br_split (fun h5 => by rw [show (c.To == -1) = false from h] at h5; cases h5) (fun h5 => ?_)
    refine ⟨[9, 10, 13], [.keep], List Bool × Int, fun (l, d) => (frameOf [(9, .int .i64 c.To), (10, .slc 1 c.A.toNat ((c.To).toNat + 1) false), (13, .int .i64 d)], sH l nc ticks over),
      fun x => c.From ≤ x.2 ∧ x.2 ≤ c.To + 1 ∧ x.1 = sinceCells c p q cells ∧ ((sinceSeg c p q cells).drop x.2.toNat).any id = sinceHolds c p q cells, fun x => ((c.To).toNat + 1) - x.2.toNat,
      ⟨⟨trivial, trivial⟩, (_, _), rfl, Int.le_refl _, by omega, hfin0, rfl⟩, ?_⟩
    rintro ⟨l, d⟩ ⟨d1, d2, hl, he⟩
    dsimp only at d1 d2 hl he ⊢
    have hll : l.length = cells.length := by rw [hl]; exact sinceCells_len hseg0
    refine br_split (fun h4 => ?_) (fun h4 => ?_)
    · have h4 : d ≤ c.To := of_decide_eq_true h4
      have dw : wr .i64 (d + 1) = d + 1 := wr_i64 (by omega) (by omega)
      have dw2 : (d + 1).toNat = d.toNat + 1 := by omega
      have hg := since_get (p := p) (q := q) hseg0 d.toNat (by rw [hto]; omega)
      rw [← hl] at hg
      have hget := drop_get (sinceSeg c p q cells) d.toNat false (by rw [sinceSeg_len, hto]; omega)
      rw [hget, List.any_cons, hg] at he
      refine And.intro (by omega : 0 ≤ d ∧ d < (((c.To).toNat + 1 : Nat) : Int)) ?_
      refine And.intro (by omega : c.A.toNat + d.toNat < l.length) ?_
      refine br_split (fun h6 => ?_) (fun h6 => ?_)
      · have h6 : l.getD (c.A.toNat + d.toNat) false = true := h6
        rw [h6] at he
        exact ⟨[.keep], ⟨trivial, trivial⟩, hK true l (by rw [← he]; rfl) hl⟩
      · have h6 : l.getD (c.A.toNat + d.toNat) false = false := h6
        rw [h6] at he
        have he : (false || ((sinceSeg c p q cells).drop (d.toNat + 1)).any id) = sinceHolds c p q cells := he
        rw [Bool.false_or] at he
        refine And.intro ⟨trivial, trivial⟩ ⟨(_, _), rfl, ⟨?_, ?_, hl, ?_⟩, ?_⟩
        · dsimp only; rw [dw]; omega
        · dsimp only; rw [dw]; omega
        · dsimp only; rw [dw, dw2]; exact he
        · dsimp only; rw [dw]; omega
    · have h4 : ¬ d ≤ c.To := of_decide_eq_false h4
      rw [List.drop_eq_nil_of_le (by rw [sinceSeg_len, hto]; omega)] at he
      exact ⟨[.keep], ⟨trivial, trivial⟩, hK false l he hl⟩
end Ev
