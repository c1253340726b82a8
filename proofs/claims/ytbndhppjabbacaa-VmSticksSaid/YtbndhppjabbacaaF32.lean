/- Lemmas for the theorem: a part of the walk. -/
import Derived.Test.YtbndhppjabbacaaF28
import Derived.Test.YtbndhppjabbacaaF29
namespace Ev
open Go Go.Proofs
set_option maxRecDepth 100000
def s3 : Spec Sg := p2 C 28 29 fun (p : ProgR) (rows : List (List Int)) K => Fit p ∧ K (.bool true) []
def G3 : FuncId → Spec Sg := gam [(6, s6), (7, s7), (8, s8), (9, s9), (10, s10), (11, s11), (12, s12), (13, s13), (14, s14)]
theorem G3_ok : ∀ f, FnOk Try.prog C f (G3 f) := gam_cons f6_ok (gam_cons f7_ok (gam_cons f8_ok (gam_cons f9_ok (gam_cons f10_ok (gam_cons f11_ok (gam_cons f12_ok (gam_cons f13_ok (gam_cons f14_ok gam_nil))))))))
theorem take_set {l m : List Bool} {k : Nat} (h : k < l.length) (hm : m.length = l.length) : (l.take k ++ m.drop k).set k (l.getD k false) = l.take (k + 1) ++ m.drop (k + 1) := by
  rw [drop_get m k false (by omega), take_get l k false h]
  have : (l.take k).length = k := by simp; omega
  rw [List.set_append_right _ _ (by omega), this, Nat.sub_self]
  simp
theorem get_mix {l m : List Bool} {k : Nat} (h : k < l.length) (hm : m.length = l.length) : (l.take k ++ m.drop k).getD k false = m.getD k false := by
  have : (l.take k).length = k := by simp; omega
  rw [List.getD_eq_getElem?_getD, List.getElem?_append_right (by omega), this, Nat.sub_self, List.getElem?_drop, List.getD_eq_getElem?_getD]
  simp
set_option maxHeartbeats 2000000 in
theorem f3_ok : FnOk Try.prog C 3 s3 := fn_ok mixed good goodM G3 G3_ok Try.func3 (body_some (by kernel_rfl)) (by kernel_rfl) (by kernel_rfl) s3 fun args H K h => by
  obtain ⟨rfl, p, rows, rfl, hF, hK⟩ := of_p2 h
  clear h
  show abody C G3 Try.f3 (bodyOf Try.f3) [.agg (enc28 p), .imm 38 rows] [] K
  revert p rows
  intro (p : ProgR) (rows : List (List Int)) hF
  refine And.intro ⟨trivial, trivial⟩ ?_
  refine And.intro rfl ?_
  refine And.intro rfl ?_
  refine ⟨hF, fun b => ?_⟩
  cases b
  · refine br_true ?_
    refine ⟨rfl, ?_⟩
    exact ⟨[], trivial, hK⟩
  refine br_false ?_
  refine And.intro ⟨trivial, trivial⟩ ?_
  refine And.intro rfl ?_
  refine And.intro rfl ?_
  refine ⟨hF, fun b => ?_⟩
  cases b
  case true =>
    refine br_true ?_
    refine ⟨rfl, ?_⟩
    exact ⟨[], trivial, hK⟩
  refine br_false ?_
  refine br_split (fun h1 => ?_) (fun h1 => ?_)
  · refine ⟨rfl, ?_⟩
    exact ⟨[], trivial, hK⟩
  have h1 := of_decide_eq_false h1
  have h1 : rows.length ≤ 40 := by
    have h1 : ¬ ((rows.length : Int) > 40) := h1
    omega
  refine And.intro ⟨trivial, trivial⟩ ?_
  refine And.intro rfl ?_
  refine And.intro rfl ?_
  refine br_split (fun h2 => ?_) (fun h2 => ?_)
  · refine ⟨rfl, ?_⟩
    exact ⟨[], trivial, hK⟩
  have hv : verify p = 0 := by simpa using h2
  clear h2
  have hz := verify_ok hv
  have hc0 := verify_cells hv
  have hc1 := verify_cells_le hv
  refine And.intro ⟨trivial, trivial⟩ ?_
  refine And.intro rfl ?_
  refine And.intro rfl ?_
  refine ⟨fun hn => absurd hv hn, fun _ => ?_⟩
  refine br_true ?_
  refine br_false ?_
  have o1 : 0 ≤ (p.Props.length : Int) ∧ (p.Props.length : Int) ≤ p.Props.length ∧ (p.Props.length : Int) * 1 ≤ (maxBytes : Int) ∧ (p.Props.length : Int) ≤ (maxInt : Int) := by unfold maxBytes maxInt; omega
  refine And.intro o1 ?_
  have hM := machOf_ok hv
  have hMp : (machOf p).p = p := rfl
  -- rows
  refine ⟨[1, 5, 7, 8], [], List Bool × List Bool × Int × Bool × List Bool × List Bool × Nat × Int × Int,
    fun (bl, cells, ticks, over, bad, buf, n, done, i) => (frameOf [(1, .imm 38 rows), (5, .ptr 0 0 0), (7, .slc 1 0 p.Props.length false), (8, .int .i64 i)],
      [mblk (machOf p) (.ptr 2 0 0) (.slc 3 0 p.Props.length false) (.slc 4 0 n false) done, .lst 4 bl, .cells [.slc 5 0 p.Cells.toNat false, .int .i64 ticks, .bool over], .lst 4 bad, .lst 4 buf, .lst 4 cells]),
    fun (bl, cells, ticks, over, bad, buf, n, done, i) => 0 ≤ i ∧ i ≤ rows.length ∧ StOk (machOf p) cells p.Cells.toNat ticks bad p.Props.length buf n ∧ MsOk p ⟨cells, ticks, over, bad, done⟩ ∧ bl = bad,
    fun x => rows.length - x.2.2.2.2.2.2.2.2.toNat,
    ⟨trivial, (_, _, _, _, _, _, _, _, _), rfl, by simp, by simp, ⟨by simp, by simp, by simp [hMp]; omega, by simp [hMp], by decide, by simp, by simp⟩, ms0_ok p, rfl⟩, ?_⟩
  rintro ⟨bl, cells, ticks, over, bad, buf, n, done, i⟩ ⟨i1, i2, hS, hO, hbl⟩
  dsimp only at i1 i2 hS hO hbl ⊢
  subst hbl
  refine br_split (fun h4 => ?_) (fun h4 => ?_)
  · have h4 : i < rows.length := of_decide_eq_true h4
    have iw : wr .i64 (i + 1) = i + 1 := wr_i64 (by omega) (by omega)
    refine And.intro ⟨i1, h4⟩ ?_
    refine br_split (fun h5 => ?_) (fun h5 => ?_)
    · refine ⟨rfl, ?_⟩
      exact ⟨[], trivial, hK⟩
    refine And.intro ⟨i1, h4⟩ ?_
    refine And.intro ⟨trivial, trivial⟩ ?_
    refine .inr (.inr ⟨rows.getD i.toNat (C.zero 38), machOf p, cells, p.Cells.toNat, ticks, over, bl, p.Props.length, done, buf, n, rfl, rfl, ⟨hM, hS⟩, fun cells' ticks' over' bad' buf' n' out hm ho hs => ?_⟩)
    generalize rows.getD i.toNat (C.zero 38) = row at hm ho
    have hm : stepM p (atomOf (machOf p) row) ⟨cells, ticks, over, bl, done⟩ = ⟨cells', ticks', over', bad', p.Codes.length⟩ := hm
    have ho : out = stepO p (atomOf (machOf p) row) ⟨cells, ticks, over, bl, done⟩ := ho
    have hO' := stepM_ok (atomOf (machOf p) row) hO
    rw [hm] at hO'
    have hol : out.length = p.Props.length := by rw [ho]; exact stepO_len _ _
    have hmono : ∀ k, bl.getD k false = true → bad'.getD k false = true := by
      intro k hk
      have := stepM_mono (p := p) (atomOf (machOf p) row) (s := ⟨cells, ticks, over, bl, done⟩) k hk
      rw [hm] at this; exact this
    have hbad : ∀ k, k < p.Props.length → (out.getD k 0 = 2 ↔ bad'.getD k false = true) := by
      intro k hk
      have := stepO_bad hv (atomOf (machOf p) row) hO k hk
      rw [hm, ← ho] at this; exact this
    have hbl1 : bl.length = p.Props.length := hS.bad
    have hbl2 : bad'.length = p.Props.length := hs.bad
    refine br_split (fun h6 => ?_) (fun h6 => ?_)
    · exfalso
      have h6 : ((p.Props.length : Int) != (p.Props.length : Int)) = true := h6
      simp at h6
    clear h6
    -- properties
    refine ⟨[1, 5, 7, 8, 9, 10, 11], [], List Bool × Bool × Int, fun (l, any, k) => (frameOf [(1, .imm 38 rows), (5, .ptr 0 0 0), (7, .slc 1 0 p.Props.length false), (8, .int .i64 i), (9, .slc 2 0 p.Props.length false), (10, .bool any), (11, .int .i64 k)],
        [mblk (machOf p) (.ptr 3 0 0) (.slc 4 0 p.Props.length false) (.slc 5 0 n' false) p.Codes.length, .lst 4 l, .lst 3 out, .cells [.slc 6 0 p.Cells.toNat false, .int .i64 ticks', .bool over'], .lst 4 bad', .lst 4 buf', .lst 4 cells']),
      fun x => 0 ≤ x.2.2 ∧ x.2.2 ≤ p.Props.length ∧ x.1 = bad'.take x.2.2.toNat ++ bl.drop x.2.2.toNat ∧ (x.2.1 = true → over' = true), fun x => p.Props.length - x.2.2.toNat,
      ⟨trivial, (bl, false, 0), rfl, by simp, by simp, by simp, by simp⟩, ?_⟩
    rintro ⟨l, any, k⟩ ⟨k1, k2, hl, ha⟩
    dsimp only at k1 k2 hl ha ⊢
    refine br_split (fun h7 => ?_) (fun h7 => ?_)
    · have h7 : k < p.Props.length := of_decide_eq_true h7
      have kw : wr .i64 (k + 1) = k + 1 := wr_i64 (by omega) (by omega)
      have kw2 : (k + 1).toNat = k.toNat + 1 := by omega
      have ke : 0 + k.toNat = k.toNat := Nat.zero_add _
      have hll : l.length = p.Props.length := by rw [hl]; simp; omega
      have hlk : l.getD k.toNat false = bl.getD k.toNat false := by rw [hl]; exact get_mix (by omega) (by omega)
      have oL : 0 + k.toNat < l.length := by omega
      have oO : 0 + k.toNat < out.length := by omega
      have oS : ∀ v, 0 + k.toNat < (l.set (0 + k.toNat) v).length := by intro v; rw [List.length_set]; exact oL
      have hk2 := hbad k.toNat (by omega)
      have hset : ∀ v, v = bad'.getD k.toNat false → l.set (0 + k.toNat) v = bad'.take (wr .i64 (k + 1)).toNat ++ bl.drop (wr .i64 (k + 1)).toNat := by
        intro v hv2
        rw [ke, kw, kw2, hl, hv2]
        exact take_set (by omega) (by omega)
      have hval : (out.getD (0 + k.toNat) 0 == 2) = bad'.getD k.toNat false := by
        rw [ke, Bool.eq_iff_iff, beq_iff_eq]; exact hk2
      have nx : ∀ any', (any' = true → over' = true) → (0 ≤ wr .i64 (k + 1) ∧ wr .i64 (k + 1) ≤ p.Props.length ∧ l.set (0 + k.toNat) (out.getD (0 + k.toNat) 0 == 2) = bad'.take (wr .i64 (k + 1)).toNat ++ bl.drop (wr .i64 (k + 1)).toNat ∧ (any' = true → over' = true)) ∧
          p.Props.length - (wr .i64 (k + 1)).toNat < p.Props.length - k.toNat := by
        intro any' ha'
        refine ⟨⟨by rw [kw]; omega, by rw [kw]; omega, hset _ hval, ha'⟩, by rw [kw]; omega⟩
      refine And.intro ⟨k1, h7⟩ ?_
      refine And.intro oL ?_
      have rest : ∀ {R : Prop}, ((0 ≤ k ∧ k < (p.Props.length : Int)) ∧ (0 + k.toNat < out.length) ∧ R) → R := fun h => h.2.2
      have tail : (any = true → True) := fun _ => trivial
      refine br_split (fun h8 => ?_) (fun h8 => ?_)
      · have h8 : l.getD (0 + k.toNat) false = true := h8
        rw [ke, hlk] at h8
        have h9 := hk2.2 (hmono _ h8)
        refine And.intro ⟨k1, h7⟩ ?_
        refine And.intro oO ?_
        refine br_split (fun h10 => ?_) (fun h10 => ?_)
        · exfalso
          have h10 : (out.getD (0 + k.toNat) 0 != 2) = true := h10
          rw [ke, h9] at h10; simp at h10
        refine And.intro ⟨k1, h7⟩ ?_
        refine And.intro oO ?_
        refine And.intro ⟨k1, h7⟩ ?_
        refine And.intro ⟨trivial, oL⟩ ?_
        refine br_split (fun h11 => ?_) (fun h11 => ?_)
        · have := nx true (fun _ => ha h11)
          exact And.intro trivial ⟨(_, _, _), rfl, this.1, this.2⟩
        · refine And.intro ⟨k1, h7⟩ ?_
          refine And.intro (oS _) ?_
          have hg : (l.set (0 + k.toNat) (out.getD (0 + k.toNat) 0 == 2)).getD (0 + k.toNat) false = bad'.getD k.toNat false := by rw [get_set oL, hval]
          have := nx ((l.set (0 + k.toNat) (out.getD (0 + k.toNat) 0 == 2)).getD (0 + k.toNat) false) (fun h => by rw [hg] at h; exact hO'.over _ h)
          exact And.intro trivial ⟨(_, _, _), rfl, this.1, this.2⟩
      · refine And.intro ⟨k1, h7⟩ ?_
        refine And.intro oO ?_
        refine And.intro ⟨k1, h7⟩ ?_
        refine And.intro ⟨trivial, oL⟩ ?_
        refine br_split (fun h11 => ?_) (fun h11 => ?_)
        · have := nx true (fun _ => ha h11)
          exact And.intro trivial ⟨(_, _, _), rfl, this.1, this.2⟩
        · refine And.intro ⟨k1, h7⟩ ?_
          refine And.intro (oS _) ?_
          have hg : (l.set (0 + k.toNat) (out.getD (0 + k.toNat) 0 == 2)).getD (0 + k.toNat) false = bad'.getD k.toNat false := by rw [get_set oL, hval]
          have := nx ((l.set (0 + k.toNat) (out.getD (0 + k.toNat) 0 == 2)).getD (0 + k.toNat) false) (fun h => by rw [hg] at h; exact hO'.over _ h)
          exact And.intro trivial ⟨(_, _, _), rfl, this.1, this.2⟩
    have h7 : ¬ k < p.Props.length := of_decide_eq_false h7
    have hl : l = bad' := by
      have e : k.toNat = p.Props.length := by omega
      rw [hl, e, List.drop_eq_nil_of_le (by omega), List.take_of_length_le (by omega)]; simp
    subst hl
    have nx : (0 ≤ wr .i64 (i + 1) ∧ wr .i64 (i + 1) ≤ rows.length ∧ StOk (machOf p) cells' p.Cells.toNat ticks' l p.Props.length buf' n' ∧ MsOk p ⟨cells', ticks', over', l, p.Codes.length⟩ ∧ l = l) ∧ rows.length - (wr .i64 (i + 1)).toNat < rows.length - i.toNat := by
      rw [iw]
      exact ⟨⟨by omega, by omega, hs, hO', rfl⟩, by omega⟩
    refine br_split (fun h8 => ?_) (fun h8 => ?_)
    · have hov := ha h8
      subst hov
      refine .inr (.inr ⟨cells', p.Cells.toNat, ticks', true, rfl, rfl, ?_⟩)
      refine br_false ?_
      exact And.intro trivial ⟨(_, _, _, _, _, _, _, _, _), rfl, nx.1, nx.2⟩
    · exact And.intro trivial ⟨(_, _, _, _, _, _, _, _, _), rfl, nx.1, nx.2⟩
  · refine .inr (.inr (.inl ⟨machOf p, cells, p.Cells.toNat, ticks, over, bl, p.Props.length, done, buf, n, rfl, rfl, ⟨hc0, hc1, by show p.Props.length ≤ 16; omega⟩, ?_⟩))
    refine ⟨rfl, ?_⟩
    refine br_true ?_
    refine .inr (.inr ⟨List.replicate p.Cells.toNat false, p.Cells.toNat, 0, false, rfl, rfl, ?_⟩)
    refine br_true ?_
    refine .inr (.inr ⟨List.replicate p.Cells.toNat false, p.Cells.toNat, 0, false, rfl, rfl, ?_⟩)
    exact ⟨[], trivial, hK⟩
end Ev
