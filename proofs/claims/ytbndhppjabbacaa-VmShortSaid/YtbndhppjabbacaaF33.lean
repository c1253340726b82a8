/- Lemmas for the theorem: a part of the walk. -/
import Derived.Test.YtbndhppjabbacaaF28
import Derived.Test.YtbndhppjabbacaaF29
namespace Ev
open Go Go.Proofs
set_option maxRecDepth 100000
/-- what a machine says hangs on the numbers of its signals alone -/
theorem atomS_short {nd : NodeR} {nm : List ByteArray} {row row' : List Int} (h : ∀ i, i < nm.length → row.getD i 0 = row'.getD i 0) : atomS nd nm row = atomS nd nm row' := by
  have ht : termsS nm row nd.Terms = termsS nm row' nd.Terms := by
    unfold termsS
    exact List.map_congr_left fun t _ => by rw [valueF_short h]
  unfold atomS atomSum
  rw [ht]
theorem atomOf_short {M : Mach} {row row' : List Int} (h : ∀ i, i < M.nm.length → row.getD i 0 = row'.getD i 0) : atomOf M row = atomOf M row' := by
  funext i; exact atomS_short h
/-- a row brought to so many numbers, and more behind -/
def fullR (S : Nat) (row more : List Int) : List Int := (row ++ List.replicate (S - row.length) 0).take S ++ more
theorem fullR_get {S : Nat} {row more : List Int} {i : Nat} (hi : i < S) : row.getD i 0 = (fullR S row more).getD i 0 := by
  unfold fullR
  have hl : ((row ++ List.replicate (S - row.length) 0).take S).length = S := by simp; omega
  rw [List.getD_eq_getElem?_getD, List.getD_eq_getElem?_getD, List.getElem?_append_left (by omega), List.getElem?_take, if_pos hi, List.getElem?_append]
  split
  · rfl
  · rename_i h
    rw [List.getElem?_eq_none (by omega), List.getElem?_replicate]
    split <;> rfl
def s4 : Spec Sg := p3 C 28 29 38 fun (p : ProgR) (rows : List (List Int)) (more : List Int) K => Fit p ∧ K (.bool true) []
def ord4 : Nat → List (Nat × List Nat)
  | 22 => [(0, []), (1, []), (2, []), (3, []), (4, []), (5, []), (7, []), (8, []), (9, []), (10, []), (6, [10]), (11, []), (12, []), (13, []), (14, [])]
  | _ => []
def G4 : FuncId → Spec Sg := gam [(6, s6), (7, s7), (8, s8), (9, s9), (10, s10), (11, s11), (15, s15), (16, s16)]
theorem G4_ok : ∀ f, FnOk Try.prog C f (G4 f) := gam_cons f6_ok (gam_cons f7_ok (gam_cons f8_ok (gam_cons f9_ok (gam_cons f10_ok (gam_cons f11_ok (gam_cons f15_ok (gam_cons f16_ok gam_nil)))))))
set_option maxHeartbeats 2000000 in
theorem f4_ok : FnOk Try.prog C 4 s4 := fn_okO mixed good goodM G4 G4_ok Try.func4 (body_some (by kernel_rfl)) (by kernel_rfl) ord4 (by kernel_rfl) s4 fun args H K h => by
  obtain ⟨rfl, p, rows, more, rfl, hF, hK⟩ := of_p3 h
  clear h
  show abodyO C G4 ord4 Try.f4 (bodyOf Try.f4) [.agg (enc28 p), .imm 38 rows, .imm 3 more] [] K
  revert p rows more
  intro (p : ProgR) (rows : List (List Int)) (more : List Int) hF
  refine And.intro ⟨trivial, trivial⟩ ?_
  refine And.intro rfl ?_
  refine And.intro rfl ?_
  refine ⟨hF, fun b => ?_⟩
  cases b
  · refine br_true ?_
    refine ⟨rfl, ?_⟩
    exact ⟨[], trivial, hK⟩
  refine br_false ?_
  refine And.intro ⟨trivial, trivial⟩ ?_
  refine And.intro rfl ?_
  refine And.intro rfl ?_
  refine ⟨hF, fun b => ?_⟩
  cases b
  case true =>
    refine br_true ?_
    refine ⟨rfl, ?_⟩
    exact ⟨[], trivial, hK⟩
  refine br_false ?_
  refine br_split (fun h1 => ?_) (fun h1 => ?_)
  · refine ⟨rfl, ?_⟩
    exact ⟨[], trivial, hK⟩
  have h1 := of_decide_eq_false h1
  have h1 : rows.length ≤ 40 := by
    have h1 : ¬ ((rows.length : Int) > 40) := h1
    omega
  refine br_split (fun h2 => ?_) (fun h2 => ?_)
  · refine ⟨rfl, ?_⟩
    exact ⟨[], trivial, hK⟩
  have h2 := of_decide_eq_false h2
  have h2 : more.length ≤ 20 := by
    have h2 : ¬ ((more.length : Int) > 20) := h2
    omega
  refine And.intro ⟨trivial, trivial⟩ ?_
  refine And.intro rfl ?_
  refine And.intro rfl ?_
  refine br_split (fun h3 => ?_) (fun h3 => ?_)
  · refine ⟨rfl, ?_⟩
    exact ⟨[], trivial, hK⟩
  have hv : verify p = 0 := by simpa using h3
  clear h3
  have hz := verify_ok hv
  have hc0 := verify_cells hv
  have hc1 := verify_cells_le hv
  refine And.intro ⟨trivial, trivial⟩ ?_
  refine And.intro rfl ?_
  refine And.intro rfl ?_
  refine ⟨fun hn => absurd hv hn, fun _ => ?_⟩
  refine br_true ?_
  refine And.intro ⟨trivial, trivial⟩ ?_
  refine And.intro rfl ?_
  refine And.intro rfl ?_
  refine ⟨fun hn => absurd hv hn, fun _ => ?_⟩
  refine br_true ?_
  refine br_false ?_
  refine br_false ?_
  have hM := machOf_ok hv
  have hMp : (machOf p).p = p := rfl
  have hnl : (machOf p).nm.length = p.Signals.toNat := namesF_len _
  -- rows
  refine ⟨[1, 2, 3, 7, 9, 11], [], List Bool × Int × Bool × List Bool × Int × (List Bool × Nat) × (List Bool × Nat) × Int × Int,
    fun (cells, ticks, over, bad, done, (b1, n1), (b2, n2), sg, i) => (frameOf [(1, .imm 38 rows), (2, .imm 3 more), (3, .ptr 0 0 0), (7, .ptr 1 0 0), (9, .ptr 2 0 0), (11, .int .i64 i)],
      [.cells [.int .i64 p.Cells, .int .i64 p.Stack, .int .i64 sg, .imm 56 p.Atoms, .imm 58 p.Codes, .imm 9 p.Props], mblk (machOf p) (.ptr 3 0 0) (.slc 4 0 p.Props.length false) (.slc 5 0 n1 false) done, mblk (machOf p) (.ptr 6 0 0) (.slc 7 0 p.Props.length false) (.slc 8 0 n2 false) done,
        .cells [.slc 9 0 p.Cells.toNat false, .int .i64 ticks, .bool over], .lst 4 bad, .lst 4 b1, .cells [.slc 10 0 p.Cells.toNat false, .int .i64 ticks, .bool over], .lst 4 bad, .lst 4 b2, .lst 4 cells, .lst 4 cells]),
    fun (cells, ticks, over, bad, done, (b1, n1), (b2, n2), sg, i) => sg = p.Signals ∧ 0 ≤ i ∧ i ≤ rows.length ∧ StOk (machOf p) cells p.Cells.toNat ticks bad p.Props.length b1 n1 ∧ StOk (machOf p) cells p.Cells.toNat ticks bad p.Props.length b2 n2,
    fun x => rows.length - x.2.2.2.2.2.2.2.2.toNat,
    ⟨trivial, (_, _, _, _, _, (_, _), (_, _), _, _), rfl, rfl, by simp, by simp, ⟨by simp, by simp, by simp [hMp]; omega, by simp [hMp], by decide, by simp, by simp⟩, ⟨by simp, by simp, by simp [hMp]; omega, by simp [hMp], by decide, by simp, by simp⟩⟩, ?_⟩
  rintro ⟨cells, ticks, over, bad, done, ⟨b1, n1⟩, ⟨b2, n2⟩, sg, i⟩ ⟨hsg, i1, i2, hS1, hS2⟩
  dsimp only at hsg i1 i2 hS1 hS2 ⊢
  refine br_split (fun h4 => ?_) (fun h4 => ?_)
  · have h4 : i < rows.length := of_decide_eq_true h4
    have iw : wr .i64 (i + 1) = i + 1 := wr_i64 (by omega) (by omega)
    refine And.intro ⟨i1, h4⟩ ?_
    refine br_split (fun h5 => ?_) (fun h5 => ?_)
    · refine ⟨rfl, ?_⟩
      exact ⟨[], trivial, hK⟩
    have h5 := of_decide_eq_false h5
    have h5 : (rows.getD i.toNat (C.zero 38)).length ≤ 30 := by
      have h5 : ¬ (((rows.getD i.toNat (C.zero 38)).length : Int) > 30) := h5
      omega
    refine And.intro ⟨i1, h4⟩ ?_
    have hrow : List.getD rows i.toNat (C.zero 38) = rows.getD i.toNat (C.zero 38) := rfl
    generalize hrw : rows.getD i.toNat (C.zero 38) = row at h5 hrow
    have o2 : True ∧ row.length * 8 ≤ maxBytes ∧ row.length ≤ maxInt := ⟨trivial, by unfold maxBytes; omega, by unfold maxInt; omega⟩
    rw [← hrow] at o2
    refine And.intro o2 ?_
    rw [hrow] at o2
    -- padding
    refine ⟨[1, 2, 3, 7, 9, 11, 12], [], List Int × Nat × Int, fun (l, nl, sg) => (frameOf [(1, .imm 38 rows), (2, .imm 3 more), (3, .ptr 0 0 0), (7, .ptr 1 0 0), (9, .ptr 2 0 0), (11, .int .i64 i), (12, .slc 3 0 nl false)],
        [.cells [.int .i64 p.Cells, .int .i64 p.Stack, .int .i64 sg, .imm 56 p.Atoms, .imm 58 p.Codes, .imm 9 p.Props], mblk (machOf p) (.ptr 4 0 0) (.slc 5 0 p.Props.length false) (.slc 6 0 n1 false) done, mblk (machOf p) (.ptr 7 0 0) (.slc 8 0 p.Props.length false) (.slc 9 0 n2 false) done, .lst 3 l,
          .cells [.slc 10 0 p.Cells.toNat false, .int .i64 ticks, .bool over], .lst 4 bad, .lst 4 b1, .cells [.slc 11 0 p.Cells.toNat false, .int .i64 ticks, .bool over], .lst 4 bad, .lst 4 b2, .lst 4 cells, .lst 4 cells]),
      fun x => x.2.2 = p.Signals ∧ x.2.1 = x.1.length ∧ row.length ≤ x.1.length ∧ x.1 = row ++ List.replicate (x.1.length - row.length) 0 ∧ x.1.length ≤ 46 ∧ (x.1.length ≤ row.length ∨ x.1.length ≤ p.Signals.toNat), fun x => p.Signals.toNat - x.1.length,
      ⟨trivial, (row, row.length, sg), by rw [← hrow]; rfl, hsg, rfl, Nat.le_refl _, by simp, (by show row.length ≤ 46; omega), .inl (Nat.le_refl _)⟩, ?_⟩
    clear hsg
    rintro ⟨l, nl, sg⟩ ⟨hsg, hnl2, hl1, hl2, hl3, hl4⟩
    dsimp only at hsg hnl2 hl1 hl2 hl3 hl4 ⊢
    subst hnl2
    refine br_split (fun h6 => ?_) (fun h6 => ?_)
    · have h6 := of_decide_eq_true h6
      have h6 : (l.length : Int) < sg := h6
      have op : ([(0 : Int)].drop 0).take 1 = [0] := rfl
      have ob : 0 + 1 ≤ [(0 : Int)].length ∧ 0 + l.length ≤ l.length ∧ (l.length + (([(0 : Int)].drop 0).take 1).length) * 8 ≤ maxBytes ∧ l.length + (([(0 : Int)].drop 0).take 1).length ≤ maxInt := by
        refine ⟨Nat.le_refl _, by omega, ?_, ?_⟩
        · rw [op]; unfold maxBytes; simp; omega
        · rw [op]; unfold maxInt; simp; omega
      refine And.intro trivial ?_
      refine And.intro ob ?_
      have e : (l.drop 0).take l.length = l := by simp
      have nx : (sg = p.Signals ∧ l.length + (([(0 : Int)].drop 0).take 1).length = ((l.drop 0).take l.length ++ ([(0 : Int)].drop 0).take 1).length ∧ row.length ≤ ((l.drop 0).take l.length ++ ([(0 : Int)].drop 0).take 1).length ∧
          (l.drop 0).take l.length ++ ([(0 : Int)].drop 0).take 1 = row ++ List.replicate (((l.drop 0).take l.length ++ ([(0 : Int)].drop 0).take 1).length - row.length) 0 ∧ ((l.drop 0).take l.length ++ ([(0 : Int)].drop 0).take 1).length ≤ 46 ∧
          (((l.drop 0).take l.length ++ ([(0 : Int)].drop 0).take 1).length ≤ row.length ∨ ((l.drop 0).take l.length ++ ([(0 : Int)].drop 0).take 1).length ≤ p.Signals.toNat)) ∧
          p.Signals.toNat - ((l.drop 0).take l.length ++ ([(0 : Int)].drop 0).take 1).length < p.Signals.toNat - l.length := by
        rw [e, op]
        refine ⟨⟨hsg, by simp, by simp; omega, ?_, by simp; omega, .inr (by simp; omega)⟩, by simp; omega⟩
        have e3 : (l ++ [(0 : Int)]).length - row.length = (l.length - row.length) + 1 := by simp; omega
        rw [e3, List.replicate_succ', ← List.append_assoc, ← hl2]
      exact And.intro trivial ⟨(_, _, _), rfl, nx.1, nx.2⟩
    have h6 := of_decide_eq_false h6
    have h6 : ¬ (l.length : Int) < sg := h6
    have hfull : (l.take p.Signals.toNat) = (row ++ List.replicate (p.Signals.toNat - row.length) 0).take p.Signals.toNat := by
      rcases hl4 with h7 | h7
      · have e : l.length - row.length = 0 := by omega
        rw [hl2, e]
        have e2 : p.Signals.toNat - row.length = 0 := by omega
        rw [e2]
      · have e : l.length = p.Signals.toNat := by omega
        rw [hl2, e]
    obtain ⟨S, hSg⟩ : ∃ S : Nat, sg = (S : Int) := ⟨sg.toNat, by omega⟩
    subst hSg
    have eS : p.Signals.toNat = S := by omega
    rw [eS] at hfull
    have o3 : (0 : Int) ≤ 0 ∧ (0 : Int) ≤ (S : Int) ∧ (S : Int) = (S : Int) ∧ (S : Int) ≤ (l.length : Int) := by omega
    refine And.intro o3 ?_
    have hat : atomOf (machOf p) row = atomOf (machOf p) (fullR S row more) := atomOf_short fun i hi => fullR_get (by rw [hnl, eS] at hi; exact hi)
    cases S with
    | zero =>
      have ob : True ∧ more.length * 8 ≤ maxBytes ∧ more.length ≤ maxInt := ⟨trivial, by unfold maxBytes; omega, by unfold maxInt; omega⟩
      refine And.intro ob ?_
      have hle : 0 + more.length ≤ more.length := by omega
      have hrow' : (more.drop 0).take more.length = fullR 0 row more := by unfold fullR; simp
      refine And.intro ⟨i1, h4⟩ ?_
      refine And.intro ⟨trivial, trivial⟩ ?_
      refine .inr (.inr ⟨rows.getD i.toNat (C.zero 38), machOf p, cells, p.Cells.toNat, ticks, over, bad, p.Props.length, done, b1, n1, rfl, rfl, ⟨hM, hS1⟩, fun cells1 ticks1 over1 bad1 b1' n1' out1 hm1 ho1 hs1 => ?_⟩)
      refine And.intro ⟨⟨hle, trivial⟩, trivial⟩ ?_
      refine .inr (.inr ⟨(more.drop 0).take more.length, machOf p, cells, p.Cells.toNat, ticks, over, bad, p.Props.length, done, b2, n2, rfl, rfl, ⟨hM, hS2⟩, fun cells2 ticks2 over2 bad2 b2' n2' out2 hm2 ho2 hs2 => ?_⟩)
      rw [hrw, hat] at hm1 ho1
      rw [hrow'] at hm2 ho2
      have hm := hm1.symm.trans hm2
      have ho := ho1.trans ho2.symm
      injection hm with q1 q2 q3 q4 q5
      subst q1; subst q2; subst q3; subst q4; subst ho
      have hol : out1.length = p.Props.length := by rw [ho1]; exact stepO_len _ _
      have hpo : 0 + p.Props.length ≤ out1.length := by omega
      refine And.intro ⟨⟨hpo, trivial⟩, ⟨hpo, trivial⟩, trivial⟩ ?_
      refine And.intro rfl ?_
      refine And.intro ⟨rfl, rfl⟩ ?_
      have hll : ((out1.drop 0).take p.Props.length).length ≤ 9223372036854775807 := by simp; omega
      refine And.intro hll ?_
      refine br_f (by simp) ?_
      have nx : (((0 : Nat) : Int) = p.Signals ∧ 0 ≤ wr .i64 (i + 1) ∧ wr .i64 (i + 1) ≤ rows.length ∧ StOk (machOf p) cells1 p.Cells.toNat ticks1 bad1 p.Props.length b1' n1' ∧ StOk (machOf p) cells1 p.Cells.toNat ticks1 bad1 p.Props.length b2' n2') ∧ rows.length - (wr .i64 (i + 1)).toNat < rows.length - i.toNat := by
        rw [iw]
        exact ⟨⟨hsg, by omega, by omega, hs1, hs2⟩, by omega⟩
      exact And.intro trivial ⟨(_, _, _, _, _, (_, _), (_, _), _, _), rfl, nx.1, nx.2⟩
    | succ S =>
      have ob : True ∧ 0 + (S + 1) ≤ l.length ∧ ((S + 1) + more.length) * 8 ≤ maxBytes ∧ (S + 1) + more.length ≤ maxInt := by
        refine ⟨trivial, by omega, ?_, ?_⟩
        · unfold maxBytes; omega
        · unfold maxInt; omega
      refine And.intro ob ?_
      have hle : 0 + ((S + 1) + more.length) ≤ ((l.drop 0).take (S + 1) ++ more).length := by simp; omega
      have hrow' : (((l.drop 0).take (S + 1) ++ more).drop 0).take ((S + 1) + more.length) = fullR (S + 1) row more := by
        unfold fullR
        rw [← hfull]
        simp only [List.drop_zero]
        exact List.take_of_length_le (by simp; omega)
      refine And.intro ⟨i1, h4⟩ ?_
      refine And.intro ⟨trivial, trivial⟩ ?_
      refine .inr (.inr ⟨rows.getD i.toNat (C.zero 38), machOf p, cells, p.Cells.toNat, ticks, over, bad, p.Props.length, done, b1, n1, rfl, rfl, ⟨hM, hS1⟩, fun cells1 ticks1 over1 bad1 b1' n1' out1 hm1 ho1 hs1 => ?_⟩)
      refine And.intro ⟨⟨hle, trivial⟩, trivial⟩ ?_
      refine .inr (.inr ⟨(((l.drop 0).take (S + 1) ++ more).drop 0).take ((S + 1) + more.length), machOf p, cells, p.Cells.toNat, ticks, over, bad, p.Props.length, done, b2, n2, rfl, rfl, ⟨hM, hS2⟩, fun cells2 ticks2 over2 bad2 b2' n2' out2 hm2 ho2 hs2 => ?_⟩)
      rw [hrw, hat] at hm1 ho1
      rw [hrow'] at hm2 ho2
      have hm := hm1.symm.trans hm2
      have ho := ho1.trans ho2.symm
      injection hm with q1 q2 q3 q4 q5
      subst q1; subst q2; subst q3; subst q4; subst ho
      have hol : out1.length = p.Props.length := by rw [ho1]; exact stepO_len _ _
      have hpo : 0 + p.Props.length ≤ out1.length := by omega
      refine And.intro ⟨⟨hpo, trivial⟩, ⟨hpo, trivial⟩, trivial⟩ ?_
      refine And.intro rfl ?_
      refine And.intro ⟨rfl, rfl⟩ ?_
      have hll : ((out1.drop 0).take p.Props.length).length ≤ 9223372036854775807 := by simp; omega
      refine And.intro hll ?_
      refine br_f (by simp) ?_
      have nx : (((S + 1 : Nat) : Int) = p.Signals ∧ 0 ≤ wr .i64 (i + 1) ∧ wr .i64 (i + 1) ≤ rows.length ∧ StOk (machOf p) cells1 p.Cells.toNat ticks1 bad1 p.Props.length b1' n1' ∧ StOk (machOf p) cells1 p.Cells.toNat ticks1 bad1 p.Props.length b2' n2') ∧ rows.length - (wr .i64 (i + 1)).toNat < rows.length - i.toNat := by
        rw [iw]
        exact ⟨⟨hsg, by omega, by omega, hs1, hs2⟩, by omega⟩
      exact And.intro trivial ⟨(_, _, _, _, _, (_, _), (_, _), _, _), rfl, nx.1, nx.2⟩
  · refine ⟨rfl, ?_⟩
    refine fun b hb => ?_
    subst hb
    repeat' refine br_true ?_
    have hd : p.Cells.toNat = cells.length ∧ p.Cells.toNat ≤ 1000000 := ⟨hS1.nc, by omega⟩
    refine .inr ⟨cells, p.Cells.toNat, ticks, over, rfl, rfl, hd, ?_⟩
    repeat' refine br_true ?_
    refine And.intro rfl ?_
    repeat' refine br_true ?_
    refine .inr ⟨cells, p.Cells.toNat, ticks, over, rfl, rfl, hd, ?_⟩
    repeat' refine br_true ?_
    have hdl : (dumpF cells).length = cells.length := by simp [dumpF]
    have hpo : 0 + p.Cells.toNat ≤ (dumpF cells).length := by omega
    refine And.intro ⟨⟨hpo, trivial⟩, ⟨hpo, trivial⟩, trivial⟩ ?_
    refine And.intro rfl ?_
    refine And.intro ⟨rfl, rfl⟩ ?_
    have hll : (((dumpF cells).drop 0).take p.Cells.toNat).length ≤ 9223372036854775807 := by simp; omega
    refine And.intro hll ?_
    refine fun b hb => ?_
    have hb : decide (((dumpF cells).drop 0).take p.Cells.toNat = ((dumpF cells).drop 0).take p.Cells.toNat) = b := hb
    rw [decide_eq_true rfl] at hb
    subst hb
    exact ⟨[], trivial, hK⟩
end Ev
