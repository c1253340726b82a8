/- Lemmas for the theorem: a part of the walk. -/
import Derived.Test.YtbndhppjabbacaaF26
import Derived.Test.YtbndhppjabbacaaF15
namespace Ev
open Go Go.Proofs
set_option maxRecDepth 100000
theorem bytesOf_size (l : List Int) : (bytesOf l).size = l.length := by
  have : ∀ (l : List Int) (b : ByteArray), (l.foldl (fun r y => r.push (UInt8.ofNat y.toNat)) b).size = b.size + l.length := by
    intro l
    induction l with
    | nil => intro b; rfl
    | cons y r ih => intro b; rw [List.foldl_cons, ih]; simp; omega
  have := this l ByteArray.empty
  simpa [bytesOf] using this
theorem digits_size (n : Int) : (digits n).size ≤ 2 := by
  unfold digits digL
  rw [bytesOf_size]
  split <;> simp
def sName (i : Nat) : ByteArray := ⟨#[115]⟩ ++ digits (i : Int)
def namesF (k : Nat) : List ByteArray := (List.range k).map sName
theorem namesF_succ (k : Nat) : namesF (k + 1) = namesF k ++ [sName k] := by unfold namesF; rw [List.range_succ]; simp
theorem namesF_len (k : Nat) : (namesF k).length = k := by simp [namesF]
def nodeOf (nm : List ByteArray) (a : AtomR) : NodeR := ⟨2, 0, 0, 0, a.Terms.map fun w => ⟨nm.getD w.Signal.toNat ByteArray.empty, w.Times⟩, a.Num⟩
def machOf (p : ProgR) : Mach := ⟨p, p.Atoms.map (nodeOf (namesF p.Signals.toNat)), namesF p.Signals.toNat⟩
theorem few_of {p : ProgR} (h : verify p = 0) : Few p ∧ ∀ a, a ∈ p.Atoms → a.Terms.length ≤ 16 ∧ ∀ w, w ∈ a.Terms → 0 ≤ w.Signal ∧ w.Signal < p.Signals := by
  have hz := verify_ok h
  have ha : ∀ a, a ∈ p.Atoms → a.Terms.length ≤ 16 ∧ ∀ w, w ∈ a.Terms → 0 ≤ w.Signal ∧ w.Signal < p.Signals := by
    intro a hm
    have := List.all_eq_true.1 hz.2.2.2.2.2.1 a hm
    unfold atomOk at this
    rw [Bool.and_eq_true, decide_eq_true_eq, List.all_eq_true] at this
    exact ⟨this.1.2, fun w hw => of_decide_eq_true (this.2 w hw)⟩
  exact ⟨⟨by omega, by omega, by omega, fun a hm => by have := (ha a hm).1; omega⟩, ha⟩
theorem machOf_ok {p : ProgR} (h : verify p = 0) : MachOk (machOf p) := by
  have hz := verify_ok h
  have hf := few_of h
  refine ⟨h, ⟨?_, ?_, ?_⟩, ?_⟩
  · show (namesF p.Signals.toNat).length ≤ 1000000; rw [namesF_len]; omega
  · show (p.Atoms.map _).length ≤ 1000000; rw [List.length_map]; omega
  · intro x hx
    obtain ⟨a, ha, rfl⟩ := List.mem_map.1 hx
    show (a.Terms.map _).length ≤ 1000000
    rw [List.length_map]; have := (hf.2 a ha).1; omega
  · show (p.Atoms.map _).length = p.Atoms.length; rw [List.length_map]
def s10b (p : ProgR) (K : AV Sg → AH Sg → Prop) : Prop := (verify p ≠ 0 → K (.tup [.nilp, .int .i64 (verify p)]) []) ∧
  (verify p = 0 → K (.tup [.ptr 0 0 0, .int .i64 0]) (mH (machOf p) (List.replicate p.Cells.toNat false) p.Cells.toNat 0 false (List.replicate p.Props.length false) p.Props.length 0 [] 0))
def s10 : Spec Sg := p1 C 28 s10b
def ord10 : Nat → List (Nat × List Nat)
  | 8 => [(0, []), (1, []), (2, []), (3, []), (4, []), (5, []), (6, [4]), (7, []), (8, [4]), (9, []), (10, []), (11, []), (12, [])]
  | 17 => [(0, []), (1, []), (2, []), (3, []), (4, []), (5, []), (6, []), (7, []), (8, []), (9, []), (10, []), (11, []), (12, []), (13, [1]), (14, []), (15, []), (16, [])]
  | 19 => [(0, []), (1, []), (2, []), (3, []), (4, []), (5, []), (6, [4]), (7, []), (8, []), (9, []), (10, [])]
  | _ => []
def G10 : FuncId → Spec Sg := gam [(13, s13), (26, s26), (27, s27), (28, s28)]
theorem G10_ok : ∀ f, FnOk Try.prog C f (G10 f) := gam_cons f13_ok (gam_cons f26_ok (gam_cons f27_ok (gam_cons f28_ok gam_nil)))
set_option maxHeartbeats 1000000 in
theorem f10_ok : FnOk Try.prog C 10 s10 := fn_okO mixed good goodM G10 G10_ok Try.func10 (body_some (by kernel_rfl)) (by kernel_rfl) ord10 (by kernel_rfl) s10 fun args H K h => by
  obtain ⟨rfl, p, rfl, hKb, hK⟩ := of_p1 h
  clear h
  show abodyO C G10 ord10 Try.f10 (bodyOf Try.f10) [.agg (enc28 p)] [] K
  revert p
  intro (p : ProgR) hKb hK
  refine And.intro ⟨trivial, trivial⟩ ?_
  refine And.intro rfl ?_
  refine And.intro rfl ?_
  refine br_split (fun h => ?_) (fun h => ?_)
  · exact ⟨[], trivial, hKb (by simpa using h)⟩
  have hv : verify p = 0 := by simpa using h
  have hK := hK hv
  clear hKb h
  have hz := verify_ok hv
  obtain ⟨hfew, hterm⟩ := few_of hv
  have hc0 := verify_cells hv
  have hc1 := verify_cells_le hv
  refine And.intro ⟨trivial, trivial⟩ ?_
  refine And.intro rfl ?_
  refine And.intro rfl ?_
  refine And.intro hfew ?_
  -- names
  refine ⟨[1, 5, 25, 26], [.cell 2 8 9], List ByteArray × Nat × Int, fun (nm, nn, i) => (frameOf [(1, .ptr 0 0 0), (5, .ptr 1 0 0), (25, .int .i64 p.Signals), (26, .int .i64 i)],
      [.cells (enc28 p), .cells [.ptr 2 0 0, .int .i64 p.Cells, .int .i64 p.Stack, .int .i64 p.Signals, .imm 56 p.Atoms, .imm 58 p.Codes, .imm 9 p.Props, .nils, .slc 3 0 nn false, .nils, .nils, .int .i64 0, .bool true], .cells [.nils, .int .i64 0, .bool false], .lst 9 nm]),
    fun x => 0 ≤ x.2.2 ∧ x.2.2 ≤ p.Signals ∧ x.1 = namesF x.2.2.toNat ∧ x.2.1 = x.1.length, fun x => p.Signals.toNat - x.2.2.toNat,
    ⟨⟨trivial, trivial⟩, ([], 0, 0), rfl, by simp, hz.2.2.2.1, rfl, rfl⟩, ?_⟩
  rintro ⟨nm, nn, i⟩ ⟨i1, i2, hnm, hnn⟩
  dsimp only at i1 i2 hnm hnn ⊢
  refine br_split (fun h4 => ?_) (fun h4 => ?_)
  · have h4 : i < p.Signals := of_decide_eq_true h4
    have iw : wr .i64 (i + 1) = i + 1 := wr_i64 (by omega) (by omega)
    have iw2 : (i + 1).toNat = i.toNat + 1 := by omega
    have hlen : nm.length = i.toNat := by rw [hnm, namesF_len]
    have hds := digits_size i
    refine And.intro ⟨trivial, trivial⟩ ?_
    refine And.intro rfl ?_
    refine And.intro rfl ?_
    refine And.intro ⟨i1, by omega⟩ ?_
    refine And.intro rfl ?_
    have o1 : (⟨#[115]⟩ : ByteArray).size + (digits i).size ≤ maxInt := by unfold maxInt; have : (⟨#[115]⟩ : ByteArray).size = 1 := rfl; omega
    refine And.intro o1 ?_
    refine And.intro trivial ?_
    refine And.intro rfl ?_
    have ob : 0 + 1 ≤ [sName i.toNat].length ∧ 0 + nn ≤ nm.length ∧ (nn + (([sName i.toNat].drop 0).take 1).length) * 16 ≤ maxBytes ∧ nn + (([sName i.toNat].drop 0).take 1).length ≤ maxInt := by
      have op : ([sName i.toNat].drop 0).take 1 = [sName i.toNat] := rfl
      refine ⟨Nat.le_refl _, by omega, ?_, ?_⟩
      · rw [op]; unfold maxBytes; simp; omega
      · rw [op]; unfold maxInt; simp; omega
    refine And.intro ob ?_
    have es : ∀ x, x = sName i.toNat → (0 ≤ wr .i64 (i + 1) ∧ wr .i64 (i + 1) ≤ p.Signals ∧ (nm.drop 0).take nn ++ ([x].drop 0).take 1 = namesF (wr .i64 (i + 1)).toNat ∧
        nn + (([x].drop 0).take 1).length = ((nm.drop 0).take nn ++ ([x].drop 0).take 1).length) ∧ p.Signals.toNat - (wr .i64 (i + 1)).toNat < p.Signals.toNat - i.toNat := by
      intro x hx
      have e : (nm.drop 0).take nn = nm := by rw [hnn]; simp
      rw [iw, iw2, e, namesF_succ, ← hnm, hx]
      exact ⟨⟨by omega, by omega, rfl, by simp; omega⟩, by omega⟩
    have ei : (⟨#[115]⟩ : ByteArray) ++ digits i = sName i.toNat := by unfold sName; rw [show ((i.toNat : Nat) : Int) = i by omega]
    exact And.intro ⟨trivial, trivial⟩ ⟨(_, _, _), rfl, (es _ ei).1, (es _ ei).2⟩
  have h4 : ¬ i < p.Signals := of_decide_eq_false h4
  have ei : i.toNat = p.Signals.toNat := by omega
  rw [ei] at hnm
  have en : (nm.drop 0).take nn = nm := by rw [hnn]; simp
  have hlen : nm.length = p.Signals.toNat := by rw [hnm, namesF_len]
  -- nodes
  refine ⟨[1, 5, 43, 44, 45], [.frzc 1 8, .cell 1 7 71], List NodeR × Nat × List ByteArray × Int, fun (nd, dn, nm, i) => (frameOf [(1, .ptr 0 0 0), (5, .ptr 1 0 0), (43, .imm 56 p.Atoms), (44, .int .i64 p.Atoms.length), (45, .int .i64 i)],
      [.cells (enc28 p), .cells [.ptr 2 0 0, .int .i64 p.Cells, .int .i64 p.Stack, .int .i64 p.Signals, .imm 56 p.Atoms, .imm 58 p.Codes, .imm 9 p.Props, .slc 3 0 dn false, .imm 9 nm, .nils, .nils, .int .i64 0, .bool true], .cells [.nils, .int .i64 0, .bool false], .lst 71 nd]),
    fun x => 0 ≤ x.2.2.2 ∧ x.2.2.2 ≤ p.Atoms.length ∧ x.2.2.1 = namesF p.Signals.toNat ∧ x.1 = (p.Atoms.take x.2.2.2.toNat).map (nodeOf (namesF p.Signals.toNat)) ∧ x.2.1 = x.1.length, fun x => p.Atoms.length - x.2.2.2.toNat,
    ⟨⟨⟨by omega, trivial⟩, trivial, trivial⟩, ([], 0, (nm.drop 0).take nn, 0), rfl, by simp, by simp, by rw [en, hnm], rfl, rfl⟩, ?_⟩
  clear hnn en hlen hnm
  rintro ⟨nd, dn, nm2, i⟩ ⟨i1, i2, hnm, hnd, hdn⟩
  dsimp only at i1 i2 hnm hnd hdn ⊢
  subst hnm
  have hnl := namesF_len p.Signals.toNat
  generalize hnmF : namesF p.Signals.toNat = nm at *
  refine br_split (fun h4 => ?_) (fun h4 => ?_)
  · have h4 : i < p.Atoms.length := of_decide_eq_true h4
    have iw : wr .i64 (i + 1) = i + 1 := wr_i64 (by omega) (by omega)
    have iw2 : (i + 1).toNat = i.toNat + 1 := by omega
    have hmem := mem_get p.Atoms i.toNat (C.zero 56) (by omega)
    obtain ⟨ht1, ht2⟩ := hterm _ hmem
    have hget := take_get p.Atoms i.toNat (C.zero 56) (by omega)
    have hdl : nd.length = i.toNat := by rw [hnd]; simp; omega
    refine And.intro ⟨i1, h4⟩ ?_
    generalize hat : List.getD p.Atoms i.toNat (C.zero 56) = a at *
    -- terms
    refine ⟨[1, 5, 9, 43, 44, 45, 53, 54, 55], [.cell 5 4 73], List TermR × Nat × Int, fun (ts, tn, k) => (frameOf [(1, .ptr 0 0 0), (5, .ptr 1 0 0), (9, .ptr 2 0 0), (43, .imm 56 p.Atoms), (44, .int .i64 p.Atoms.length), (45, .int .i64 i), (53, .imm 62 a.Terms), (54, .int .i64 a.Terms.length), (55, .int .i64 k)],
        [.cells (enc28 p), .cells [.ptr 3 0 0, .int .i64 p.Cells, .int .i64 p.Stack, .int .i64 p.Signals, .imm 56 p.Atoms, .imm 58 p.Codes, .imm 9 p.Props, .slc 4 0 dn false, .imm 9 nm, .nils, .nils, .int .i64 0, .bool true],
          .cells [.int .i64 2, .int .i64 0, .int .i64 0, .int .i64 0, .slc 5 0 tn false, .int .i64 a.Num], .cells [.nils, .int .i64 0, .bool false], .lst 71 nd, .lst 73 ts]),
      fun x => 0 ≤ x.2.2 ∧ x.2.2 ≤ a.Terms.length ∧ x.1 = (a.Terms.take x.2.2.toNat).map (fun w => (⟨nm.getD w.Signal.toNat ByteArray.empty, w.Times⟩ : TermR)) ∧ x.2.1 = x.1.length, fun x => a.Terms.length - x.2.2.toNat,
      ⟨⟨trivial, trivial⟩, ([], 0, 0), rfl, by simp, by simp, rfl, rfl⟩, ?_⟩
    rintro ⟨ts, tn, k⟩ ⟨k1, k2, hts, htn⟩
    dsimp only at k1 k2 hts htn ⊢
    refine br_split (fun h5 => ?_) (fun h5 => ?_)
    · have h5 : k < a.Terms.length := of_decide_eq_true h5
      have kw : wr .i64 (k + 1) = k + 1 := wr_i64 (by omega) (by omega)
      have kw2 : (k + 1).toNat = k.toNat + 1 := by omega
      have kmem := mem_get a.Terms k.toNat (C.zero 62) (by omega)
      have hsig := ht2 _ kmem
      have kget := take_get a.Terms k.toNat (C.zero 62) (by omega)
      have htl : ts.length = k.toNat := by rw [hts]; simp; omega
      refine And.intro ⟨k1, h5⟩ ?_
      generalize hwt : List.getD a.Terms k.toNat (C.zero 62) = w at *
      have o1 : 0 ≤ w.Signal ∧ w.Signal < (nm.length : Int) := by rw [hnl]; omega
      refine And.intro o1 ?_
      refine And.intro trivial ?_
      refine And.intro rfl ?_
      have ob : ∀ x : TermR, 0 + 1 ≤ [x].length ∧ 0 + tn ≤ ts.length ∧ (tn + (([x].drop 0).take 1).length) * 24 ≤ maxBytes ∧ tn + (([x].drop 0).take 1).length ≤ maxInt := by
        intro x
        have op : ([x].drop 0).take 1 = [x] := rfl
        refine ⟨Nat.le_refl _, by omega, ?_, ?_⟩
        · rw [op]; unfold maxBytes; simp; omega
        · rw [op]; unfold maxInt; simp; omega
      refine And.intro (ob _) ?_
      have nx : ∀ x : TermR, x = ⟨nm.getD w.Signal.toNat ByteArray.empty, w.Times⟩ → (0 ≤ wr .i64 (k + 1) ∧ wr .i64 (k + 1) ≤ a.Terms.length ∧
          (ts.drop 0).take tn ++ ([x].drop 0).take 1 = (a.Terms.take (wr .i64 (k + 1)).toNat).map (fun w => (⟨nm.getD w.Signal.toNat ByteArray.empty, w.Times⟩ : TermR)) ∧
          tn + (([x].drop 0).take 1).length = ((ts.drop 0).take tn ++ ([x].drop 0).take 1).length) ∧ a.Terms.length - (wr .i64 (k + 1)).toNat < a.Terms.length - k.toNat := by
        intro x hx
        have e : (ts.drop 0).take tn = ts := by rw [htn]; simp
        rw [kw, kw2, e, kget, List.map_append, ← hts, hx]
        exact ⟨⟨by omega, by omega, rfl, by simp; omega⟩, by omega⟩
      exact And.intro ⟨trivial, trivial⟩ ⟨(_, _, _), rfl, (nx _ rfl).1, (nx _ rfl).2⟩
    · have h5 : ¬ k < a.Terms.length := of_decide_eq_false h5
      have hts : ts = a.Terms.map (fun w => (⟨nm.getD w.Signal.toNat ByteArray.empty, w.Times⟩ : TermR)) := by rw [hts, List.take_of_length_le (by omega)]
      have et : (ts.drop 0).take tn = ts := by rw [htn]; simp
      have o2 : 0 + tn ≤ ts.length ∧ True := ⟨by omega, trivial⟩
      refine And.intro o2 ?_
      refine And.intro rfl ?_
      have ob : ∀ x : NodeR, 0 + 1 ≤ [x].length ∧ 0 + dn ≤ nd.length ∧ (dn + (([x].drop 0).take 1).length) * 64 ≤ maxBytes ∧ dn + (([x].drop 0).take 1).length ≤ maxInt := by
        intro x
        have op : ([x].drop 0).take 1 = [x] := rfl
        refine ⟨Nat.le_refl _, by omega, ?_, ?_⟩
        · rw [op]; unfold maxBytes; simp; omega
        · rw [op]; unfold maxInt; simp; omega
      refine And.intro (ob _) ?_
      have nx : ∀ x : NodeR, x = nodeOf nm a → (0 ≤ wr .i64 (i + 1) ∧ wr .i64 (i + 1) ≤ p.Atoms.length ∧ nm = nm ∧ (nd.drop 0).take dn ++ ([x].drop 0).take 1 = (p.Atoms.take (wr .i64 (i + 1)).toNat).map (nodeOf nm) ∧
          dn + (([x].drop 0).take 1).length = ((nd.drop 0).take dn ++ ([x].drop 0).take 1).length) ∧ p.Atoms.length - (wr .i64 (i + 1)).toNat < p.Atoms.length - i.toNat := by
        intro x hx
        have e : (nd.drop 0).take dn = nd := by rw [hdn]; simp
        rw [iw, iw2, e, hget, List.map_append, ← hnd, hx]
        exact ⟨⟨by omega, by omega, rfl, rfl, by simp; omega⟩, by omega⟩
      have ex : (⟨2, 0, 0, 0, (ts.drop 0).take tn, a.Num⟩ : NodeR) = nodeOf nm a := by rw [et, hts]; rfl
      exact And.intro ⟨trivial, trivial, trivial⟩ ⟨(_, _, _, _), rfl, (nx _ ex).1, (nx _ ex).2⟩
  · have h4 : ¬ i < p.Atoms.length := of_decide_eq_false h4
    have hnd : nd = p.Atoms.map (nodeOf nm) := by rw [hnd, List.take_of_length_le (by omega)]
    refine .inr (.inr (.inr ⟨p, nd, dn, nm, rfl, rfl, ⟨hdn, hc0, hc1, by omega⟩, ?_⟩))
    have em : machOf p = ⟨p, nd, nm⟩ := by unfold machOf; rw [hnmF, hnd]
    rw [em] at hK
    exact ⟨[], trivial, hK⟩
end Ev
