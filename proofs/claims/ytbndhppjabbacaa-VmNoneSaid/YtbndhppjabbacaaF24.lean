/- Lemmas for the theorem: a part of the walk. -/
import Derived.Test.YtbndhppjabbacaaF22
import Derived.Test.YtbndhppjabbacaaF23
namespace Ev
open Go Go.Proofs
set_option maxRecDepth 100000
/-- a machine's memory, its lists behind five other places -/
def mL (M : Mach) (cells : List Bool) (nc : Nat) (ticks : Int) (over : Bool) (bad : List Bool) (nb : Nat) (done : Int) (buf : List Bool) (n : Nat) : AH Sg :=
  [mblk M (.ptr 1 0 0) (.slc 5 0 nb false) (.slc 6 0 n false) done, .cells [.slc 7 0 nc false, .int .i64 ticks, .bool over], .dead, .dead, .dead, .lst 4 bad, .lst 4 buf, .lst 4 cells]
structure MachOk (M : Mach) : Prop where
  v : verify M.p = 0
  nodes : NodesOk M
  len : M.nd.length = M.p.Atoms.length
structure StOk (M : Mach) (cells : List Bool) (nc : Nat) (ticks : Int) (bad : List Bool) (nb : Nat) (buf : List Bool) (n : Nat) : Prop where
  nc : nc = cells.length
  nb : nb = bad.length
  cells : (cells.length : Int) = M.p.Cells
  bad : bad.length = M.p.Props.length
  ticks : 0 ≤ ticks
  n : n ≤ buf.length
  buf : buf.length ≤ 1000000
def s11 : Spec Sg := fun args H K => (∃ row : List Int, args = [.nilp, .imm 3 row] ∧ H = [] ∧ K .nils []) ∨ (∃ row : List Int, args = [.ptr 0 0 0, .imm 3 row] ∧ H = zH ∧ K .nils zH) ∨
  ∃ (row : List Int) (M : Mach) (cells : List Bool) (nc : Nat) (ticks : Int) (over : Bool) (bad : List Bool) (nb : Nat) (done : Int) (buf : List Bool) (n : Nat),
    args = [.ptr 0 0 0, .imm 3 row] ∧ H = mH M cells nc ticks over bad nb done buf n ∧ (MachOk M ∧ StOk M cells nc ticks bad nb buf n) ∧
    ∀ (cells' : List Bool) (ticks' : Int) (over' : Bool) (bad' : List Bool) (buf' : List Bool) (n' : Nat) (out : List Int), stepM M.p (atomOf M row) ⟨cells, ticks, over, bad, done⟩ = ⟨cells', ticks', over', bad', M.p.Codes.length⟩ →
      out = stepO M.p (atomOf M row) ⟨cells, ticks, over, bad, done⟩ → StOk M cells' nc ticks' bad' nb buf' n' →
      K (.slc 8 0 M.p.Props.length false) (mL M cells' nc ticks' over' bad' nb M.p.Codes.length buf' n' ++ [.lst 3 out])
def ord11 : Nat → List (Nat × List Nat)
  | 20 => [(0, []), (1, []), (2, []), (3, []), (4, []), (5, []), (6, []), (7, []), (8, []), (9, []), (10, []), (11, []), (12, []), (13, []), (14, []), (15, []), (16, []), (17, []), (18, [])]
  | _ => []
def G11 : FuncId → Spec Sg := gam [(29, s29), (30, s30), (31, s31), (32, s32)]
theorem G11_ok : ∀ f, FnOk Try.prog C f (G11 f) := gam_cons f29_ok (gam_cons f30_ok (gam_cons f31_ok (gam_cons f32_ok gam_nil)))
/-- one step of a tick: what is known behind it -/
theorem step_next {p : ProgR} (hv : verify p = 0) {at_ : Int → Bool × Bool} {c : CodeR} {l : List CodeR} {r r' fin : Rn} {most : Int} (hr : Run p (c :: l) r most) (hf : stepL at_ (c :: l) r = fin) (e : stepC at_ c r = r') :
    (∃ most', Run p l r' most') ∧ stepL at_ l r' = fin ∧ r'.stack.length ≤ r.stack.length + 1 := by
  subst e
  refine ⟨run_next hv at_ hr, hf, ?_⟩
  obtain ⟨t, q, hm, ht, _⟩ := stk_step hr.st
  have h := stepC_stack at_ (run_fits hv hr) hm
  rcases mvs_cases c with ⟨h0, _⟩ | ⟨t', q', h1, h2⟩
  · rw [hm] at h0; cases h0
  · rw [hm] at h1
    injection h1 with h1; injection h1 with e1 e2
    subst e1; subst e2
    have := h.1
    omega
theorem tell_next {at_ : Int → Bool × Bool} {c : CodeR} {cells st bad : List Bool} {over cur : Bool} {out o' : List Int} (h : c.Do = 8) (k : Nat) (hk : k = c.A.toNat) (b : Bool) (hb : b = (bad.getD k false || cur))
    (ho : o' = out.set k (if b = true then 2 else if hd st = true then 1 else 0)) : stepC at_ c ⟨cells, st, over, cur, bad, out⟩ = ⟨cells, st.drop 1, over, false, bad.set k b, o'⟩ := by
  subst hk
  unfold stepC
  rw [if_neg (by omega), if_pos h]
  dsimp only
  rw [← hb, ho]
theorem get_set {l : List Bool} {k : Nat} {v : Bool} (h : k < l.length) : (l.set k v).getD k false = v := by
  rw [getD_set, if_pos ⟨rfl, h⟩]
set_option maxHeartbeats 2000000 in
theorem f11_ok : FnOk Try.prog C 11 s11 := fn_okO mixed good goodM G11 G11_ok Try.func11 (body_some (by kernel_rfl)) (by kernel_rfl) ord11 (by kernel_rfl) s11 fun args H K h => by
  rcases h with ⟨row, rfl, rfl, hK⟩ | ⟨row, rfl, rfl, hK⟩ | ⟨row, M, cells', nc, ticks, over', bad', nb, done, buf', n', rfl, rfl, ⟨hM, hS⟩, hK⟩
  · show abodyO C G11 ord11 Try.f11 (bodyOf Try.f11) [.nilp, .imm 3 row] [] K
    refine .inl ⟨rfl, rfl, ?_⟩
    refine br_true ?_
    exact ⟨[], trivial, hK⟩
  · show abodyO C G11 ord11 Try.f11 (bodyOf Try.f11) [.ptr 0 0 0, .imm 3 row] zH K
    refine .inr (.inl ⟨rfl, rfl, ?_⟩)
    refine br_true ?_
    exact ⟨[], trivial, hK⟩
  show abodyO C G11 ord11 Try.f11 (bodyOf Try.f11) [.ptr 0 0 0, .imm 3 row] (mH M cells' nc ticks over' bad' nb done buf' n') K
  obtain ⟨hv, hN, hnd⟩ := hM
  have hz := verify_ok hv
  have hcells := verify_cells_le hv
  obtain ⟨c1, c2, c3, c4, c5, c6, c7⟩ := hS
  refine .inr (.inr (.inl ⟨M, cells', nc, ticks, over', bad', nb, done, buf', n', rfl, rfl, ?_⟩))
  refine br_false ?_
  have o1 : 0 ≤ (M.p.Props.length : Int) ∧ (M.p.Props.length : Int) ≤ M.p.Props.length ∧ (M.p.Props.length : Int) * 8 ≤ (maxBytes : Int) ∧ (M.p.Props.length : Int) ≤ (maxInt : Int) := by
    unfold maxBytes maxInt; omega
  refine And.intro o1 ?_
  have o2 : (0 : Int) ≤ 0 ∧ (0 : Int) ≤ 0 ∧ (0 : Int) ≤ n' := by omega
  refine And.intro o2 ?_
  have t0 : Top buf' 0 [] := ⟨by omega, rfl⟩
  refine ⟨[0, 1, 5, 6, 33, 34, 35], [], List Bool × Bool × List Bool × List Bool × Nat × List Int × Bool × Int,
    fun (cells, over, bad, buf, n, out, cur, i) => (frameOf [(0, .ptr 0 0 0), (1, .imm 3 row), (5, .slc 8 0 M.p.Props.length false), (6, .bool cur), (33, .imm 58 M.p.Codes), (34, .int .i64 M.p.Codes.length), (35, .int .i64 i)],
      mL M cells nc ticks over bad nb done buf n ++ [.lst 3 out]),
    fun (cells, over, bad, buf, n, out, cur, i) => 0 ≤ i ∧ i ≤ M.p.Codes.length ∧ ∃ st most, Run M.p (M.p.Codes.drop i.toNat) ⟨cells, st, over, cur, bad, out⟩ most ∧ Top buf n st ∧
      stepL (atomOf M row) (M.p.Codes.drop i.toNat) ⟨cells, st, over, cur, bad, out⟩ = stepR M.p (atomOf M row) ⟨cells', ticks, over', bad', done⟩ ∧ n ≤ i ∧ buf.length ≤ 1000000,
    fun x => M.p.Codes.length - x.2.2.2.2.2.2.2.toNat,
    ⟨trivial, (cells', over', bad', buf', 0, _, false, 0), rfl, by simp, by simp, [], 0, run0 hv (s := ⟨cells', ticks, over', bad', done⟩) c4 c3, t0, rfl, by simp, c7⟩, ?_⟩
  rintro ⟨cells, over, bad, buf, n, out, cur, i⟩ ⟨i1, i2, st, most, hr, ht, hfin, hni, hbl⟩
  dsimp only at i1 i2 hr ht hfin hni hbl ⊢
  refine br_split (fun h4 => ?_) (fun h4 => ?_)
  · have h4 : i < M.p.Codes.length := of_decide_eq_true h4
    have hget := drop_get M.p.Codes i.toNat (C.zero 58) (by omega)
    have iw : wr .i64 (i + 1) = i + 1 := wr_i64 (by omega) (by omega)
    have iw2 : (i + 1).toNat = i.toNat + 1 := by omega
    rw [hget] at hr hfin
    refine And.intro ⟨i1, h4⟩ ?_
    generalize hc : List.getD M.p.Codes i.toNat (C.zero 58) = c at *
    have hf := run_fits hv hr
    have hok := hf.ok
    have hlen := ht.len
    dsimp only at hf
    rw [hlen] at hf
    have hnc : nc = cells.length := by have := hr.cells; dsimp only at this; omega
    have hnb : nb = bad.length := by rw [c2, c4]; exact hr.bad.symm
    have hout : out.length = M.p.Props.length := hr.out
    have nx : ∀ (r' : Rn) (buf2 : List Bool) (n2 : Nat), stepC (atomOf M row) c ⟨cells, st, over, cur, bad, out⟩ = r' → Top buf2 n2 r'.stack → buf2.length ≤ 1000000 →
        (0 ≤ wr .i64 (i + 1) ∧ wr .i64 (i + 1) ≤ M.p.Codes.length ∧ ∃ st most, Run M.p (M.p.Codes.drop (wr .i64 (i + 1)).toNat) ⟨r'.cells, st, r'.over, r'.cur, r'.bad, r'.out⟩ most ∧ Top buf2 n2 st ∧
          stepL (atomOf M row) (M.p.Codes.drop (wr .i64 (i + 1)).toNat) ⟨r'.cells, st, r'.over, r'.cur, r'.bad, r'.out⟩ = stepR M.p (atomOf M row) ⟨cells', ticks, over', bad', done⟩ ∧ n2 ≤ wr .i64 (i + 1) ∧ buf2.length ≤ 1000000) ∧
        M.p.Codes.length - (wr .i64 (i + 1)).toNat < M.p.Codes.length - i.toNat := by
      intro r' buf2 n2 he ht2 hb2
      obtain ⟨⟨most', hr'⟩, hf', hl'⟩ := step_next hv hr hfin he
      have hl2 := ht2.len
      rw [iw, iw2]
      refine ⟨⟨by omega, by omega, r'.stack, most', hr', ht2, hf', ?_, hb2⟩, by omega⟩
      dsimp only at hl'
      omega
    refine br_split (fun h => ?_) (fun h2 => ?_)
    · -- an atom
      have h : c.Do = 2 := eq_of_beq h
      have e : stepC (atomOf M row) c ⟨cells, st, over, cur, bad, out⟩ = ⟨cells, (atomOf M row c.A).1 :: st, over || (atomOf M row c.A).2, cur || (atomOf M row c.A).2, bad, out⟩ := by unfold stepC; rw [if_pos h]
      refine And.intro ⟨trivial, trivial, trivial⟩ ?_
      refine ⟨M, cells, nc, ticks, over, bad, nb, done, buf, n, c.A, row, rfl, rfl, ⟨hN, ?_, ?_⟩, fun v o over2 hv2 ho hov => ?_⟩
      · unfold codeP at hok; omega
      · unfold codeP at hok; omega
      have op : ([v].drop 0).take 1 = [v] := rfl
      have ob : 0 + 1 ≤ [v].length ∧ 0 + n ≤ buf.length ∧ (n + (([v].drop 0).take 1).length) * 1 ≤ maxBytes ∧ n + (([v].drop 0).take 1).length ≤ maxInt := by
        refine ⟨Nat.le_refl _, by have := ht.le; omega, ?_, ?_⟩
        · rw [op]; unfold maxBytes; simp; omega
        · rw [op]; unfold maxInt; simp; omega
      refine And.intro trivial ?_
      refine And.intro ob ?_
      have tp := ht.push v
      have bl : ((buf.drop 0).take n ++ [v]).length ≤ 1000000 := by simp; omega
      rw [← hv2, ← ho, ← hov] at e
      have nx := nx _ _ _ e tp bl
      refine br_split (fun h5 => ?_) (fun h5 => ?_)
      · subst h5
        exact And.intro trivial ⟨(_, _, _, _, _, _, _, _), rfl, nx.1, nx.2⟩
      · subst h5
        exact And.intro trivial ⟨(_, _, _, _, _, _, _, _), rfl, nx.1, nx.2⟩
    have h2 : c.Do ≠ 2 := by simpa using h2
    refine br_split (fun h => ?_) (fun h8 => ?_)
    · -- a property is told
      have h : c.Do = 8 := eq_of_beq h
      have h1 := hf.one (.inr (.inr h))
      have hA : 0 ≤ c.A ∧ c.A < M.p.Props.length := by unfold codeP at hok; omega
      have hb3 : bad.length = M.p.Props.length := hr.bad
      have ek : 0 + c.A.toNat = c.A.toNat := Nat.zero_add _
      have tp := (ht.pop h1).2
      refine And.intro hA ?_
      refine And.intro (⟨trivial, by omega⟩ : True ∧ 0 + c.A.toNat < out.length) ?_
      refine ⟨M, cells, nc, ticks, over, bad, nb, done, buf, n, st, rfl, rfl, ⟨ht, h1, by omega⟩, ?_⟩
      have oB : 0 ≤ c.A ∧ c.A < (nb : Int) := by omega
      have oL : 0 + c.A.toNat < bad.length := by omega
      have oS : ∀ v, 0 + c.A.toNat < (bad.set (0 + c.A.toNat) v).length := by intro v; rw [List.length_set]; exact oL
      refine br_split (fun hh => ?_) (fun hh => ?_)
      · have hh : hd st = true := hh
        refine And.intro hA ?_
        refine And.intro (⟨trivial, by rw [List.length_set]; omega⟩ : True ∧ 0 + c.A.toNat < (out.set (0 + c.A.toNat) 0).length) ?_
        refine And.intro oB ?_
        refine And.intro oL ?_
        refine fun b0 hb0 => ?_
        have hb0 : bad.getD (0 + c.A.toNat) false = b0 := hb0
        cases b0
        · repeat' refine br_true ?_
          repeat' refine br_false ?_
          refine And.intro oB ?_
          refine And.intro ⟨trivial, oL⟩ ?_
          refine And.intro oB ?_
          refine And.intro (oS _) ?_
          refine br_split (fun h9 => ?_) (fun h9 => ?_)
          · have h9 : (bad.set (0 + c.A.toNat) cur).getD (0 + c.A.toNat) false = true := h9
            rw [get_set oL] at h9
            refine And.intro hA ?_
            refine And.intro (⟨trivial, by rw [List.length_set, List.length_set]; omega⟩ : True ∧ 0 + c.A.toNat < ((out.set (0 + c.A.toNat) 0).set (0 + c.A.toNat) 1).length) ?_
            have nx := nx _ _ _ (tell_next h (0 + c.A.toNat) ek cur (by rw [hb0, Bool.false_or]) (o' := ((out.set (0 + c.A.toNat) 0).set (0 + c.A.toNat) 1).set (0 + c.A.toNat) 2) (by rw [h9, if_pos rfl]; simp only [List.set_set])) tp hbl
            exact And.intro trivial ⟨(_, _, _, _, _, _, _, _), rfl, nx.1, nx.2⟩
          · have h9 : (bad.set (0 + c.A.toNat) cur).getD (0 + c.A.toNat) false = false := h9
            rw [get_set oL] at h9
            have nx := nx _ _ _ (tell_next h (0 + c.A.toNat) ek cur (by rw [hb0, Bool.false_or]) (o' := (out.set (0 + c.A.toNat) 0).set (0 + c.A.toNat) 1) (by rw [h9, if_neg (by decide), hh]; simp)) tp hbl
            exact And.intro trivial ⟨(_, _, _, _, _, _, _, _), rfl, nx.1, nx.2⟩
        · repeat' refine br_true ?_
          repeat' refine br_false ?_
          refine And.intro oB ?_
          refine And.intro ⟨trivial, oL⟩ ?_
          refine And.intro oB ?_
          refine And.intro (oS _) ?_
          refine br_split (fun h9 => ?_) (fun h9 => ?_)
          · refine And.intro hA ?_
            refine And.intro (⟨trivial, by rw [List.length_set, List.length_set]; omega⟩ : True ∧ 0 + c.A.toNat < ((out.set (0 + c.A.toNat) 0).set (0 + c.A.toNat) 1).length) ?_
            have nx := nx _ _ _ (tell_next h (0 + c.A.toNat) ek true (by rw [hb0, Bool.true_or]) (o' := ((out.set (0 + c.A.toNat) 0).set (0 + c.A.toNat) 1).set (0 + c.A.toNat) 2) (by rw [if_pos rfl]; simp only [List.set_set])) tp hbl
            exact And.intro trivial ⟨(_, _, _, _, _, _, _, _), rfl, nx.1, nx.2⟩
          · have h9 : (bad.set (0 + c.A.toNat) true).getD (0 + c.A.toNat) false = false := h9
            rw [get_set oL] at h9; cases h9
      · have hh : hd st = false := hh
        refine And.intro oB ?_
        refine And.intro oL ?_
        refine fun b0 hb0 => ?_
        have hb0 : bad.getD (0 + c.A.toNat) false = b0 := hb0
        cases b0
        · repeat' refine br_true ?_
          repeat' refine br_false ?_
          refine And.intro oB ?_
          refine And.intro ⟨trivial, oL⟩ ?_
          refine And.intro oB ?_
          refine And.intro (oS _) ?_
          refine br_split (fun h9 => ?_) (fun h9 => ?_)
          · have h9 : (bad.set (0 + c.A.toNat) cur).getD (0 + c.A.toNat) false = true := h9
            rw [get_set oL] at h9
            refine And.intro hA ?_
            refine And.intro (⟨trivial, by rw [List.length_set]; omega⟩ : True ∧ 0 + c.A.toNat < (out.set (0 + c.A.toNat) 0).length) ?_
            have nx := nx _ _ _ (tell_next h (0 + c.A.toNat) ek cur (by rw [hb0, Bool.false_or]) (o' := (out.set (0 + c.A.toNat) 0).set (0 + c.A.toNat) 2) (by rw [h9, if_pos rfl]; simp only [List.set_set])) tp hbl
            exact And.intro trivial ⟨(_, _, _, _, _, _, _, _), rfl, nx.1, nx.2⟩
          · have h9 : (bad.set (0 + c.A.toNat) cur).getD (0 + c.A.toNat) false = false := h9
            rw [get_set oL] at h9
            have nx := nx _ _ _ (tell_next h (0 + c.A.toNat) ek cur (by rw [hb0, Bool.false_or]) (o' := out.set (0 + c.A.toNat) 0) (by rw [h9, if_neg (by decide), hh]; simp)) tp hbl
            exact And.intro trivial ⟨(_, _, _, _, _, _, _, _), rfl, nx.1, nx.2⟩
        · repeat' refine br_true ?_
          repeat' refine br_false ?_
          refine And.intro oB ?_
          refine And.intro ⟨trivial, oL⟩ ?_
          refine And.intro oB ?_
          refine And.intro (oS _) ?_
          refine br_split (fun h9 => ?_) (fun h9 => ?_)
          · refine And.intro hA ?_
            refine And.intro (⟨trivial, by rw [List.length_set]; omega⟩ : True ∧ 0 + c.A.toNat < (out.set (0 + c.A.toNat) 0).length) ?_
            have nx := nx _ _ _ (tell_next h (0 + c.A.toNat) ek true (by rw [hb0, Bool.true_or]) (o' := (out.set (0 + c.A.toNat) 0).set (0 + c.A.toNat) 2) (by rw [if_pos rfl]; simp only [List.set_set])) tp hbl
            exact And.intro trivial ⟨(_, _, _, _, _, _, _, _), rfl, nx.1, nx.2⟩
          · have h9 : (bad.set (0 + c.A.toNat) true).getD (0 + c.A.toNat) false = false := h9
            rw [get_set oL] at h9; cases h9
    have h8 : c.Do ≠ 8 := by simpa using h8
    have e : stepC (atomOf M row) c ⟨cells, st, over, cur, bad, out⟩ = ⟨(runC c cells st).2.1, (runC c cells st).1 :: (runC c cells st).2.2, over, cur, bad, out⟩ := by unfold stepC; rw [if_neg h2, if_neg h8]
    refine And.intro ⟨trivial, trivial⟩ ?_
    refine ⟨c, M, cells, nc, ticks, over, bad, nb, done, buf, n, st, rfl, rfl, ⟨ht, by omega, hf, hnc, by omega, h2, h8⟩, fun v cells2 n2 hv2 hc2 hn2 ht2 => ?_⟩
    have hle := ht2.le
    have op : ([v].drop 0).take 1 = [v] := rfl
    have ob : 0 + 1 ≤ [v].length ∧ 0 + n2 ≤ buf.length ∧ (n2 + (([v].drop 0).take 1).length) * 1 ≤ maxBytes ∧ n2 + (([v].drop 0).take 1).length ≤ maxInt := by
      refine ⟨Nat.le_refl _, by omega, ?_, ?_⟩
      · rw [op]; unfold maxBytes; simp; omega
      · rw [op]; unfold maxInt; simp; omega
    refine And.intro trivial ?_
    refine And.intro ob ?_
    have tp := ht2.push v
    have bl : ((buf.drop 0).take n2 ++ [v]).length ≤ 1000000 := by
      have := step_next hv hr hfin e
      have h5 := this.2.2
      dsimp only [List.length_cons] at h5
      simp; omega
    rw [← hv2, ← hc2] at e
    have nx := nx _ _ _ e tp bl
    exact And.intro trivial ⟨(_, _, _, _, _, _, _, _), rfl, nx.1, nx.2⟩
  · have h4 : ¬ i < M.p.Codes.length := of_decide_eq_false h4
    rw [List.drop_eq_nil_of_le (by omega)] at hr hfin
    have hfin : (⟨cells, st, over, cur, bad, out⟩ : Rn) = stepR M.p (atomOf M row) ⟨cells', ticks, over', bad', done⟩ := hfin
    have hm : ∀ t, t = tick1 ticks → stepM M.p (atomOf M row) ⟨cells', ticks, over', bad', done⟩ = ⟨cells, t, over, bad, M.p.Codes.length⟩ := by
      intro t ht; unfold stepM; rw [← hfin, ht]; rfl
    have ho : out = stepO M.p (atomOf M row) ⟨cells', ticks, over', bad', done⟩ := by unfold stepO; rw [← hfin]
    have hb3 : bad.length = M.p.Props.length := hr.bad
    have hc3 : (cells.length : Int) = M.p.Cells := hr.cells
    refine br_split (fun h5 => ?_) (fun h5 => ?_)
    · have h5 : ticks < 9223372036854775807 := of_decide_eq_true h5
      have tw : wr .i64 (ticks + 1) = ticks + 1 := wr_i64 (by omega) (by omega)
      exact ⟨[], trivial, hK cells (wr .i64 (ticks + 1)) over bad buf n out (hm _ (by rw [tw]; unfold tick1; rw [if_pos h5])) ho ⟨by omega, by omega, hc3, hb3, by rw [tw]; omega, ht.le, hbl⟩⟩
    · have h5 : ¬ ticks < 9223372036854775807 := of_decide_eq_false h5
      exact ⟨[], trivial, hK cells ticks over bad buf n out (hm _ (by unfold tick1; rw [if_neg h5])) ho ⟨by omega, by omega, hc3, hb3, c5, ht.le, hbl⟩⟩
end Ev
