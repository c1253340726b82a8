/- The concrete run: operations that compute or read hold of the model. -/
import Derived.Test.YtadmjjogmbhkaaaGreatDoorCe1
import Derived.Laws.StructEq
namespace Ev
open Go
variable {P : Program} {X : Ctx S0} {E E' : Env} {g g' : Nat → CB} {w w' : World} {fr : Tr V} {h : Tr CB} {a : Act} {H : AH S0}

theorem okFz_le {fz : Nat × Nat} {n m : Nat} (h : okFz fz n) (hm : m ≤ n) : okFz fz m := h.imp id fun h => Nat.le_trans hm h
theorem run_storeCells_atZ (P : Program) (g o : Nat) (t : TypeId) (fz : Nat × Nat) : ∀ (vs : List Value) (i : Nat) (cur : Array Value) (w : World), w.heap[g]? = some (.cells cur t fz) → okFz fz cur.size → o + i + vs.length ≤ cur.size → (∀ v ∈ vs, v.oneCell' = true) →
    (storeCells ⟨g, o, none⟩ vs i).run P w = .ok () (w.setRow g (cur.toList.take (o + i) ++ vs ++ cur.toList.drop (o + i + vs.length)).toArray)
  | [], i, cur, w, hg, _, _, _ => by
    simp only [storeCells, List.append_nil, List.length_nil, Nat.add_zero, List.take_append_drop, Array.toArray_toList]
    rw [setRow_self w g cur t fz hg]
    rfl
  | v :: rest, i, cur, w, hg, hfz, hl, h1 => by
    have hi : o + i < cur.size := by simp at hl; omega
    have hadd : (⟨g, o, none⟩ : Addr).add i = ⟨g, o + i, none⟩ := by unfold Addr.add; split <;> simp_all
    have hcell : w.cell? ⟨g, o + i, none⟩ = some cur[o + i] := by simp [World.cell?, hg, hi]
    have hfro : w.frozen? ⟨g, o + i, none⟩ = false := by
      obtain ⟨lo, hi'⟩ := fz
      simp only [World.frozen?, hg, Bool.and_eq_false_iff, decide_eq_false_iff_not]
      rcases hfz with h | h
      · injection h with h1 h2; subst h1; subst h2; right; omega
      · left; simp only at h; omega
    have hst : (store ((⟨g, o, none⟩ : Addr).add i) v).run P w = .ok () (w.setRow g (cur.setIfInBounds (o + i) v)) := by
      rw [hadd, run_store P w _ v _ (h1 v (by simp)), hcell]
      simp [hfro, setCell_eq_setRow w g (o + i) cur t fz v hg]
    have ih := run_storeCells_atZ P g o t fz rest (i + 1) (cur.setIfInBounds (o + i) v) (w.setRow g (cur.setIfInBounds (o + i) v)) (setRow_heap w g cur _ t _ hg) (okFz_le hfz (by simp)) (by simp at hl ⊢; omega) (fun x hx => h1 x (by simp [hx]))
    simp only [storeCells, Sem.run_bind, hst, Result.andThen_ok, ih, setRow_setRow]
    congr 3
    have e := list_seg_step cur.toList (o + i) v rest (by simp at hl ⊢; omega)
    simpa [Array.toList_setIfInBounds, Nat.add_assoc] using e
theorem run_append_roomZ {t ty e el : TypeId} {i : TypeInfo} (ht : P.underlying t = some (.slice e)) (hi : P.info? e = some i) {fz : Nat × Nat}
    (g o sLen sCap : Nat) (cur : Array Value) (hg : w.heap[g]? = some (.cells cur el fz)) (hz : okFz fz cur.size)
    (ad : Addr) (m c : Nat) (news : List Value) (hl : news.length = m * i.size) (hnews : ∀ j u, news[j]? = some u → w.cell? (ad.add j) = some u) (h1 : ∀ u ∈ news, u.oneCell' = true)
    (hroom : sLen + m ≤ sCap) (hfit : o + sLen * i.size + news.length ≤ cur.size) :
    (Builtin.append_ #[t, t] ty #[.slice (some ⟨g, o, none⟩) sLen sCap, .slice (some ad) m c]).run P w =
      .ok (.slice (some ⟨g, o, none⟩) (sLen + m) sCap) (w.setRow g (cur.toList.take (o + sLen * i.size) ++ news ++ cur.toList.drop (o + sLen * i.size + news.length)).toArray) := by
  have hf := run_firstCells_some (P := P) w i.size m ad m c news hl hnews
  have hst := run_storeCells_atZ P g (o + sLen * i.size) el fz news 0 cur w hg hz (by simpa using hfit) h1
  simp only [Nat.add_zero] at hst
  simp [Builtin.append_, run_underlying ht, Go.sizeOf, typeInfo, hi, Builtin.lenOf, hroom, hf, addr_add, hst]
theorem run_storeAtZ {t : TypeId} {i : TypeInfo} {b o : Nat} {u : Value} {c : Array Value} {el : TypeId} {fz : Nat × Nat} (hi : P.info? t = some i) (hu : u.cells.size = i.size) (hg : w.heap[b]? = some (.cells c el fz)) (hz : okFz fz c.size)
    (hfit : o + i.size ≤ c.size) (h1 : ∀ x ∈ u.cells.toList, x.oneCell' = true) :
    (Instr.storeAt t (.pointer (some ⟨b, o, none⟩)) u).run P w = .ok () (w.setRow b (c.toList.take o ++ u.cells.toList ++ c.toList.drop (o + u.cells.toList.length)).toArray) := by
  have hst := run_storeCells_atZ P b o el fz u.cells.toList 0 c w hg hz (by simp; omega) h1
  simp only [Nat.add_zero] at hst
  have hn : ¬ (u.cells.size ≠ i.size) := by omega
  simp only [Instr.storeAt, Instr.sureAddr, storeVar, Sem.run_bind, Sem.run_pure, Result.andThen_ok, run_sizeOf hi, if_neg hn, hst]

/-- what can be said of a key, of a number as an address: nothing -/
theorem cbin_abin {op : BinOp} {t : TypeId} {x y v : V} (hc : cbin X op t x y = some v) : ∃ p, abin X op t x y = some (p, v) ∧ ∀ q, p = some q → q := by
  unfold cbin at hc
  have kk : ∀ {k k' : IntKind} {r : Option V}, (match decide (k = k') with | true => r | false => none) = some v → k = k' ∧ r = some v := by
    intro k k' r h
    by_cases e : k = k'
    · simp only [e, decide_true] at h; exact ⟨e, h⟩
    · simp only [e, decide_false] at h; cases h
  split at hc
  · rename_i k n
    split at hc
    · rename_i k' m
      split at hc
      case h_1 | h_2 | h_3 =>
        obtain ⟨rfl, e⟩ := kk hc
        injection e with e; subst e
        refine ⟨none, ?_, fun q h => by cases h⟩
        simp only [abin, decide_true, cw_eq]
      case h_4 =>
        obtain ⟨rfl, e⟩ := kk hc
        injection e with e; subst e
        refine ⟨none, ?_, fun q h => by cases h⟩
        simp only [abin, decide_true, eqI_eq]
      case h_5 =>
        obtain ⟨rfl, e⟩ := kk hc
        injection e with e; subst e
        refine ⟨none, ?_, fun q h => by cases h⟩
        simp only [abin, decide_true, eqI_eq, bne]
      case h_6 =>
        obtain ⟨rfl, e⟩ := kk hc
        injection e with e; subst e
        refine ⟨none, ?_, fun q h => by cases h⟩
        simp only [abin, decide_true, ltI_eq]
      case h_7 =>
        obtain ⟨rfl, e⟩ := kk hc
        injection e with e; subst e
        refine ⟨none, ?_, fun q h => by cases h⟩
        have : decide (n ≤ m) = !(decide (m < n)) := by rw [← decide_not]; congr 1; apply propext; omega
        simp only [abin, decide_true, ltI_eq, this]
      case h_8 =>
        obtain ⟨rfl, e⟩ := kk hc
        injection e with e; subst e
        refine ⟨none, ?_, fun q h => by cases h⟩
        simp only [abin, decide_true, ltI_eq, gt_iff_lt]
      case h_9 =>
        obtain ⟨rfl, e⟩ := kk hc
        injection e with e; subst e
        refine ⟨none, ?_, fun q h => by cases h⟩
        have : decide (n ≥ m) = !(decide (n < m)) := by rw [← decide_not]; congr 1; apply propext; omega
        simp only [abin, decide_true, ltI_eq, this]
      case h_10 =>
        split at hc
        · cases hc
        · rename_i hb
          injection hc with hc; subst hc
          have := ltI_false.1 hb
          exact ⟨some (0 ≤ m), by simp only [abin, cw_eq], fun q h => by injection h with h; subst h; exact this⟩
      case h_11 =>
        split at hc
        · cases hc
        · rename_i hb
          injection hc with hc; subst hc
          have := ltI_false.1 hb
          exact ⟨some (0 ≤ m), by simp only [abin], fun q h => by injection h with h; subst h; exact this⟩
      case h_12 =>
        split at hc
        · cases hc
        · rename_i hb
          simp only [Bool.or_eq_false_iff, Bool.not_eq_false', decide_eq_true_eq] at hb
          obtain ⟨hb, rfl⟩ := hb
          injection hc with hc; subst hc
          have hm : m ≠ 0 := fun e => by subst e; rw [eqI_iff.2 rfl] at hb; cases hb
          exact ⟨some (m ≠ 0), by simp only [abin, decide_true, cw_eq], fun q h => by injection h with h; subst h; exact hm⟩
      case h_13 =>
        split at hc
        · cases hc
        · rename_i hb
          simp only [Bool.or_eq_false_iff, Bool.not_eq_false', decide_eq_true_eq] at hb
          obtain ⟨hb, rfl⟩ := hb
          injection hc with hc; subst hc
          have hm : m ≠ 0 := fun e => by subst e; rw [eqI_iff.2 rfl] at hb; cases hb
          exact ⟨some (m ≠ 0), by simp only [abin, decide_true], fun q h => by injection h with h; subst h; exact hm⟩
      case h_14 | h_15 | h_16 =>
        obtain ⟨rfl, e⟩ := kk hc
        injection e with e; subst e
        exact ⟨none, by simp only [abin, decide_true], fun q h => by cases h⟩
      case h_17 => cases hc
    · cases hc
  · rename_i s
    split at hc
    · rename_i s'
      split at hc
      · split at hc
        · rename_i hb
          injection hc with hc; subst hc
          have := bltT.1 hb
          refine ⟨some (s.size + s'.size ≤ maxInt), ?_, fun q h => by injection h with h; subst h; omega⟩
          have e : (⟨⟨s.data.toList ++ s'.data.toList⟩⟩ : ByteArray) = s ++ s' := by
            apply ByteArray.ext
            simp
          simp only [abin, e]
        · cases hc
      · injection hc with hc; subst hc
        refine ⟨none, ?_, fun q h => by cases h⟩
        have : eqS s s' = (s.toList == s'.toList) := by
          rw [Bool.eq_iff_iff, eqS_iff, beq_iff_eq, ByteArray.toList_eq, ByteArray.toList_eq]
          exact ⟨fun h => by rw [h], fun h => ByteArray.ext (Array.ext' h)⟩
        simp only [abin, this]
      · injection hc with hc; subst hc
        refine ⟨none, ?_, fun q h => by cases h⟩
        have : eqS s s' = (s.toList == s'.toList) := by
          rw [Bool.eq_iff_iff, eqS_iff, beq_iff_eq, ByteArray.toList_eq, ByteArray.toList_eq]
          exact ⟨fun h => by rw [h], fun h => ByteArray.ext (Array.ext' h)⟩
        simp only [abin, this]
      · cases hc
    · cases hc
  · rename_i x hx1 hx2
    split at hc
    · refine ⟨none, ?_, fun q h => by cases h⟩
      unfold abin
      split
      · exact absurd rfl (hx1 _ _)
      · exact absurd rfl (hx2 _)
      · simp only [hc]
    · split at hc
      · rename_i v' hv
        injection hc with hc; subst hc
        refine ⟨none, ?_, fun q h => by cases h⟩
        unfold abin
        split
        · exact absurd rfl (hx1 _ _)
        · exact absurd rfl (hx2 _)
        · simp only [hv]
      · cases hc
    · cases hc

theorem cfieldAddr_a {s : TypeId} {x v : V} {f : Nat} (hc : cfieldAddr X s x f = some v) : afieldAddr X s x f = some v := by
  unfold cfieldAddr at hc
  unfold afieldAddr
  split at hc
  · rename_i fs hd
    rw [hd]
    split at hc
    · rename_i off ft hn
      simp only [nth_eq, hn]
      split at hc
      · cases hc
      · rename_i hz
        simp only [hz]
        split at hc
        · injection hc with hc; subst hc; rfl
        · cases hc
    · cases hc
  · cases hc
theorem cfield_a {t : TypeId} {x v : V} {f : Nat} (hc : cfield X t x f = some v) : afield X t x f = some v := by
  unfold cfield at hc
  unfold afield
  split at hc
  · rename_i fs hd
    rw [hd]
    split at hc
    · rename_i off ft hn
      simp only [nth_eq, hn]
      rw [← hc]
      cases x <;> rfl
    · cases hc
  · cases hc
theorem cindex_a {t : TypeId} {x i v : V} (hc : cindex X t x i = some v) : ∃ ob, aindex X t x i H = some ⟨ob, v, H⟩ ∧ ∀ p, ob = some p → p := by
  unfold cindex at hc
  split at hc
  · rename_i k n
    split at hc
    · rename_i hd
      split at hc
      · rename_i s
        split at hc
        · rename_i hb
          injection hc with hc; subst hc
          simp only [Bool.and_eq_true, Bool.not_eq_true'] at hb
          have h1 := ltI_false.1 hb.1
          have h2 := ltI_iff.1 hb.2
          exact ⟨some (0 ≤ n ∧ n < (s.size : Int)), by simp only [aindex, hd], fun p h => by injection h with h; subst h; exact ⟨h1, h2⟩⟩
        · cases hc
      · cases hc
    · rename_i m e hd
      split at hc
      · rename_i cs
        split at hc
        · rename_i hb
          simp only [Bool.and_eq_true, Bool.not_eq_true'] at hb
          have h1 := ltI_false.1 hb.1.1
          have h2 := ltI_iff.1 hb.1.2
          exact ⟨some (0 ≤ n ∧ n < (m : Int)), by simp only [aindex, hd, hc, hb.2], fun p h => by injection h with h; subst h; exact ⟨h1, h2⟩⟩
        · cases hc
      · cases hc
    · cases hc
  · cases hc

/-- 'load' -/
theorem cload_sound (G : Good P X) (hr : CH X E (hp h) w) {t : TypeId} {x r : V} (hc : cload X t h x = some r) {v : Value} (hx : VR X E x v) : ∃ u, (Instr.loadAt t v).run P w = .ok u w ∧ VR X E r u := by
  unfold cload at hc
  split at hc
  · rename_i l row sub
    split at hc
    · rename_i wd' cs hl
      cases hx with
      | ptr _ _ _ b sh wd tot o hio ho =>
      have hd : hp h l ≠ .dead := by show h.get .dead l ≠ .dead; rw [hl]; simp
      have hb := hr.at hio hd
      have e : hp h l = .arr wd' cs := hl
      rw [e] at hb
      obtain ⟨c, el, ⟨fz, h1, hz⟩, h2, h3, h4, h5, h6⟩ := hb
      subst h2
      obtain ⟨u, hu, hv⟩ := loadIn_sound G hc (base := sh) h1 h6
      refine ⟨u, ?_, hv⟩
      simp only [Instr.loadAt, Instr.sureAddr, Sem.run_bind, Sem.run_pure, Result.andThen_ok]
      rw [ho, show sh + row * wd' + sub = sh + (row * wd' + sub) by omega]
      exact hu
    · cases hc
  · cases hc

theorem CH.arr (hr : CH X E (hp h) w) {l b sh wd tot wd' : Nat} {cs : List V} (hl : h.get .dead l = .arr wd' cs) (hio : E.io l = some (.at b sh wd tot)) :
    ∃ c el, RowAt w b c el ∧ wd' = wd ∧ cs.length ≤ tot * wd ∧ tot ≤ maxInt ∧ sh + tot * wd ≤ c.size ∧ VRs X E cs ((c.toList.drop sh).take cs.length) := by
  have hd : hp h l ≠ .dead := by show h.get .dead l ≠ .dead; rw [hl]; simp
  have hb := hr.at hio hd
  have e : hp h l = .arr wd' cs := hl
  rw [e] at hb
  exact hb

theorem cindexAddr_sound (G : Good P X) (hr : CH X E (hp h) w) {t : TypeId} {x i r : V} (hc : cindexAddr X t h x i = some r) {v j : Value} (hx : VR X E x v) (hi : VR X E i j) : ∃ u, (Instr.indexAt t v j).run P w = .ok u w ∧ VR X E r u := by
  unfold cindexAddr at hc
  split at hc
  · rename_i k n
    cases hi with
    | int =>
    split at hc
    · rename_i e hd
      split at hc
      · rename_i l off len cl
        split at hc
        · rename_i wd' cs hl
          split at hc
          · rename_i hb
            simp only [Bool.and_eq_true, Bool.not_eq_true', Nat.blt_eq] at hb
            obtain ⟨⟨⟨hsz, hwd⟩, h0⟩, h1⟩ := hb
            have hwd := Nat.eq_of_beq_eq_true hwd
            have h0 := ltI_false.1 h0
            have h1 := ltI_iff.1 h1
            injection hc with hc; subst hc
            obtain ⟨i, z, hi, hs, _⟩ := G.lay.info e hsz
            cases hx with
            | slc _ _ _ _ b sh wd tot o cap hio ho h2 h3 h4 h5 =>
              obtain ⟨c, el, g1, g2, _⟩ := hr.arr hl hio
              refine ⟨.pointer (some ⟨b, o + n.toNat * X.L.size e, none⟩), ?_, .ptr _ _ _ b sh wd tot _ hio (by rw [ho, ← g2, hwd, Nat.add_mul]; omega)⟩
              simp only [Instr.indexAt, asIntOf, Sem.run_bind, Sem.run_pure, Result.andThen_ok, run_underlying (G.lay.slice hd)]
              rw [if_pos ⟨h0, h1⟩]
              simp only [Sem.run_bind, run_sizeOf hi, Result.andThen_ok, Sem.run_pure, hs, addr_add]
            | void0 => exfalso; omega
            | zero => exfalso; omega
          · cases hc
        · cases hc
      · cases hc
    · rename_i n' e hd
      split at hc
      · rename_i l row sub
        split at hc
        · rename_i wd' cs hl
          split at hc
          · rename_i hb
            simp only [Bool.and_eq_true, Bool.not_eq_true', Nat.blt_eq] at hb
            obtain ⟨⟨hsz, h0⟩, h1⟩ := hb
            have h0 := ltI_false.1 h0
            have h1 := ltI_iff.1 h1
            obtain ⟨i, z, hi, hs, _⟩ := G.lay.info e hsz
            have hrun : ∀ (b o : Nat), (Instr.indexAt t (.pointer (some ⟨b, o, none⟩)) (.int k n)).run P w = .ok (.pointer (some ⟨b, o + n.toNat * X.L.size e, none⟩)) w := by
              intro b o
              simp only [Instr.indexAt, Instr.sureAddr, asIntOf, Sem.run_bind, Sem.run_pure, Result.andThen_ok, run_underlying (G.lay.array hd)]
              rw [if_pos ⟨h0, h1⟩]
              simp only [Sem.run_bind, run_sizeOf hi, Result.andThen_ok, Sem.run_pure, hs, addr_add]
            cases hx with
            | ptr _ _ _ b sh wd tot o hio ho =>
            obtain ⟨c, el, g1, g2, _⟩ := hr.arr hl hio
            split at hc
            · rename_i hb2
              simp only [Bool.and_eq_true] at hb2
              have q1 := Nat.eq_of_beq_eq_true hb2.1
              have q2 := Nat.eq_of_beq_eq_true hb2.2
              injection hc with hc; subst hc
              exact ⟨_, hrun b o, .ptr _ _ _ b sh wd tot _ hio (by rw [ho, ← g2, q1, q2, Nat.add_mul]; omega)⟩
            · injection hc with hc; subst hc
              exact ⟨_, hrun b o, .ptr _ _ _ b sh wd tot _ hio (by rw [ho]; omega)⟩
          · cases hc
        · cases hc
      · cases hc
    · cases hc
  · cases hc

theorem given_some {hi : Option V} {hi' : Option Value} (hhi : OptR X E hi hi') {h : Int} (hg : isGiven hi = true) (hh : hi' = none ∧ h = (0 : Int) ∨ ∃ k, hi' = some (.int k h)) : ∃ k, hi' = some (.int k h) := by
  rcases hh with ⟨hn, _⟩ | hh
  · cases hi with
    | none => cases hg
    | some v => obtain ⟨u, hu, _⟩ := hhi.1 v rfl; rw [hn] at hu; cases hu
  · exact hh
theorem given_some' {hi : Option V} {hi' : Option Value} (hhi : OptR X E hi hi') {h d : Int} (hg : isGiven hi = true) (hh : hi' = none ∧ h = d ∨ ∃ k, hi' = some (.int k h)) : ∃ k, hi' = some (.int k h) := by
  rcases hh with ⟨hn, _⟩ | hh
  · cases hi with
    | none => cases hg
    | some v => obtain ⟨u, hu, _⟩ := hhi.1 v rfl; rw [hn] at hu; cases hu
  · exact hh

theorem cslice_sound (G : Good P X) (hr : CH X E (hp h) w) {t : TypeId} {x : V} {lo hi mx : Option V} {r : V} (hc : cslice X t x lo hi mx h = some r)
    {v : Value} {lo' hi' mx' : Option Value} (hx : VR X E x v) (hlo : OptR X E lo lo') (hhi : OptR X E hi hi') (hmx : OptR X E mx mx') :
    ∃ u, (Instr.sliceAt t v lo' hi' mx').run P w = .ok u w ∧ VR X E r u := by
  unfold cslice at hc
  split at hc
  · -- a string
    rename_i s
    split at hc
    · rename_i hd
      split at hc
      · rename_i l hh h1 h2
        split at hc
        · rename_i hb
          simp only [Bool.and_eq_true, Bool.not_eq_true'] at hb
          obtain ⟨⟨o0, o1⟩, o2⟩ := hb
          have o0 := ltI_false.1 o0
          have o1 := ltI_false.1 o1
          have o2 := ltI_false.1 o2
          injection hc with hc; subst hc
          have e := hmx.2 rfl; subst e
          cases hx with
          | str =>
          refine ⟨.string (s.extract l.toNat hh.toNat), ?_, ?_⟩
          · have hb := run_sliceBounds (P := P) (w := w) (s := false) (len := s.size) (cap := s.size) (endOf_some h1 hlo.1 hlo.2) (endOf_some h2 hhi.1 hhi.2) o0 o1 o2
            simp [Instr.sliceAt, Instr.slice, run_underlying (G.lay.str hd), hb]
          · have e : (⟨⟨(s.data.toList.drop l.toNat).take (hh.toNat - l.toNat)⟩⟩ : ByteArray) = s.extract l.toNat hh.toNat := by
              apply ByteArray.ext
              apply Array.toList_inj.1
              simp [ByteArray.data_extract, Array.toList_extract, List.extract]
            rw [e]; exact .str _
        · cases hc
      · cases hc
    · cases hc
  · -- a slice
    rename_i b off len cl
    split at hc
    · rename_i e hd
      have hu := G.lay.slice hd
      split at hc
      · rename_i l hh h1 h2
        split at hc
        · rename_i hb
          simp only [Bool.and_eq_true, Nat.blt_eq, Bool.or_eq_true] at hb
          obtain ⟨hsz, hblk⟩ := hb
          obtain ⟨i, z, hi0, hs, _⟩ := G.lay.info e hsz
          have H1 := endOf_some h1 hlo.1 hlo.2
          have H2 := endOf_some h2 hhi.1 hhi.2
          -- the place of the answer
          have fin : ∀ {cap m : Nat} {o bb sh wd tot : Nat} {cl' : Bool}, E.io b = some (.at bb sh wd tot) → o = sh + off * wd → off + cap ≤ tot → cap ≤ maxInt → 0 ≤ l → l ≤ hh → hh ≤ m → m ≤ cap → (cl' = true → m = hh.toNat) →
              VR X E (.slc b (off + l.toNat) (hh.toNat - l.toNat) cl') (.slice (if m = l.toNat then some ⟨bb, o, none⟩ else (some (⟨bb, o, none⟩ : Addr)).map (·.add (l.toNat * i.size))) (hh.toNat - l.toNat) (m - l.toNat)) := by
            intro cap m o bb sh wd tot cl' hio ho hc1 hc2 a0 a1 a2 a3 a4
            by_cases hm : m = l.toNat
            · rw [if_pos hm, show hh.toNat - l.toNat = 0 by omega, show m - l.toNat = 0 by omega]
              exact .zero _ _ _ _ _ hio
            · rw [if_neg hm]
              simp only [Option.map_some, addr_add]
              have hw : l.toNat * i.size = l.toNat * wd := by
                rcases hblk with hz | hz
                · have := eqI_iff.1 hz; subst this; simp
                · split at hz
                  · rename_i wd' cs hl
                    obtain ⟨c, el, g1, g2, _⟩ := hr.arr hl hio
                    rw [hs, ← g2, Nat.eq_of_beq_eq_true hz]
                  · cases hz
              exact .slc _ _ _ _ bb sh wd tot _ _ hio (by rw [ho, hw, Nat.add_mul]; omega) (by omega) (by omega) (by omega) (fun q => by rw [a4 q])
          split at hc
          · split at hc
            · rename_i hb2
              simp only [Bool.and_eq_true, Bool.not_eq_true'] at hb2
              obtain ⟨⟨o0, o1⟩, o2⟩ := hb2
              have o0 := ltI_false.1 o0
              have o1 := ltI_false.1 o1
              have o2 := ltI_false.1 o2
              injection hc with hc; subst hc
              have em := hmx.2 rfl; subst em
              cases hx with
              | slc _ _ _ _ bb sh wd tot o cap hio ho h3 h4 h5 h6 =>
                refine ⟨_, run_sliceAt hu hi0 (run_sliceBounds H1 H2 o0 o1 (by omega)), fin hio ho h3 h5 o0 o1 (by omega) (Nat.le_refl _) fun q => ?_⟩
                cases hi with
                | none =>
                  have := h6 q
                  simp only [endOf, Option.some.injEq] at h2
                  omega
                | some _ => simp [isGiven] at q
              | void0 _ _ _ hio =>
                have e1 : l = 0 := by omega
                have e2 : hh = 0 := by omega
                subst e1; subst e2
                refine ⟨.slice none 0 0, ?_, ?_⟩
                · rw [run_sliceAt hu hi0 (run_sliceBounds (len := 0) (cap := 0) H1 H2 (by omega) (by omega) (by omega))]; simp
                · simpa using VR.void0 b _ _ hio
              | zero _ _ _ ad p hio =>
                have e1 : l = 0 := by omega
                have e2 : hh = 0 := by omega
                subst e1; subst e2
                refine ⟨.slice (some ad) 0 0, ?_, ?_⟩
                · rw [run_sliceAt hu hi0 (run_sliceBounds (len := 0) (cap := 0) H1 H2 (by omega) (by omega) (by omega))]; simp
                · simpa using VR.zero b _ _ ad p hio
            · cases hc
          · rename_i km m
            split at hc
            · rename_i hb2
              simp only [Bool.and_eq_true, Bool.not_eq_true'] at hb2
              obtain ⟨⟨⟨⟨hg, o0⟩, o1⟩, o2⟩, o3⟩ := hb2
              have o0 := ltI_false.1 o0
              have o1 := ltI_false.1 o1
              have o2 := eqI_iff.1 o2
              have o3 := ltI_false.1 o3
              injection hc with hc; subst hc
              obtain ⟨u, hmu, hvu⟩ := hmx.1 _ rfl
              subst hmu
              cases hvu
              have H2' := given_some' hhi hg H2
              subst o2
              cases hx with
              | slc _ _ _ _ bb sh wd tot o cap hio ho h3 h4 h5 h6 =>
                refine ⟨_, run_sliceAt hu hi0 (run_sliceBounds3 H1 H2' o0 o1 (Int.le_refl _) (by omega)), fin hio ho h3 h5 o0 o1 (by omega) (by omega) fun _ => rfl⟩
              | void0 _ _ _ hio =>
                have e1 : l = 0 := by omega
                have e2 : hh = 0 := by omega
                subst e1; subst e2
                refine ⟨.slice none 0 0, ?_, ?_⟩
                · rw [run_sliceAt hu hi0 (run_sliceBounds3 (cap := 0) H1 H2' (by omega) (by omega) (by omega) (by omega))]; simp
                · simpa using VR.void0 b _ _ hio
              | zero _ _ _ ad p hio =>
                have e1 : l = 0 := by omega
                have e2 : hh = 0 := by omega
                subst e1; subst e2
                refine ⟨.slice (some ad) 0 0, ?_, ?_⟩
                · rw [run_sliceAt hu hi0 (run_sliceBounds3 (cap := 0) H1 H2' (by omega) (by omega) (by omega) (by omega))]; simp
                · simpa using VR.zero b _ _ ad p hio
            · cases hc
          · cases hc
        · cases hc
      · cases hc
    · cases hc
  · -- nil
    split at hc
    · rename_i e hd
      have hu := G.lay.slice hd
      cases hx
      split at hc
      · rename_i hsz
        obtain ⟨i, z, hi0, hs, _⟩ := G.lay.info e (bltT.1 hsz)
        split at hc
        · rename_i l hh h1 h2
          split at hc
          · rename_i hb
            simp only [Bool.and_eq_true] at hb
            have e1 := eqI_iff.1 hb.1
            have e2 := eqI_iff.1 hb.2
            subst e1; subst e2
            injection hc with hc; subst hc
            have em := hmx.2 rfl; subst em
            refine ⟨.slice none 0 0, ?_, .nils⟩
            rw [run_sliceAt hu hi0 (run_sliceBounds (len := 0) (cap := 0) (endOf_some h1 hlo.1 hlo.2) (endOf_some h2 hhi.1 hhi.2) (by omega) (by omega) (by omega))]; simp
          · cases hc
        · rename_i l hh km m h1 h2
          split at hc
          · rename_i hb
            simp only [Bool.and_eq_true] at hb
            obtain ⟨⟨⟨hg, e1⟩, e2⟩, e3⟩ := hb
            have e1 := eqI_iff.1 e1
            have e2 := eqI_iff.1 e2
            have e3 := eqI_iff.1 e3
            subst e1; subst e2; subst e3
            injection hc with hc; subst hc
            obtain ⟨u, hmu, hvu⟩ := hmx.1 _ rfl
            subst hmu
            cases hvu
            refine ⟨.slice none 0 0, ?_, .nils⟩
            rw [run_sliceAt hu hi0 (run_sliceBounds3 (len := 0) (cap := 0) (endOf_some h1 hlo.1 hlo.2) (given_some' hhi hg (endOf_some h2 hhi.1 hhi.2)) (by omega) (by omega) (by omega) (by omega))]; simp
          · cases hc
        · cases hc
      · cases hc
    · cases hc
  · -- an array variable
    rename_i b row sub
    split at hc
    · rename_i n e hd
      split at hc
      · rename_i wd' cs hl
        split at hc
        · rename_i hb
          simp only [Bool.and_eq_true, Nat.blt_eq] at hb
          obtain ⟨⟨⟨⟨c1, c2⟩, c3⟩, c4⟩, c5⟩ := hb
          have c1 := Nat.eq_of_beq_eq_true c1; subst c1
          have c2 := Nat.eq_of_beq_eq_true c2; subst c2
          have c3 := Nat.eq_of_beq_eq_true c3
          have c5 := Nat.le_of_ble_eq_true c5
          split at hc
          · rename_i l hh h1 h2
            split at hc
            · rename_i hb2
              simp only [Bool.and_eq_true, Bool.not_eq_true'] at hb2
              obtain ⟨⟨o0, o1⟩, o2⟩ := hb2
              have o0 := ltI_false.1 o0
              have o1 := ltI_false.1 o1
              have o2 := ltI_false.1 o2
              injection hc with hc; subst hc
              have em := hmx.2 rfl; subst em
              cases hx with
              | ptr _ _ _ bb sh wd tot o hio ho =>
              obtain ⟨c, el, ⟨fz, g1, gz⟩, g2, g3, g4, g5, g6⟩ := hr.arr hl hio
              subst g2
              obtain ⟨i, z, hi0, hs, _⟩ := G.lay.info e (by omega)
              have hnt : n ≤ tot := Nat.le_of_mul_le_mul_right (Nat.le_trans c5 g3) c4
              have hb := run_sliceBounds (P := P) (w := w) (s := false) (len := n) (cap := n) (endOf_some h1 hlo.1 hlo.2) (endOf_some h2 hhi.1 hhi.2) o0 o1 o2
              refine ⟨.slice (some (if n = l.toNat then (⟨bb, o, none⟩ : Addr) else (⟨bb, o, none⟩ : Addr).add (l.toNat * i.size))) (hh.toNat - l.toNat) (n - l.toNat),
                by simp [Instr.sliceAt, run_underlying (G.lay.array hd), Instr.sureAddr, hb, run_sizeOf hi0, Result.andThen], ?_⟩
              by_cases hz : n = l.toNat
              · rw [if_pos hz, show hh.toNat - l.toNat = 0 by omega, show n - l.toNat = 0 by omega]
                exact .zero _ _ _ _ _ hio
              · rw [if_neg hz, addr_add]
                exact .slc _ _ _ _ bb sh wd' tot _ _ hio (by rw [ho, hs, c3]; omega) (by omega) (by omega) (by omega) (fun hh => by cases hh)
            · cases hc
          · cases hc
        · cases hc
      · cases hc
    · cases hc
  · cases hc

/-- types: what the concrete run asks of a program -/
structure GoodC (P : Program) (X : Ctx S0) : Prop where
  val : ∀ t, zok X t = true → ∃ i z, P.info? t = some i ∧ i.zero = some z ∧ i.size = X.L.size t ∧ i.bytes = X.L.bytes t ∧
    ((isAggD (X.L.ds t) = true ∧ ∃ ds : Array Value, z = .agg ds ∧ ds.toList = (X.L.row t).zero) ∨ (isAggD (X.L.ds t) = false ∧ (X.L.row t).zero = [z] ∧ z.oneCell' = true))
  eqt : ∀ t, X.isVal t = true → ∀ gs : Array Field, P.underlying t = some (.struct gs) → P.stoodInHeld t = false ∧ (∀ f ∈ gs.toList, f.name ≠ "_") ∧ P.eqGuardType P.depth t = false

theorem GoodC.cells (C : GoodC P X) {t : TypeId} (hz : zok X t = true) : ∃ i z, P.info? t = some i ∧ i.zero = some z ∧ i.size = X.L.size t ∧ i.bytes = X.L.bytes t ∧ z.cells.size = i.size ∧ VRs X E (zeroCells X t) z.cells.toList := by
  obtain ⟨i, z, h1, h2, h3, h4, h5⟩ := C.val t hz
  have hl : (zeroCells X t).length = X.L.size t := by
    simp only [zok, Bool.and_eq_true] at hz
    exact Nat.eq_of_beq_eq_true hz.2
  have hzc : z.cells.toList = (X.L.row t).zero := by
    rcases h5 with ⟨_, ds, rfl, h6⟩ | ⟨_, h6, h7⟩
    · exact h6
    · have : z.cells = #[z] := by cases z <;> simp [Value.oneCell'] at h7 <;> simp [Value.cells]
      rw [this, h6]
  refine ⟨i, z, h1, h2, h3, h4, ?_, ?_⟩
  · rw [h3, ← hl]
    have := congrArg List.length hzc
    simp only [Array.length_toList] at this
    rw [this]; simp [zeroCells]
  · rw [hzc]; exact vrs_ofCells _

theorem cbuild_sound (G : Good P X) (C : GoodC P X) {t : TypeId} {ps : Array (Nat × Operand)} {fr : Fr S0} (hf : FR X E fr a) {r : V} (hc : cbuild X t (ps.toList.map fun p => (p.1, opd fr p.2)) = some r) :
    ∃ z, (Instr.build t (ps.map fun p => (p.1, a.eval p.2))).run P w = .ok z w ∧ VR X E r z := by
  unfold cbuild at hc
  split at hc
  · cases hc
  · rename_i hz
    have hl : (zeroCells X t).length = X.L.size t := by
      have := hz
      simp only [zok, Bool.and_eq_true] at this
      exact Nat.eq_of_beq_eq_true this.2
    split at hc
    · rename_i fs hd
      split at hc
      · rename_i h0
        refine abuild_sound G hf ?_
        unfold abuild
        simp only [h0, hl, Nat.beq_refl, Bool.and_self, hd, nth_eq]
        revert hc
        generalize fillA _ _ _ = q
        intro hc
        cases q <;> exact hc
      · rename_i h0
        split at hc
        · rename_i hps
          injection hc with hc; subst hc
          have e : ps = #[] := Array.toList_inj.1 (by simpa using hps)
          subst e
          obtain ⟨i, z, h1, h2, h3, h4, h5, h6⟩ := C.cells (E := E) hz
          obtain ⟨gs, hu, hgs⟩ := G.lay.struct hd
          have hz0 : X.L.size t = 0 := by
            cases hq : X.L.size t with
            | zero => rfl
            | succ n => rw [hq] at h0; simp [Nat.blt, Nat.ble] at h0
          have hm := mapM_places G gs.toList (fun f hf => by
            have := G.lay.finfo t fs hd (f.offset, f.type) (by rw [← hgs]; exact List.mem_map.2 ⟨f, hf, rfl⟩)
            exact this)
          have hzc : z.cells = #[] := Array.size_eq_zero_iff.1 (by omega)
          refine ⟨.agg #[], run_build w t _ #[] ?_, vr_agg_mk VRs.nil⟩
          unfold Program.built
          simp only [h1, hu, h2, hm, hzc]
          simp [Instr.fill]
        · cases hc
    · rename_i n e hd
      split at hc
      · rename_i hse
        have hse' := bltT.1 hse
        obtain ⟨i, z, h1, h2, h3, h4, h5, h6⟩ := C.cells (E := E) hz
        obtain ⟨ie, ze, hie, hes, _⟩ := G.lay.info e hse'
        split at hc
        · rename_i cs hcs
          injection hc with hc; subst hc
          obtain ⟨out, o1, o2⟩ := fill_sound _ _ _ hcs z.cells _ h6 (parts_fst fr a ps) (parts_vr hf ps)
          refine ⟨.agg out, run_build w t _ out ?_, vr_agg_mk o2⟩
          unfold Program.built
          simp only [h1, G.lay.array hd, h2, hie, hes, o1]
        · cases hc
      · cases hc
    · cases hc

theorem MR.cons_inv {p : V × V} {es} {ms : List MapEntry} (h : MR X E (p :: es) ms) : ∃ m r, ms = m :: r ∧ VR X E p.1 m.key ∧ VR X E p.2 m.val ∧ MR X E es r := by
  obtain ⟨h1, h2⟩ := h
  cases ms with
  | nil => simp at h1
  | cons m r =>
    have := h2 0 p m rfl rfl
    exact ⟨m, r, rfl, this.1, this.2, by simpa using h1, fun i q n hq hn => h2 (i + 1) q n (by simpa using hq) (by simpa using hn)⟩
theorem sameKey_iff {k : TypeId} {key key' : V} {u v : Value} (h : fits X k key = true) (h' : fits X k key' = true) (hu : VR X E key u) (hv : VR X E key' v) : sameKey key' key = true ↔ v = u := by
  unfold fits at h h'
  split at h
  · rename_i kd hd
    rw [hd] at h'
    split at h
    · simp only [decide_eq_true_eq] at h; subst h
      simp only at h'
      split at h'
      · simp only [decide_eq_true_eq] at h'; subst h'
        cases hu; cases hv; simp [sameKey, eqI_iff]
      · cases h'
    · cases h
  · rename_i hd
    rw [hd] at h'
    split at h
    · simp only at h'
      split at h'
      · cases hu; cases hv; simp [sameKey, eqS_iff]
      · cases h'
    · cases h
  · cases h
theorem cfind_side {k : TypeId} {d : TypeDesc} {key : V} {u : Value} (G : Good P X) (hkd : P.underlying k = some d) (hf : fits X k key = true) (hu : VR X E key u) (hd : MapKept.IsKey d u) (y : V) :
    ∀ (es : List (V × V)) (ms : List MapEntry) (i : Nat), MR X E es ms → (∀ p ∈ es, fits X k p.1 = true) →
    (Instr.findNow d u ms i = some none ∧ cget key es = none ∧ cset key y es = es ++ [(key, y)]) ∨
    ∃ j m p, Instr.findNow d u ms i = some (some (i + j, m.val)) ∧ ms[j]? = some m ∧ m.key = u ∧ es[j]? = some p ∧ cget key es = some p.2 ∧ VR X E p.2 m.val ∧ VR X E p.1 u ∧ cset key y es = es.set j (p.1, y)
  | [], ms, i, h, _ => by
    have : ms = [] := List.eq_nil_of_length_eq_zero h.1
    subst this
    exact .inl ⟨rfl, rfl, rfl⟩
  | p :: es, ms, i, h, hk => by
    obtain ⟨m, r, rfl, h1, h2, h3⟩ := h.cons_inv
    have hkm : MapKept.IsKey d m.key := by
      obtain ⟨d', q1, q2⟩ := fits_key G (hk p (by simp)) h1
      rw [hkd] at q1; injection q1 with q1; subst q1; exact q2
    obtain ⟨b, hb, hiff⟩ := MapKept.sameNow_of_keys hd hkm
    have s1 := sameKey_iff hf (hk p (by simp)) hu h1
    cases b with
    | true =>
      have e1 : u = m.key := hiff.1 rfl
      exact .inr ⟨0, m, p, by simp [Instr.findNow, hb], rfl, e1.symm, rfl, by simp [cget, s1.2 e1.symm], h2, by rw [e1]; exact h1, by simp [cset, s1.2 e1.symm]⟩
    | false =>
      have hne : ¬ m.key = u := fun q => by have := hiff.2 q.symm; cases this
      have n1 : sameKey p.1 key = false := by cases hc : sameKey p.1 key with | false => rfl | true => exact absurd (s1.1 hc) hne
      rcases cfind_side G hkd hf hu hd y es r (i + 1) h3 (fun q hq => hk q (by simp [hq])) with ⟨q1, q2, q3⟩ | ⟨j, m', p', q1, q2, q3, q4, q5, q6, q7, q8⟩
      · exact .inl ⟨by simp [Instr.findNow, hb, q1], by simp [cget, n1, q2], by simp [cset, n1, q3]⟩
      · exact .inr ⟨j + 1, m', p', by simp [Instr.findNow, hb, q1]; omega, by simpa using q2, q3, by simpa using q4, by simp [cget, n1, q5], q6, q7, by simp [cset, n1, q8]⟩

theorem zeroOf_sound (C : GoodC P X) {t : TypeId} {v : V} (hz : zeroOf X t = some v) : ∃ i z, P.info? t = some i ∧ i.zero = some z ∧ VR X E v z := by
  unfold zeroOf at hz
  split at hz
  · cases hz
  · rename_i ho
    obtain ⟨i, z, h1, h2, h3, h4, h5⟩ := C.val t ho
    refine ⟨i, z, h1, h2, ?_⟩
    rcases h5 with ⟨ha, ds, rfl, h6⟩ | ⟨ha, h6, h7⟩
    · rw [ha] at hz
      injection hz with hz; subst hz
      exact vr_agg_mk (by rw [h6]; exact vrs_ofCells _)
    · rw [ha] at hz
      simp only [zeroCells, h6, List.map_cons, List.map_nil, Option.some.injEq] at hz
      subst hz
      exact vr_ofCell z

theorem CH.mp (hr : CH X E (hp h) w) {l b sh wd tot : Nat} {k e : TypeId} {es : List (V × V)} (hl : h.get .dead l = .mp k e es) (hio : E.io l = some (.at b sh wd tot)) :
    ∃ ms clock, w.heap[b]? = some (.map ms clock) ∧ MR X E es ms.toList ∧ ∀ p ∈ es, fits X k p.1 = true := by
  have hd : hp h l ≠ .dead := by show h.get .dead l ≠ .dead; rw [hl]; simp
  have hb := hr.at hio hd
  have e : hp h l = .mp k e es := hl
  rw [e] at hb
  exact hb

theorem checkKey_pair {k e : TypeId} {kd k1 k2 : IntKind} {a b : Int} {empty : Bool} (hk : P.underlying k = some (.array 2 e)) (he : P.underlying e = some (.int kd)) {i : TypeInfo} (hi : P.info? e = some i) (hs : i.size = 1) (w : World) :
    (Instr.checkKey empty 10000 k (.agg #[.int k1 a, .int k2 b])).run P w = .ok () w := by
  have q : ∀ n (kk : IntKind) (x : Int), (Instr.checkKey empty (n + 1) e (.int kk x)).run P w = .ok () w := fun n kk x => by
    unfold Instr.checkKey
    simp [run_underlying he]
  have ag : (isAgg e).run P w = .ok false w := by simp [isAgg, run_underlying he]
  have sz : (Go.sizeOf e).run P w = .ok 1 w := by rw [run_sizeOf hi, hs]
  have p0 : (part e #[.int k1 a, .int k2 b] 0).run P w = .ok (.int k1 a) w := by simp [part, ag]
  have p1 : (part e #[.int k1 a, .int k2 b] 1).run P w = .ok (.int k2 b) w := by simp [part, ag]
  unfold Instr.checkKey
  simp [run_underlying hk, sz, p0, p1, q 9998 k1 a, q 9998 k2 b, Std.Legacy.Range.forIn_eq_forIn_range', List.range', List.forIn_cons, Std.Legacy.Range.size]
theorem clookup0_sound (G : Good P X) (C : GoodC P X) (hr : CH X E (hp h) w) {t k e : TypeId} (hd : X.L.ds t = .map k e) {m key : V} {ok : Bool} {r : V} (hc : clookup0 X k e m key ok h = some r) {mv u : Value} (hm : VR X E m mv) (hu : VR X E key u) :
    ∃ z, (Instr.lookup t mv u ok).run P w = .ok z w ∧ VR X E r z := by
  unfold clookup0 at hc
  have hmd := G.lay.map hd
  split at hc
  · rename_i hf
    unfold fits2 at hf
    split at hf
    · rename_i e2 hk2
      split at hf
      · rename_i kd hkd
        simp only [Bool.and_eq_true] at hf
        obtain ⟨hs1, hf⟩ := hf
        have hs1 := Nat.eq_of_beq_eq_true hs1
        split at hf
        · rename_i k1 a k2 b
          obtain ⟨i2, z2, hi2, hsz2, _⟩ := G.lay.info e2 (by rw [hs1]; exact Nat.one_pos)
          have hu2 : u = .agg #[.int k1 a, .int k2 b] := by
            cases hu with
            | agg cs ds hl hx =>
              obtain ⟨l⟩ := ds
              match l, hl with
              | [x, y], _ =>
                have q0 := hx 0 _ x rfl rfl
                have q1 := hx 1 _ y rfl rfl
                cases q0; cases q1; rfl
          subst hu2
          have hck : ∀ em, (Instr.checkKey em 10000 k (.agg #[.int k1 a, .int k2 b])).run P w = .ok () w := fun em => checkKey_pair (G.lay.array hk2) (G.lay.int hkd) hi2 (by rw [hsz2, hs1]) w
          have hfk : (Instr.findKey k (.agg #[.int k1 a, .int k2 b]) []).run P w = .ok none w := by simp [Instr.findKey, run_underlying (G.lay.array hk2), Instr.findNow]
          have out : ∀ {v : V} {x : Value} {b : Bool}, VR X E v x → VR X E (outC ok v b) (if ok then .tuple #[x, .bool b] else x) := by
            intro v x b hv
            cases ok with
            | false => exact hv
            | true => exact vr_tup_mk (VRs.cons hv (VRs.cons (.bool b) VRs.nil))
          split at hc
          · rename_i z0 hz0
            obtain ⟨i, z, hi, hz, hzv⟩ := zeroOf_sound (E := E) C hz0
            split at hc
            · rename_i l
              split at hc
              · rename_i k' e' hl
                split at hc
                · rename_i he
                  injection hc with hc; subst hc
                  cases hm with
                  | map _ b' sh wd tot hio =>
                  obtain ⟨ms, clock, hg, hrow, hfk'⟩ := hr.mp hl hio
                  have hms : ms = #[] := by
                    have := hrow.1
                    exact Array.eq_empty_of_size_eq_zero (by simpa using this)
                  subst hms
                  exact ⟨if ok then .tuple #[z, .bool false] else z, by simp [Instr.lookup, run_underlying hmd, MapKept.run_getObj_map hg, hck, hfk, run_zeroValue hi hz, Result.andThen], out hzv⟩
                · cases hc
              · cases hc
            · injection hc with hc; subst hc
              cases hm
              exact ⟨if ok then .tuple #[z, .bool false] else z, by simp [Instr.lookup, run_underlying hmd, hck, hfk, run_zeroValue hi hz, Result.andThen], out hzv⟩
            · cases hc
          · cases hc
        · cases hf
      · cases hf
    · cases hf
  · cases hc

theorem clookup_sound (G : Good P X) (C : GoodC P X) (hr : CH X E (hp h) w) {t : TypeId} {m key : V} {ok : Bool} {r : V} (hc : clookup X t m key ok h = some r) {mv u : Value} (hm : VR X E m mv) (hu : VR X E key u) :
    ∃ z, (Instr.lookup t mv u ok).run P w = .ok z w ∧ VR X E r z := by
  unfold clookup at hc
  split at hc
  · rename_i k e hd
    split at hc
    · rename_i c3
      obtain ⟨d, hkd, hku⟩ := fits_key G c3 hu
      have hmd := G.lay.map hd
      have out : ∀ {v : V} {x : Value} {b : Bool}, VR X E v x → VR X E (outC ok v b) (if ok then .tuple #[x, .bool b] else x) := by
        intro v x b hv
        cases ok with
        | false => exact hv
        | true => exact vr_tup_mk (VRs.cons hv (VRs.cons (.bool b) VRs.nil))
      split at hc
      · rename_i z0 hz0
        obtain ⟨i, z, hi, hz, hzv⟩ := zeroOf_sound (E := E) C hz0
        split at hc
        · rename_i l
          split at hc
          · rename_i k' e' es hl
            split at hc
            · rename_i he
              have he := Nat.eq_of_beq_eq_true he; subst he
              cases hm with
              | map _ b sh wd tot hio =>
              obtain ⟨ms, clock, hg, hrow, hfk⟩ := hr.mp hl hio
              rcases cfind_side G hkd c3 hu hku key es ms.toList 0 hrow hfk with ⟨q1, q2, _⟩ | ⟨j, m, p, q1, q2, q3, q4, q5, q6, q7, _⟩
              · rw [q2] at hc
                injection hc with hc; subst hc
                exact ⟨if ok then .tuple #[z, .bool false] else z, by simp [Instr.lookup, run_underlying hmd, MapKept.run_getObj_map hg, MapKept.run_checkKey hkd hku, MapKept.run_findKey hkd q1, run_zeroValue hi hz, Result.andThen], out hzv⟩
              · rw [q5] at hc
                injection hc with hc; subst hc
                exact ⟨if ok then .tuple #[m.val, .bool true] else m.val, by simp [Instr.lookup, run_underlying hmd, MapKept.run_getObj_map hg, MapKept.run_checkKey hkd hku, MapKept.run_findKey hkd q1, Result.andThen], out q6⟩
            · cases hc
          · cases hc
        · injection hc with hc; subst hc
          cases hm
          have q1 : Instr.findNow d u ([] : List MapEntry) 0 = some none := rfl
          exact ⟨if ok then .tuple #[z, .bool false] else z, by simp [Instr.lookup, run_underlying hmd, MapKept.run_checkKey hkd hku, MapKept.run_findKey hkd q1, run_zeroValue hi hz, Result.andThen], out hzv⟩
        · cases hc
      · cases hc
    · exact clookup0_sound G C hr hd hc hm hu
  · cases hc

theorem lenV_sound (G : Good P X) (hr : CH X E (hp h) w) {t ty : TypeId} {x r : V} (hc : lenV X t x h = some r) {u : Value} (hx : VR X E x u) : ∃ z, (Builtin.len_ #[t] ty #[u]).run P w = .ok z w ∧ VR X E r z := by
  unfold lenV at hc
  split at hc
  · rename_i n e hd
    injection hc with hc; subst hc
    exact ⟨_, by simp [Builtin.len_, run_underlying (G.lay.array hd), goInt], .int _ _⟩
  · rename_i hd
    split at hc
    · injection hc with hc; subst hc
      cases hx
      exact ⟨_, by simp [Builtin.len_, run_underlying (G.lay.str hd), goInt], .int _ _⟩
    · cases hc
  · rename_i e hd
    split at hc
    · rename_i n hn
      injection hc with hc; subst hc
      obtain ⟨aa, c, rfl⟩ := lenS_sound hn hx
      exact ⟨_, by simp [Builtin.len_, run_underlying (G.lay.slice hd), goInt], .int _ _⟩
    · cases hc
  · rename_i k e hd
    have hmd := G.lay.map hd
    split at hc
    · rename_i l
      split at hc
      · rename_i k' e' es hl
        injection hc with hc; subst hc
        cases hx with
        | map _ b sh wd tot hio =>
        obtain ⟨ms, clock, hg, hrow, _⟩ := hr.mp hl hio
        exact ⟨.int .i64 ms.size, by simp [Builtin.len_, run_underlying hmd, MapKept.run_getObj_map hg, goInt, Result.andThen], by rw [← hrow.1]; simpa using VR.int _ _⟩
      · cases hc
    · injection hc with hc; subst hc
      cases hx
      exact ⟨_, by simp [Builtin.len_, run_underlying hmd, goInt, Result.andThen], .int _ _⟩
    · cases hc
  · cases hc

theorem bytesOf_sound : ∀ (cs : List V) (s : List UInt8) (us : List Value), bytesOf cs = some s → VRs X E cs us → ∃ ks : List Int, us = ks.map (Value.int .u8) ∧ s = ks.map fun n => UInt8.ofNat n.toNat
  | [], s, us, h, hv => by
    injection h with h; subst h
    have := hv.inv_nil; subst this
    exact ⟨[], rfl, rfl⟩
  | a :: r, s, us, h, hv => by
    cases a <;> first | (simp only [bytesOf, reduceCtorEq] at h; done) | skip
    rename_i k n
    cases k <;> first | (simp only [bytesOf, reduceCtorEq] at h; done) | skip
    obtain ⟨u, us', rfl, h1, h2⟩ := hv.inv_cons
    simp only [bytesOf] at h
    split at h
    · rename_i s' hs
      injection h with h; subst h
      cases h1
      obtain ⟨ks, q1, q2⟩ := bytesOf_sound _ _ us' hs h2
      exact ⟨n :: ks, by simp [q1], by simp [q2]⟩
    · cases h
theorem push_all : ∀ (ks : List Int) (r : ByteArray), ks.foldl (fun r n => r.push (UInt8.ofNat n.toNat)) r = ⟨⟨r.data.toList ++ ks.map fun n => UInt8.ofNat n.toNat⟩⟩
  | [], r => by obtain ⟨⟨l⟩⟩ := r; simp
  | k :: ks, r => by
    rw [List.foldl_cons, push_all ks]
    simp [ByteArray.data_push]

theorem cconvert_sound (G : Good P X) (hr : CH X E (hp h) w) {src dst : TypeId} {x r : V} (hc : cconvert X src dst x h = some r) {u : Value} (hx : VR X E x u) : ∃ z, (convert src dst u).run P w = .ok z w ∧ VR X E r z := by
  unfold cconvert at hc
  split at hc
  · rename_i k hd
    split at hc
    · rename_i ks n
      split at hc
      · cases hc
      · rename_i ho
        injection hc with hc; subst hc
        exact aconvert_sound G (by simp only [aconvert, ho, hd, cw_eq]) hx
    · cases hc
  · rename_i hd
    split at hc
    · rename_i hs
      split at hc
      · injection hc with hc; subst hc
        exact aconvert_sound G (by simp only [aconvert, hs, hd, isOther]) hx
      · cases hc
    · rename_i e hs
      split at hc
      · rename_i he
        split at hc
        · rename_i l off len cl
          split at hc
          · rename_i wd' cs hl
            split at hc
            · rename_i hw1
              split at hc
              · rename_i s hbs
                injection hc with hc; subst hc
                simp only [Bool.and_eq_true] at hw1
                obtain ⟨⟨w1, w2⟩, w3⟩ := hw1
                have w1 := Nat.eq_of_beq_eq_true w1; subst w1
                have w2 := Nat.eq_of_beq_eq_true w2
                have w3 := Nat.le_of_ble_eq_true w3
                have hempty : ∀ {aa : Option Addr}, len = 0 → (convert src dst (.slice aa 0 0)).run P w = .ok (.string ⟨⟨s⟩⟩) w := by
                  intro aa h0
                  subst h0
                  simp only [List.take_zero, bytesOf, Option.some.injEq] at hbs
                  subst hbs
                  rw [run_convert_bytes_string w src dst e aa 0 0 (G.lay.slice hs) (G.lay.int he) (G.lay.str hd)]
                  cases aa with
                  | none => simp [Conv.bytesToString]; rfl
                  | some ad => rw [run_bytesToString w ad 0 0 [] (by simp [loadCells, loadCellsFrom])]; rfl
                cases hx with
                | void0 => exact ⟨_, hempty rfl, .str _⟩
                | zero => exact ⟨_, hempty rfl, .str _⟩
                | slc _ _ _ _ b sh wd tot o cap hio ho h3 h4 h5 h6 =>
                  obtain ⟨c, el, ⟨fz, g1, gz⟩, g2, g3, g4, g5, g6⟩ := hr.arr hl hio
                  subst g2
                  have g7 := (g6.drop off).take len
                  obtain ⟨ks, k1, k2⟩ := bytesOf_sound _ _ _ hbs g7
                  subst k2
                  have hlk : ks.length = len := by
                    have := congrArg List.length k1
                    simp only [List.length_map] at this
                    rw [← this, ← g7.1]; simp; omega
                  have hseg := seg_get (w := w) (off := o) (n := len) g1
                  have hnews : (c.toList.drop o).take len = ks.map (Value.int .u8) := by
                    rw [← k1, List.drop_take, List.take_take, List.drop_drop, ho]
                    rw [show min len (cs.length - off) = len by omega, Nat.mul_one]
                  refine ⟨.string ⟨⟨ks.map fun n => UInt8.ofNat n.toNat⟩⟩, ?_, .str _⟩
                  rw [run_convert_bytes_string w src dst e (some ⟨b, o, none⟩) len cap (G.lay.slice hs) (G.lay.int he) (G.lay.str hd)]
                  have hload : (loadCells ⟨b, o, none⟩ len).run P w = .ok (ks.map (Value.int .u8)).toArray w := by
                    have := run_loadCells_list (P := P) w ⟨b, o, none⟩ (ks.map (Value.int .u8)) (by rw [← hnews]; exact hseg)
                    rw [List.length_map, hlk] at this
                    exact this
                  rw [run_bytesToString w ⟨b, o, none⟩ len cap _ hload, push_all]
                  rfl
              · cases hc
            · cases hc
          · cases hc
        · injection hc with hc; subst hc
          cases hx
          refine ⟨.string ⟨⟨[]⟩⟩, ?_, .str _⟩
          rw [run_convert_bytes_string w src dst e none 0 0 (G.lay.slice hs) (G.lay.int he) (G.lay.str hd)]
          simp [Conv.bytesToString]
          rfl
        · cases hc
      · cases hc
    · cases hc
  · cases hc

theorem cnil_sound (G : Good P X) (hr : CH X E g w) {t : TypeId} {x y : V} {xo yo : Operand} {b : Bool} (hc : cnil X t x y (isConst yo) = some b) {u v : Value} (hx : VR X E x u) (hy : VR X E y v) (op : BinOp) :
    (Op.equal t u v).run P w = .ok b w ∧ (eqGuard op t xo yo u v).run P w = .ok () w ∧ (∀ k a, u ≠ .int k a) ∧ (∀ s, u ≠ .string s) ∧ ((∃ aa l c, u = .slice aa l c) ∨ (∃ t v, u = .iface t v) ∨ u = .nilIface ∨ u = .nilFunc ∨ (∃ f a b, u = .func f a b) ∨ ∃ p, u = .map p) := by
  unfold cnil at hc
  split at hc
  · rename_i e hd
    split at hc
    · split at hc
      · injection hc with hc; subst hc
        cases hy
        have : ∃ ad l c, u = .slice (some ad) l c := by
          cases hx with
          | slc => exact ⟨_, _, _, rfl⟩
          | void0 _ _ _ hio => exact absurd hio (hr.nv _)
          | zero => exact ⟨_, _, _, rfl⟩
        obtain ⟨ad, l, c, rfl⟩ := this
        refine ⟨run_equal fun d => by simp [Op.equalIn, run_underlying (G.lay.slice hd)], by simp [eqGuard], by simp, by simp, .inl ⟨_, _, _, rfl⟩⟩
      · cases hc
    · cases hc
  · rename_i hd
    have hu : ∃ ms, P.underlying t = some (.interface ms) := by
      rcases G.lay.ds t with h' | h'
      · rw [hd] at h'; cases h'
      · rw [hd] at h'
        cases hu : P.underlying t with
        | none => rw [hu] at h'; cases h'
        | some d => rw [hu] at h'; cases d <;> simp [Ds.of] at h'; exact ⟨_, rfl⟩
    obtain ⟨ms, hu⟩ := hu
    split at hc
    · split at hc
      · injection hc with hc; subst hc
        cases hy; cases hx
        refine ⟨run_equal fun d => by simp [Op.equalIn, run_underlying hu], ?_, by simp, by simp, .inr (.inl ⟨_, _, rfl⟩)⟩
        cases op <;> simp [eqGuard]
      · split at hc
        · rename_i hlit
          injection hc with hc; subst hc
          cases hy; cases hx
          refine ⟨run_equal fun d => by simp [Op.equalIn, run_underlying hu], ?_, by simp, by simp, .inr (.inr (.inl rfl))⟩
          cases yo <;> simp [isConst] at hlit
          cases op <;> simp [eqGuard]
        · cases hc
      · cases hc
    · cases hc
  · rename_i hd
    have hu : ∃ a b c, P.underlying t = some (.func a b c) := by
      rcases G.lay.ds t with h' | h'
      · rw [hd] at h'; cases h'
      · rw [hd] at h'
        cases hu : P.underlying t with
        | none => rw [hu] at h'; cases h'
        | some d => rw [hu] at h'; cases d <;> simp [Ds.of] at h'; exact ⟨_, _, _, rfl⟩
    obtain ⟨_, _, _, hu⟩ := hu
    split at hc
    · split at hc
      · injection hc with hc; subst hc
        cases hy; cases hx
        refine ⟨run_equal fun d => by simp [Op.equalIn, run_underlying hu], by simp [eqGuard], by simp, by simp, .inr (.inr (.inr (.inr (.inl ⟨_, _, _, rfl⟩))))⟩
      · injection hc with hc; subst hc
        cases hy; cases hx
        refine ⟨run_equal fun d => by simp [Op.equalIn, run_underlying hu], by simp [eqGuard], by simp, by simp, .inr (.inr (.inr (.inl rfl)))⟩
      · cases hc
    · cases hc
  · rename_i k e hd
    have hu := G.lay.map hd
    split at hc
    · split at hc
      · injection hc with hc; subst hc
        cases hy; cases hx
        refine ⟨run_equal fun d => by simp [Op.equalIn, run_underlying hu], by simp [eqGuard], by simp, by simp, .inr (.inr (.inr (.inr (.inr ⟨_, rfl⟩))))⟩
      · injection hc with hc; subst hc
        cases hy; cases hx
        refine ⟨run_equal fun d => by simp [Op.equalIn, run_underlying hu], by simp [eqGuard], by simp, by simp, .inr (.inr (.inr (.inr (.inr ⟨_, rfl⟩))))⟩
      · cases hc
    · cases hc
  · cases hc

theorem eq1_sound (G : Good P X) {ft : TypeId} {u v : V} {b : Bool} (hc : eq1 (X.L.ds ft) u v = some b) {x y : Value} (hx : VR X E u x) (hy : VR X E v y) (d : Nat) :
    (Op.equalIn (d + 1) ft x y).run P w = .ok b w ∧ (isAgg ft).run P w = .ok false w := by
  unfold eq1 at hc
  split at hc
  · rename_i k hd
    have hag : (isAgg ft).run P w = .ok false w := G.lay.notAgg (by rw [hd]; rfl) (by rw [hd]; rfl)
    split at hc
    · split at hc
      · split at hc
        · rename_i hk
          have hk := of_decide_eq_true hk
          subst hk
          injection hc with hc; subst hc
          cases hx; cases hy
          refine ⟨?_, hag⟩
          rw [run_equalIn_int w d ft _ _ _ _ (G.lay.int hd)]
          congr 1
          rw [Bool.eq_iff_iff, beq_iff_eq, eqI_iff]
        · cases hc
      · cases hc
    · cases hc
  · rename_i hd
    have hag : (isAgg ft).run P w = .ok false w := G.lay.notAgg (by rw [hd]; rfl) (by rw [hd]; rfl)
    split at hc
    · split at hc
      · injection hc with hc; subst hc
        cases hx; cases hy
        refine ⟨?_, hag⟩
        rw [run_equalIn_string w d ft _ _ (G.lay.str hd)]
        congr 1
        rw [Bool.eq_iff_iff, eqS_iff, beq_iff_eq, ByteArray.toList_eq, ByteArray.toList_eq]
        exact ⟨fun h => ByteArray.ext (Array.ext' h), fun h => by rw [h]⟩
      · cases hc
    · cases hc
  · cases hc
theorem eqFlat_sound (G : Good P X) (d : Nat) {xs ys : Array Value} : ∀ (gs : List Field) (k : Nat) (cs cs' : List V) (b : Bool), eqFlat X (gs.map fun f => (f.offset, f.type)) k cs cs' = some b → (∀ f ∈ gs, f.name ≠ "_") →
    VRs X E cs (xs.toList.drop k) → VRs X E cs' (ys.toList.drop k) → (Op.eqFields (d + 1) xs ys gs).run P w = .ok b w
  | [], k, cs, cs', b, hc, _, _, _ => by
    injection hc with hc; subst hc; rfl
  | f :: gs, k, [], cs', b, hc, _, _, _ => by cases hc
  | f :: gs, k, u :: cs, [], b, hc, _, _, _ => by cases hc
  | f :: gs, k, u :: cs, v :: cs', b, hc, hn, hx, hy => by
    have hc : (match Nat.beq f.offset k with
      | true => match eq1 (X.L.ds f.type) u v with
        | some e => match eqFlat X (gs.map fun f => (f.offset, f.type)) (Nat.succ k) cs cs' with
          | some r => some (e && r)
          | none => none
        | none => none
      | false => none) = some b := hc
    cases ho : Nat.beq f.offset k with
    | false => rw [ho] at hc; cases hc
    | true =>
    rw [ho] at hc
    have ho := Nat.eq_of_beq_eq_true ho
    cases h1 : eq1 (X.L.ds f.type) u v with
    | none => rw [h1] at hc; cases hc
    | some e =>
    rw [h1] at hc
    cases h2 : eqFlat X (gs.map fun f => (f.offset, f.type)) (Nat.succ k) cs cs' with
    | none => rw [h2] at hc; cases hc
    | some r =>
    rw [h2] at hc
    have hb : (e && r) = b := by simpa using hc
    obtain ⟨x, rx, ex, hxu, hxr⟩ := hx.inv_cons
    obtain ⟨y, ry, ey, hyu, hyr⟩ := hy.inv_cons
    have gx : xs[k]? = some x := by
      have : (xs.toList.drop k)[0]? = some x := by rw [ex]; rfl
      rw [List.getElem?_drop] at this; simpa using this
    have gy : ys[k]? = some y := by
      have : (ys.toList.drop k)[0]? = some y := by rw [ey]; rfl
      rw [List.getElem?_drop] at this; simpa using this
    have dx : xs.toList.drop (k + 1) = rx := by
      rw [← List.drop_drop, ex]; rfl
    have dy : ys.toList.drop (k + 1) = ry := by
      rw [← List.drop_drop, ey]; rfl
    obtain ⟨q1, q2⟩ := eq1_sound (P := P) (w := w) G h1 hxu hyu d
    have ih := eqFlat_sound G d gs (k + 1) cs cs' r h2 (fun f hf => hn f (by simp [hf])) (by rw [dx]; exact hxr) (by rw [dy]; exact hyr)
    have px : (part f.type xs f.offset).run P w = .ok x w := by rw [ho]; simp [part, q2, gx]
    have py : (part f.type ys f.offset).run P w = .ok y w := by rw [ho]; simp [part, q2, gy]
    unfold Op.eqFields
    rw [if_pos (hn f (by simp))]
    simp only [Sem.run_bind, px, py, q1, Result.andThen_ok]
    cases e with
    | true => simp only [Bool.not_true, Bool.false_eq_true, if_false]; rw [ih, ← hb]; rfl
    | false => simp only [Bool.not_false, if_true, Sem.run_pure]; rw [← hb]; rfl
theorem cagg_sound (G : Good P X) (C : GoodC P X) {t : TypeId} {x y : V} {b : Bool} (hc : cagg X t x y = some b) {u v : Value} (hx : VR X E x u) (hy : VR X E y v) (op : BinOp) (xo yo : Operand) :
    (Op.equal t u v).run P w = .ok b w ∧ (eqGuard op t xo yo u v).run P w = .ok () w ∧ ∃ ds ds', u = .agg ds ∧ v = .agg ds' := by
  unfold cagg at hc
  split at hc
  · split at hc
    · split at hc
      · rename_i hv
        split at hc
        · rename_i fs hd
          obtain ⟨ds, rfl, hds⟩ := vr_agg hx
          obtain ⟨ds', rfl, hds'⟩ := vr_agg hy
          obtain ⟨gs, hu, hgs⟩ := G.lay.struct hd
          obtain ⟨e1, e2, e3⟩ := C.eqt t hv gs hu
          have hf : P.fieldsOf t = gs := by simp [Program.fieldsOf, hu]
          refine ⟨?_, ?_, ds, ds', rfl, rfl⟩
          · show (Op.equalIn (9999 + 1) t (.agg ds) (.agg ds')).run P w = _
            rw [run_equalIn_struct w 9999 t ds ds' (by rw [hf]; exact hu) e1, hf]
            exact eqFlat_sound G 9998 gs.toList 0 _ _ b (by rw [hgs]; exact hc) e2 hds hds'
          · cases op <;> simp [eqGuard, program, Sem.run, e3]
        · cases hc
      · cases hc
    · cases hc
  · cases hc
theorem ceq_sound (G : Good P X) (C : GoodC P X) (hr : CH X E g w) {op : BinOp} {t : TypeId} {x y r : V} {xo yo : Operand} (hc : ceq X op t x y (isConst yo) = some r) {u v : Value} (hx : VR X E x u) (hy : VR X E y v) :
    ∃ z, ((do eqGuard op t xo yo u v; binOp op t u v) : Sem Value).run P w = .ok z w ∧ VR X E r z := by
  unfold ceq at hc
  split at hc
  · rename_i v' hb
    injection hc with hc; subst hc
    obtain ⟨p, h1, h2⟩ := cbin_abin hb
    exact abin_sound G h1 h2 hx hy xo yo
  · split at hc
    · rename_i b hn
      have key : (Op.equal t u v).run P w = .ok b w ∧ (eqGuard op t xo yo u v).run P w = .ok () w ∧ (((∃ aa l c, u = .slice aa l c) ∨ (∃ t v, u = .iface t v) ∨ u = .nilIface ∨ u = .nilFunc ∨ (∃ f a b, u = .func f a b) ∨ ∃ p, u = .map p) ∨ ∃ ds ds', u = .agg ds ∧ v = .agg ds') := by
        unfold ctest at hn
        split at hn
        · rename_i b' hn'
          injection hn with hn; subst hn
          obtain ⟨q1, q2, q3, q4, q5⟩ := cnil_sound (P := P) (xo := xo) G hr hn' hx hy op
          exact ⟨q1, q2, .inl q5⟩
        · obtain ⟨q1, q2, q3⟩ := cagg_sound (P := P) (w := w) G C hn hx hy op xo yo
          exact ⟨q1, q2, .inr q3⟩
      obtain ⟨q1, q2, q5⟩ := key
      split at hc
      · injection hc with hc; subst hc
        refine ⟨.bool b, ?_, .bool b⟩
        have : (binOp .eql t u v).run P w = .ok (.bool b) w := by
          rcases q5 with (⟨_, _, _, rfl⟩ | ⟨_, _, rfl⟩ | rfl | rfl | ⟨_, _, _, rfl⟩ | ⟨_, rfl⟩) | ⟨_, _, rfl, rfl⟩ <;> simp [binOp, q1]
        simp [q2, this]
      · injection hc with hc; subst hc
        refine ⟨.bool (!b), ?_, .bool _⟩
        have : (binOp .neq t u v).run P w = .ok (.bool (!b)) w := by
          rcases q5 with (⟨_, _, _, rfl⟩ | ⟨_, _, rfl⟩ | rfl | rfl | ⟨_, _, _, rfl⟩ | ⟨_, rfl⟩) | ⟨_, _, rfl, rfl⟩ <;> simp [binOp, q1]
        simp [q2, this]
      · cases hc
    · cases hc

theorem map_copd (fr : Tr V) (l : List Operand) : l.map (copd fr) = l.map (opd (fn fr)) := List.map_congr_left fun x _ => (opd_fn fr x).symm
theorem optR_copd {x : Option Operand} (hf : FR X E (fn fr) a) : OptR X E (x.map (copd fr)) (x.map a.eval) := by
  have := OptR.map (x := x) hf
  have e : x.map (opd (fn fr)) = x.map (copd fr) := by cases x <;> simp [opd_fn]
  rw [e] at this; exact this

/-- AN OPERATION THAT COMPUTES OR READS -/
theorem cq_sound (G : Good P X) (C : GoodC P X) {o : Oper} {r : V} (hc : cq X fr h o.op = some r) (hf : FR X E (fn fr) a) (hr : CH X E (hp h) w) : ∃ u, (execOp a.eval o).run P w = .ok (.value u) w ∧ VR X E r u := by
  have lift : ∀ {s : Sem Value}, (∃ u, s.run P w = .ok u w ∧ VR X E r u) → execOp a.eval o = (do pure (.value (← s)) : Sem Next) → ∃ u, (execOp a.eval o).run P w = .ok (.value u) w ∧ VR X E r u := by
    intro s ⟨u, h1, h2⟩ he
    exact ⟨u, by rw [he]; simp [h1], h2⟩
  have op : ∀ x, VR X E (copd fr x) (a.eval x) := fun x => by rw [← opd_fn]; exact vr_opd hf x
  unfold cq at hc
  split at hc
  · rename_i x ho
    injection hc with hc; subst hc
    exact ⟨_, by simp [execOp, ho], op x⟩
  · rename_i x ho
    injection hc with hc; subst hc
    exact ⟨_, by simp [execOp, ho], op x⟩
  · rename_i c x y ho
    split at hc
    · rename_i hb
      have hb := oB_spec hb
      have e := vr_isB (op c) hb.1
      rw [hb.2] at e
      injection hc with hc; subst hc
      exact ⟨_, by simp [execOp, ho, e, asBool], op x⟩
    · rename_i hb
      have hb := oB_spec hb
      have e := vr_isB (op c) hb.1
      rw [hb.2] at e
      injection hc with hc; subst hc
      exact ⟨_, by simp [execOp, ho, e, asBool], op y⟩
    · cases hc
  · rename_i t ps ho
    have e : (ps.toList.map fun p => (p.1, copd fr p.2)) = ps.toList.map fun p => (p.1, opd (fn fr) p.2) := by simp only [opd_fn]
    rw [e] at hc
    exact lift (cbuild_sound G C hf hc) (by simp only [execOp, ho])
  · rename_i t x ho
    exact lift (cload_sound G hr hc (op x)) (by simp only [execOp, ho])
  · rename_i x ho
    split at hc
    · rename_i l rw' s hx
      injection hc with hc; subst hc
      have := op x
      rw [hx] at this
      generalize hcc : a.eval x = cc at this
      refine ⟨cc, ?_, this⟩
      cases this; simp [execOp, ho, hcc]
    · cases hc
  · rename_i b t x y yt ho
    exact lift (ceq_sound (xo := x) G C hr hc (op x) (op y)) (by simp only [execOp, ho])
  · rename_i b t x ho
    exact lift (aun_sound hc (op x)) (by simp only [execOp, ho])
  · rename_i s d x ho
    exact lift (cconvert_sound G hr hc (op x)) (by simp only [execOp, ho])
  · rename_i f first caps ho
    split at hc
    · rename_i hfirst
      injection hc with hc; subst hc
      have e : first = #[] := Array.toList_inj.1 (by simpa using hfirst)
      subst e
      refine ⟨.func (.func f) #[] (caps.map a.eval), by simp [execOp, ho, Instr.makeFunc], ?_⟩
      rw [map_copd]
      refine .fn _ _ _ (by simp) ?_
      have := (vrs_map hf caps.toList).2
      simpa using this
    · rename_i x hfirst
      injection hc with hc; subst hc
      have e : first = #[x] := Array.toList_inj.1 (by simpa using hfirst)
      subst e
      refine ⟨.func (.func f) #[a.eval x] (caps.map a.eval), by simp [execOp, ho, Instr.makeFunc], ?_⟩
      rw [map_copd]
      refine .fnb _ _ _ _ _ (op x) (by simp) ?_
      have := (vrs_map hf caps.toList).2
      simpa using this
    · cases hc
  · rename_i t x ho
    split at hc
    · rename_i hk
      injection hc with hc; subst hc
      refine ⟨.iface t (a.eval x), ?_, .iface _ _ _ (op x)⟩
      rcases G.lay.ds t with h' | h'
      · rw [h'] at hk; cases hk
      · cases hu : P.underlying t with
        | none => rw [hu] at h'; cases h'
        | some d =>
          rw [hu] at h'
          simp only [execOp, ho, Instr.makeInterface, Sem.run_bind, run_underlying hu, Result.andThen_ok]
          cases d <;> first | rfl | (simp only [Option.map_some, Ds.of, Option.some.injEq] at h'; rw [← h'] at hk; cases hk)
    · cases hc
  · rename_i t x lo hi mx ho
    exact lift (cslice_sound G hr hc (op x) (optR_copd hf) (optR_copd hf) (optR_copd hf)) (by simp only [execOp, ho])
  · rename_i s x f ho
    exact lift (afieldAddr_sound G (cfieldAddr_a hc) (op x)) (by simp only [execOp, ho])
  · rename_i t x f ho
    exact lift (afield_sound G (cfield_a hc) (op x)) (by simp only [execOp, ho])
  · rename_i t x i ho
    exact lift (cindexAddr_sound G hr hc (op x) (op i)) (by simp only [execOp, ho])
  · rename_i t x i ho
    obtain ⟨ob, h1, h2⟩ := cindex_a (H := []) hc
    exact lift (aindex_sound G h1 h2 (op x) (op i)).2 (by simp only [execOp, ho])
  · rename_i t m k ok ho
    exact lift (clookup_sound G C hr hc (op m) (op k)) (by simp only [execOp, ho])
  · rename_i x i ho
    split at hc
    · rename_i vs hxv
      have hx := op x
      rw [hxv] at hx; generalize hcc : a.eval x = cc at hx
      obtain ⟨ds, rfl, hds⟩ := vr_tup hx
      obtain ⟨u, hu, hv⟩ := hds.get hc
      have hu' : ds[i]? = some u := by simpa using hu
      exact ⟨u, by simp [execOp, ho, hcc, Instr.extract, hu'], hv⟩
    · cases hc
  · rename_i args argTypes ho
    split at hc
    · rename_i x hx
      split at hc
      · rename_i t ht
        have hx' : args.toList.map (copd fr) = [x] := by
          revert hx; unfold oneArg; split <;> intro hx <;> first | (injection hx with hx; subst hx; assumption) | cases hx
        have ht' : argTypes.toList = [t] := by
          revert ht; unfold oneTy; split <;> intro ht <;> first | (injection ht with ht; subst ht; assumption) | cases ht
        have ha := vrs_map hf args.toList
        rw [← map_copd, hx'] at ha
        obtain ⟨u, us, hus, hu, hn⟩ := ha.inv_cons
        have e := hn.inv_nil; subst e
        obtain ⟨z, hz, hv⟩ := lenV_sound (w := w) (ty := o.type) G hr hc hu
        refine ⟨z, ?_, hv⟩
        have e1 : args.map a.eval = #[u] := Array.toList_inj.1 (by simpa using hus)
        have e2 : argTypes = #[t] := Array.toList_inj.1 (by simpa using ht')
        subst e2
        simp [execOp, ho, resolve, invoke, builtin, e1, hz]
      · cases hc
    · cases hc
  · rename_i args argTypes ho
    split at hc
    · rename_i k n l hx
      have ha := vrs_map hf args.toList
      rw [← map_copd, hx] at ha
      obtain ⟨u, us, hus, hu, hn⟩ := ha.inv_cons
      cases hu
      obtain ⟨z, hz, hv⟩ := maxL_sound (P := P) (w := w) _ _ _ hc us hn
      refine ⟨z, ?_, hv⟩
      simp [execOp, ho, resolve, invoke, builtin, Builtin.max_, hus, hz]
    · cases hc
  · rename_i args argTypes ho
    split at hc
    · rename_i k n l hx
      have ha := vrs_map hf args.toList
      rw [← map_copd, hx] at ha
      obtain ⟨u, us, hus, hu, hn⟩ := ha.inv_cons
      cases hu
      obtain ⟨z, hz, hv⟩ := minL_sound (P := P) (w := w) _ _ _ hc us hn
      refine ⟨z, ?_, hv⟩
      simp [execOp, ho, resolve, invoke, builtin, Builtin.min_, hus, hz]
    · cases hc
  · cases hc
end Ev
