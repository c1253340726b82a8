/- Maps, parts of array variables, bytes as strings, what takes no room, slices against nil. -/
import Derived.Test.YtadmjjogmbhkaaaGreatDoorEv6
import Derived.MapKept
import Derived.Laws.BytesString
namespace Ev
open Go
variable {S : Sig} {P : Program} {X : Ctx S} {E E' : Env} {fr : Fr S} {H : AH S} {a : Act} {w w' : World}

theorem fits_key (G : Good P X) {k : TypeId} {key : AV S} {u : Value} (h : fits X k key = true) (hu : VR X E key u) : ∃ d, P.underlying k = some d ∧ MapKept.IsKey d u := by
  unfold fits at h
  split at h
  · rename_i kd hd
    split at h
    · simp only [decide_eq_true_eq] at h; subst h
      cases hu; exact ⟨_, G.lay.int hd, rfl⟩
    · cases h
  · rename_i hd
    split at h
    · cases hu; exact ⟨_, G.lay.str hd, trivial⟩
    · cases h
  · cases h
theorem fits_keyV (M : GoodM P X) {k : TypeId} (hk : X.isKey k = true) (y : S.T k) : fits X k (keyV X k y) = true := by
  rcases M.key k hk with ⟨kd, hd, h⟩ | ⟨hd, h⟩
  · obtain ⟨n, hn⟩ := h y; simp [fits, keyV, hd, hn]
  · obtain ⟨s, hs⟩ := h y; simp [fits, keyV, hd, hs]
theorem same_iff {k : TypeId} {key key' : AV S} {u v : Value} (h : fits X k key = true) (h' : fits X k key' = true) (hu : VR X E key u) (hv : VR X E key' v) : sameK key' key = true ↔ v = u := by
  unfold fits at h h'
  split at h
  · rename_i kd hd
    rw [hd] at h'
    split at h
    · simp only [decide_eq_true_eq] at h; subst h
      simp only at h'
      split at h'
      · simp only [decide_eq_true_eq] at h'; subst h'
        cases hu; cases hv; simp [sameK]
      · cases h'
    · cases h
  · rename_i hd
    rw [hd] at h'
    split at h
    · simp only at h'
      split at h'
      · cases hu; cases hv; simp [sameK, MapKept.bytes_beq]
      · cases h'
    · cases h
  · cases h

/-- entries, side by side -/
def Side (X : Ctx S) (E : Env) (k e : TypeId) (es : List (S.T k × S.T e)) (ms : List MapEntry) : Prop :=
  ms.length = es.length ∧ ∀ (i : Nat) (p : S.T k × S.T e) m, es[i]? = some p → ms[i]? = some m → VR X E (keyV X k p.1) m.key ∧ VR X E (valOf X e p.2) m.val

theorem Side.cons_inv {k e : TypeId} {p : S.T k × S.T e} {es} {ms : List MapEntry} (h : Side X E k e (p :: es) ms) : ∃ m r, ms = m :: r ∧ VR X E (keyV X k p.1) m.key ∧ VR X E (valOf X e p.2) m.val ∧ Side X E k e es r := by
  obtain ⟨h1, h2⟩ := h
  cases ms with
  | nil => simp at h1
  | cons m r =>
    have := h2 0 p m rfl rfl
    exact ⟨m, r, rfl, this.1, this.2, by simpa using h1, fun i q n hq hn => h2 (i + 1) q n (by simpa using hq) (by simpa using hn)⟩

theorem find_side (M : GoodM P X) {k e : TypeId} (hk : X.isKey k = true) {d : TypeDesc} {key : AV S} {u : Value} (hf : fits X k key = true) (hu : VR X E key u) (hd : MapKept.IsKey d u)
    (hkey : ∀ (y : S.T k) v, VR X E (keyV X k y) v → MapKept.IsKey d v) (x : S.T k) (hx : VR X E (keyV X k x) u) (y : S.T e) : ∀ (es : List (S.T k × S.T e)) (ms : List MapEntry) (i : Nat), Side X E k e es ms →
    (Instr.findNow d u ms i = some none ∧ mget X k e key es = none ∧ mput X k e x y es = es ++ [(x, y)]) ∨
    ∃ j m p, Instr.findNow d u ms i = some (some (i + j, m.val)) ∧ ms[j]? = some m ∧ m.key = u ∧ es[j]? = some p ∧ mget X k e key es = some p.2 ∧ VR X E (valOf X e p.2) m.val ∧ mput X k e x y es = es.set j (x, y)
  | [], ms, i, h => by
    have : ms = [] := List.eq_nil_of_length_eq_zero h.1
    subst this
    exact .inl ⟨rfl, rfl, rfl⟩
  | p :: es, ms, i, h => by
    obtain ⟨m, r, rfl, h1, h2, h3⟩ := h.cons_inv
    obtain ⟨b, hb, hiff⟩ := MapKept.sameNow_of_keys hd (hkey _ _ h1)
    have s1 := same_iff hf (fits_keyV M hk p.1) hu h1
    have s2 := same_iff (fits_keyV M hk x) (fits_keyV M hk p.1) hx h1
    cases b with
    | true =>
      have e1 : u = m.key := hiff.1 rfl
      exact .inr ⟨0, m, p, by simp [Instr.findNow, hb], rfl, e1.symm, rfl, by simp [mget, s1.2 e1.symm], h2, by simp [mput, s2.2 e1.symm]⟩
    | false =>
      have hne : ¬ m.key = u := fun q => by have := hiff.2 q.symm; cases this
      have n1 : sameK (keyV X k p.1) key = false := by cases hc : sameK (keyV X k p.1) key with | false => rfl | true => exact absurd (s1.1 hc) hne
      have n2 : sameK (keyV X k p.1) (keyV X k x) = false := by cases hc : sameK (keyV X k p.1) (keyV X k x) with | false => rfl | true => exact absurd (s2.1 hc) hne
      rcases find_side M hk hf hu hd hkey x hx y es r (i + 1) h3 with ⟨q1, q2, q3⟩ | ⟨j, m', p', q1, q2, q3, q4, q5, q6, q7⟩
      · exact .inl ⟨by simp [Instr.findNow, hb, q1], by simp [mget, n1, q2], by simp [mput, n2, q3]⟩
      · exact .inr ⟨j + 1, m', p', by simp [Instr.findNow, hb, q1]; omega, by simpa using q2, q3, by simpa using q4, by simp [mget, n1, q5], q6, by simp [mput, n2, q7]⟩

/-- the same, without an entry to be written -/
theorem get_side (M : GoodM P X) {k e : TypeId} (hk : X.isKey k = true) {d : TypeDesc} {key : AV S} {u : Value} (hf : fits X k key = true) (hu : VR X E key u) (hd : MapKept.IsKey d u)
    (hkey : ∀ (y : S.T k) v, VR X E (keyV X k y) v → MapKept.IsKey d v) : ∀ (es : List (S.T k × S.T e)) (ms : List MapEntry) (i : Nat), Side X E k e es ms →
    (Instr.findNow d u ms i = some none ∧ mget X k e key es = none) ∨
    ∃ j v y, Instr.findNow d u ms i = some (some (j, v)) ∧ mget X k e key es = some y ∧ VR X E (valOf X e y) v
  | [], ms, i, h => by
    have : ms = [] := List.eq_nil_of_length_eq_zero h.1
    subst this
    exact .inl ⟨rfl, rfl⟩
  | p :: es, ms, i, h => by
    obtain ⟨m, r, rfl, h1, h2, h3⟩ := h.cons_inv
    obtain ⟨b, hb, hiff⟩ := MapKept.sameNow_of_keys hd (hkey _ _ h1)
    have s1 := same_iff hf (fits_keyV M hk p.1) hu h1
    cases b with
    | true => exact .inr ⟨i, m.val, p.2, by simp [Instr.findNow, hb], by simp [mget, s1.2 (hiff.1 rfl).symm], h2⟩
    | false =>
      have n1 : sameK (keyV X k p.1) key = false := by
        cases hc : sameK (keyV X k p.1) key with
        | false => rfl
        | true => exact absurd (hiff.2 (s1.1 hc).symm) (by simp)
      rcases get_side M hk hf hu hd hkey es r (i + 1) h3 with ⟨q1, q2⟩ | ⟨j, v, y, q1, q2, q3⟩
      · exact .inl ⟨by simp [Instr.findNow, hb, q1], by simp [mget, n1, q2]⟩
      · exact .inr ⟨j, v, y, by simp [Instr.findNow, hb, q1], by simp [mget, n1, q2], q3⟩

theorem keys_are (G : Good P X) (M : GoodM P X) {k : TypeId} (hk : X.isKey k = true) {d : TypeDesc} (hd : P.underlying k = some d) (y : S.T k) (v : Value) (h : VR X E (keyV X k y) v) : MapKept.IsKey d v := by
  obtain ⟨d', h1, h2⟩ := fits_key G (fits_keyV M hk y) h
  rw [hd] at h1; injection h1 with h1; subst h1; exact h2

theorem alookup_sound (G : Good P X) (M : GoodM P X) {t : TypeId} {m key : AV S} {ok : Bool} {r : Res S} (h : alookup X t m key ok H = some r) (hr : HR X E H w) {mv u : Value} (hm : VR X E m mv) (hu : VR X E key u) :
    r.H = H ∧ ∃ z, (Instr.lookup t mv u ok).run P w = .ok z w ∧ VR X E r.v z := by
  unfold alookup at h
  split at h
  · rename_i k e hd
    split at h
    · rename_i hc
      simp only [Bool.and_eq_true] at hc
      obtain ⟨⟨c1, c2⟩, c3⟩ := hc
      obtain ⟨d, hkd, hku⟩ := fits_key G c3 hu
      have hmd := G.lay.map hd
      obtain ⟨i, z, hi, hz, _, hzv, _⟩ := M.val e c2
      have out : ∀ {v : AV S} {f : AV S} {x : Value} {b : Bool}, VR X E v x → VR X E f (.bool b) → VR X E (outM ok v f) (if ok then .tuple #[x, .bool b] else x) := by
        intro v f x b hv hf
        cases ok with
        | false => exact hv
        | true => exact vr_tup_mk (VRs.cons hv (VRs.cons hf VRs.nil))
      split at h
      · rename_i l
        split at h
        · rename_i k' e' es hl
          split at h
          · rename_i he
            simp only [Bool.and_eq_true] at he
            have he1 := Nat.eq_of_beq_eq_true he.1
            have he2 := Nat.eq_of_beq_eq_true he.2
            subst he1; subst he2
            injection h with h; subst h
            refine ⟨rfl, ?_⟩
            cases hm with
            | map _ b sh wd tot hio =>
            have hb := hr.blk_at hio
            rw [hl] at hb
            obtain ⟨ms, clock, hg, hs, hrow⟩ := hb
            rcases get_side M c1 c3 hu hku (keys_are G M c1 hkd) es ms.toList 0 ⟨by simpa using hs, hrow⟩ with ⟨q1, q2⟩ | ⟨j, v, y, q1, q2, q3⟩
            · refine ⟨if ok then .tuple #[z, .bool false] else z, by simp [Instr.lookup, run_underlying hmd, MapKept.run_getObj_map hg, MapKept.run_checkKey hkd hku, MapKept.run_findKey hkd q1, run_zeroValue hi hz, Result.andThen], ?_⟩
              rw [q2]
              exact out (hzv E) (.bool false)
            · refine ⟨if ok then .tuple #[v, .bool true] else v, by simp [Instr.lookup, run_underlying hmd, MapKept.run_getObj_map hg, MapKept.run_checkKey hkd hku, MapKept.run_findKey hkd q1, Result.andThen], ?_⟩
              rw [q2]
              exact out q3 (.bool true)
          · cases h
        · cases h
      · injection h with h; subst h
        refine ⟨rfl, ?_⟩
        cases hm
        have q1 : Instr.findNow d u ([] : List MapEntry) 0 = some none := rfl
        refine ⟨if ok then .tuple #[z, .bool false] else z, by simp [Instr.lookup, run_underlying hmd, MapKept.run_checkKey hkd hku, MapKept.run_findKey hkd q1, run_zeroValue hi hz, Result.andThen], ?_⟩
        exact out (hzv E) .ff
      · cases h
    · cases h
  · cases h

theorem alenM_sound (G : Good P X) {t ty : TypeId} {x r : AV S} (h : alenM X t x H = some r) (hr : HR X E H w) {u : Value} (hx : VR X E x u) : ∃ z, (Builtin.len_ #[t] ty #[u]).run P w = .ok z w ∧ VR X E r z := by
  unfold alenM at h
  split at h
  · rename_i k e hd
    have hmd := G.lay.map hd
    split at h
    · rename_i l
      split at h
      · rename_i k' e' es hl
        injection h with h; subst h
        cases hx with
        | map _ b sh wd tot hio =>
        have hb := hr.blk_at hio
        rw [hl] at hb
        obtain ⟨ms, clock, hg, hs, hrow⟩ := hb
        exact ⟨.int .i64 ms.size, by simp [Builtin.len_, run_underlying hmd, MapKept.run_getObj_map hg, goInt, Result.andThen], by rw [← hs]; exact .int _ _⟩
      · cases h
    · injection h with h; subst h
      cases hx
      exact ⟨_, by simp [Builtin.len_, run_underlying hmd, goInt, Result.andThen], .int _ _⟩
    · cases h
  · cases h

theorem asliceA_sound (G : Good P X) {t : TypeId} {x : AV S} {lo hi mx : Option (AV S)} {r : Res S} (h : asliceA X t x lo hi mx H = some r) (hob : ∀ p, r.ob = some p → p) (hr : HR X E H w)
    {v : Value} {lo' hi' mx' : Option Value} (hx : VR X E x v) (hlo : OptR X E lo lo') (hhi : OptR X E hi hi') (hmx : OptR X E mx mx') :
    r.H = H ∧ ∃ u, (Instr.sliceAt t v lo' hi' mx').run P w = .ok u w ∧ VR X E r.v u := by
  unfold asliceA at h
  split at h
  · rename_i n e hd
    split at h
    · rename_i b row sub
      split at h
      · rename_i e' xs hl
        split at h
        · rename_i hc
          simp only [Bool.and_eq_true, Nat.blt_eq] at hc
          obtain ⟨⟨⟨c1, c2⟩, c3⟩, c4⟩ := hc
          have c1 := Nat.eq_of_beq_eq_true c1; subst c1
          have c2 := Nat.eq_of_beq_eq_true c2; subst c2
          have c3 := Nat.eq_of_beq_eq_true c3; subst c3
          split at h
          · rename_i l hh h1 h2
            injection h with h; subst h
            obtain ⟨o0, o1, o2, o3⟩ := hob _ rfl
            have em := hmx.2 rfl; subst em
            refine ⟨rfl, ?_⟩
            cases hx with
            | ptr _ _ _ bb sh wd tot o hio ho =>
            have hbb := hr.blk_at hio
            rw [hl] at hbb
            obtain ⟨c, el, hg, hwd, hw0, hlen, htot, hcs, hrow⟩ := hbb
            obtain ⟨i, z, hi0, hs, _⟩ := G.lay.info e c4
            have hb := run_sliceBounds (P := P) (w := w) (s := false) (len := n) (cap := n) (endOf_some h1 hlo.1 hlo.2) (endOf_some h2 hhi.1 hhi.2) o0 o1 o2
            refine ⟨.slice (some (if n = l.toNat then (⟨bb, o, none⟩ : Addr) else (⟨bb, o, none⟩ : Addr).add (l.toNat * i.size))) (hh.toNat - l.toNat) (n - l.toNat),
              by simp [Instr.sliceAt, run_underlying (G.lay.array hd), Instr.sureAddr, hb, run_sizeOf hi0, Result.andThen], ?_⟩
            by_cases hz : n = l.toNat
            · rw [if_pos hz, show hh.toNat - l.toNat = 0 by omega, show n - l.toNat = 0 by omega]
              exact .zero _ _ _ _ _ hio
            · rw [if_neg hz, addr_add]
              exact .slc _ _ _ _ bb sh wd tot _ _ hio (by rw [ho, hs, hwd]; omega) (by omega) (by omega) (by omega) (fun hh => by cases hh)
          · cases h
        · cases h
      · cases h
    · cases h
  · cases h

theorem aconvB_sound (G : Good P X) (M : GoodM P X) {src dst : TypeId} {x : AV S} {r : Res S} (h : aconvB X src dst x H = some r) (hob : ∀ p, r.ob = some p → p) (hr : HR X E H w) {u : Value} (hx : VR X E x u) :
    r.H = H ∧ ∃ z, (convert src dst u).run P w = .ok z w ∧ VR X E r.v z := by
  unfold aconvB at h
  split at h
  · rename_i e hs
    split at h
    · rename_i he
      split at h
      · rename_i hd
        split at h
        · rename_i hk
          split at h
          · rename_i l off len cl
            split at h
            · rename_i p ys hrows
              injection h with h; subst h
              refine ⟨rfl, ?_⟩
              obtain ⟨aa, c, news, rfl, hv, _, hcells⟩ := rowsOf_sound G hr hrows (hob _ rfl) hx
              have henc : ∀ y : S.T e, X.enc e y = [.int .u8 (byteV X e y)] := by
                intro y
                rcases M.key e hk with ⟨kd, h1, h2⟩ | ⟨h1, h2⟩
                · rw [he] at h1; injection h1 with h1; subst h1
                  obtain ⟨n, hn⟩ := h2 y; rw [hn]; simp [byteV, hn]
                · rw [he] at h1; cases h1
              rw [run_convert_bytes_string w src dst e aa ys.length c (G.lay.slice hs) (G.lay.int he) (G.lay.str hd)]
              refine ⟨.string (strOf X e ys), ?_, .str _⟩
              have sz : ys ≠ [] → X.L.size e = 1 := by
                intro hne
                cases ys with
                | nil => exact absurd rfl hne
                | cons y r => have := G.enc_len e y; rw [henc] at this; simpa using this.symm
              have hnews : news = (ys.map fun y => Value.int .u8 (byteV X e y)) := by
                by_cases hne : ys = []
                · subst hne
                  exact List.eq_nil_of_length_eq_zero (by simpa using hv.1)
                · have s1 := sz hne
                  apply List.ext_getElem?
                  intro i
                  rw [List.getElem?_map]
                  cases hy : ys[i]? with
                  | none =>
                    have hle := List.getElem?_eq_none_iff.1 hy
                    have : news[i]? = none := List.getElem?_eq_none (by rw [hv.1, s1]; simpa using hle)
                    rw [this]; rfl
                  | some y =>
                    have h3 := hv.2 i y hy
                    rw [henc, s1, Nat.mul_one] at h3
                    obtain ⟨v, rr, hv1, hv2, _⟩ := h3.inv_cons
                    cases hv2
                    have : ((news.drop i).take 1)[0]? = some (Value.int .u8 (byteV X e y)) := by rw [hv1]; rfl
                    rw [List.getElem?_take, if_pos (by omega), List.getElem?_drop] at this
                    simpa using this
              have fold : (ys.map fun y => byteV X e y).foldl (fun r n => r.push (UInt8.ofNat n.toNat)) ByteArray.empty = strOf X e ys := by
                rw [List.foldl_map]; rfl
              have hmm : news = (ys.map fun y => byteV X e y).map (Value.int .u8) := by rw [hnews, List.map_map]; rfl
              cases aa with
              | none =>
                have : ys.length = 0 := by
                  rcases hcells with h0 | ⟨ad, h0, _⟩
                  · exact h0
                  · cases h0
                have e0 : ys = [] := List.eq_nil_of_length_eq_zero this
                subst e0
                simp [Conv.bytesToString, strOf]
              | some ad =>
                have hload : (loadCells ad ys.length).run P w = .ok ((ys.map fun y => byteV X e y).map (Value.int .u8)).toArray w := by
                  have hl : news.length = ys.length := by rw [hnews]; simp
                  rw [← hmm, ← hl]
                  refine run_loadCells_list w ad news ?_
                  rcases hcells with h0 | ⟨ad', h0, hc⟩
                  · intro j v hj
                    have : news = [] := List.eq_nil_of_length_eq_zero (by omega)
                    rw [this] at hj; cases hj
                  · injection h0 with h0; subst h0; exact hc
                rw [run_bytesToString w ad ys.length c _ hload, fold]
            · cases h
          · cases h
        · cases h
      · cases h
    · cases h
  · cases h

theorem empty0_sound (G : Good P X) (M : GoodM P X) {t : TypeId} (h : empty0 X t = true) : ∃ i, P.info? t = some i ∧ i.zero = some (.agg #[]) ∧ i.size = 0 ∧ X.L.size t = 0 := by
  simp only [empty0, Bool.and_eq_true] at h
  obtain ⟨⟨h1, h2⟩, h3⟩ := h
  have h2 := Nat.eq_of_beq_eq_true h2
  obtain ⟨i, z, hi, hz, hs, hv, _⟩ := M.val t h1
  have hv := hv ⟨fun _ => none, fun _ => none⟩
  unfold valOf at hv
  rw [h3] at hv
  obtain ⟨ds, rfl, hds⟩ := vr_agg hv
  have he : X.enc t (X.zero t) = [] := List.eq_nil_of_length_eq_zero (by rw [G.enc_len, h2])
  rw [he] at hds
  have : ds = #[] := Array.toList_inj.1 (by simpa using hds.inv_nil)
  subst this
  exact ⟨i, hi, hz, by omega, h2⟩

theorem quiet2_sound (G : Good P X) (M : GoodM P X) {o : Oper} {r : Res S} (h : quiet2 X fr H o.op = some r) (hob : ∀ p, r.ob = some p → p) (hf : FR X E fr a) (hr : HR X E H w) :
    r.H = H ∧ ∃ u, (execOp a.eval o).run P w = .ok (.value u) w ∧ VR X E r.v u := by
  have lift : ∀ {s : Sem Value} {u : Value}, s.run P w = .ok u w → (do pure (.value (← s)) : Sem Next).run P w = .ok (.value u) w := by
    intro s u h; simp [h]
  unfold quiet2 at h
  split at h
  · rename_i t m k ok ho
    obtain ⟨h1, z, hz, hv⟩ := alookup_sound G M (forceK_eq h) hr (vr_opd hf m) (vr_opd hf k)
    exact ⟨h1, z, by simp only [execOp, ho]; exact lift hz, hv⟩
  · rename_i t x lo hi mx ho
    obtain ⟨h1, z, hz, hv⟩ := asliceA_sound G h hob hr (vr_opd hf x) (OptR.map hf) (OptR.map hf) (OptR.map hf)
    exact ⟨h1, z, by simp only [execOp, ho]; exact lift hz, hv⟩
  · rename_i s d x ho
    obtain ⟨h1, z, hz, hv⟩ := aconvB_sound G M h hob hr (vr_opd hf x)
    exact ⟨h1, z, by simp only [execOp, ho]; exact lift hz, hv⟩
  · rename_i t ps ho
    split at h
    · rename_i h0
      split at h
      · rename_i hps
        split at h
        · rename_i fs hd
          injection h with h; subst h
          obtain ⟨i, hi, hz, hs, h00⟩ := empty0_sound G M h0
          have e : ps = #[] := Array.toList_inj.1 (by simpa using hps)
          subst e
          obtain ⟨gs, hu, hgs⟩ := G.lay.struct hd
          have hm := mapM_places G gs.toList (fun f hf => by
            have := G.lay.finfo t fs hd (f.offset, f.type) (by rw [← hgs]; exact List.mem_map.2 ⟨f, hf, rfl⟩)
            exact this)
          have hb : P.built t ((#[] : Array (Nat × Value)).toList) = some #[] := by
            unfold Program.built
            simp only [hi, hu, hz, hm]
            rfl
          refine ⟨rfl, .agg #[], ?_, vr_agg_mk VRs.nil⟩
          simp only [execOp, ho]
          have := run_build (P := P) w t #[] #[] hb
          exact lift (by simpa using this)
        · cases h
      · cases h
    · cases h
  · rename_i args argTypes ho
    split at h
    · rename_i x hx
      split at h
      · rename_i t ht
        obtain ⟨h1, h2, h3⟩ := still_sound h
        have ha := vrs_map hf args.toList
        rw [hx] at ha
        obtain ⟨u, us, hus, hu, hn⟩ := ha.inv_cons
        have e := hn.inv_nil; subst e
        obtain ⟨z, hz, hv⟩ := alenM_sound (w := w) (ty := o.type) G h3 hr hu
        refine ⟨h2, z, ?_, hv⟩
        have e1 : args.map a.eval = #[u] := Array.toList_inj.1 (by simpa using hus)
        have e2 : argTypes = #[t] := Array.toList_inj.1 (by simpa using ht)
        subst e2
        simp [execOp, ho, resolve, invoke, builtin, e1, hz]
      · cases h
    · cases h
  · cases h

theorem quietAll0_sound (G : Good P X) (M : GoodM P X) {o : Oper} {r : Res S} (h : quietAll0 X fr H o.op = some r) (hob : ∀ p, r.ob = some p → p) (hf : FR X E fr a) (hr : HR X E H w) :
    r.H = H ∧ ∃ u, (execOp a.eval o).run P w = .ok (.value u) w ∧ VR X E r.v u := by
  unfold quietAll0 at h
  split at h
  · rename_i r' hq
    injection h with h; subst h
    exact quiet_sound G hq hob hf hr
  · exact quiet2_sound G M h hob hf hr

theorem setHeap_other {b : Nat} {o : Obj} : ∀ k, k ≠ b → ({ w with heap := w.heap.setIfInBounds b o } : World).heap[k]? = w.heap[k]? := by
  intro k hk; simp [Ne.symm hk]

theorem aupdate_sound (G : Good P X) (M : GoodM P X) (hr : HR X E H w) {t : TypeId} {m key v : AV S} {r : Res S} (h : aupdate X t m key v H = some r) {mv u x : Value} (hm : VR X E m mv) (hu : VR X E key u) (hx : VR X E v x) :
    StoreR P X E H w (Instr.mapUpdate t mv u x) r ∧ r.v = .top := by
  unfold aupdate at h
  split at h
  · rename_i k e hd
    split at h
    · rename_i hc
      simp only [Bool.and_eq_true] at hc
      obtain ⟨⟨c1, c2⟩, c3⟩ := hc
      obtain ⟨d, hkd, hku⟩ := fits_key G c3 hu
      have hmd := G.lay.map hd
      split at h
      · rename_i l
        split at h
        · rename_i k' e' es hl
          split at h
          · rename_i he
            simp only [Bool.and_eq_true] at he
            have he1 := Nat.eq_of_beq_eq_true he.1.1
            have he2 := Nat.eq_of_beq_eq_true he.1.2
            have hal := he.2
            subst he1; subst he2
            split at h
            · rename_i xk y hxk hy
              injection h with h; subst h
              refine ⟨?_, rfl⟩
              cases hm with
              | map _ b sh wd tot hio =>
              have hdead : getB H l ≠ .dead := by rw [hl]; simp
              have hb := hr.blk_at hio
              rw [hl] at hb
              obtain ⟨ms, clock, hg, hs, hrow⟩ := hb
              have hk1 : VR X E (keyV X k xk) u := by
                have := G.dec k _ _ hxk E [u] (VRs.cons hu VRs.nil)
                unfold keyV
                cases henc : X.enc k xk with
                | nil => exact .top _
                | cons a0 r0 => rw [henc] at this; exact this.head
              have hv1 : VR X E (valOf X e y) x := by
                unfold valOf
                unfold aggLike at hal
                split at hal
                · rename_i ha
                  split at hal
                  · rename_i cs
                    obtain ⟨ds, rfl, hds⟩ := vr_agg hx
                    have := G.dec e _ _ hy E ds.toList hds
                    exact vr_agg_mk this
                  · cases hal
                · rename_i ha
                  have h1 := vr_one hx hal
                  have hc1 : cellsOf v = [v] := by cases v <;> first | rfl | (simp [one] at hal)
                  have := G.dec e _ _ hy E [x] (by rw [hc1]; exact VRs.cons hx VRs.nil)
                  cases henc : X.enc e y with
                  | nil => exact .top _
                  | cons a0 r0 => rw [henc] at this; exact this.head
              have hside : Side X E k e es ms.toList := ⟨by simpa using hs, hrow⟩
              have key0 : ∀ (o : Obj), BR X E ({ w with heap := w.heap.setIfInBounds b o } : World) (.mp k e (mput X k e xk y es)) (.at b sh wd tot) →
                  (Instr.mapUpdate t (.map (some b)) u x).run P w = .ok () { w with heap := w.heap.setIfInBounds b o } → StoreR P X E H w (Instr.mapUpdate t (.map (some b)) u x) ⟨none, .top, setB H l (.mp k e (mput X k e xk y es))⟩ := by
                intro o hbr hrun
                exact ⟨_, E, hrun, hr.write hio hdead (by simp) setHeap_other hbr, fun k _ => Ext.write ⟨l, _, _, _, hio⟩ (by simp) setHeap_other rfl rfl rfl, fun _ _ h => h, fun _ _ h => h⟩
              have newh : ∀ o, ({ w with heap := w.heap.setIfInBounds b o } : World).heap[b]? = some o := fun o => (MapKept.heap_set hg).1
              rcases find_side M c1 c3 hu hku (keys_are G M c1 hkd) xk hk1 y es ms.toList 0 hside with ⟨q1, q2, q3⟩ | ⟨j, m, p, q1, q2, q3, q4, q5, q6, q7⟩
              · refine key0 (.map (ms.push { key := u, val := x, born := clock }) (clock + 1)) ⟨_, _, newh _, by rw [q3]; simp [hs], fun i p m hp hmm => ?_⟩ ?_
                · rw [q3] at hp
                  rw [Array.toList_push] at hmm
                  by_cases hi : i < es.length
                  · rw [List.getElem?_append_left hi] at hp
                    rw [List.getElem?_append_left (by simpa [hs] using hi)] at hmm
                    exact hrow i p m hp hmm
                  · rw [List.getElem?_append_right (by omega)] at hp
                    rw [List.getElem?_append_right (by simp; omega)] at hmm
                    have hi0 : i - es.length = 0 := by
                      have := (List.getElem?_eq_some_iff.1 hp).1
                      simp at this; omega
                    have hi1 : i - ms.toList.length = 0 := by simp; omega
                    rw [hi0] at hp; rw [hi1] at hmm
                    simp at hp hmm; subst hp; subst hmm
                    exact ⟨hk1, hv1⟩
                · simp [Instr.mapUpdate, run_underlying hmd, MapKept.run_getObj_map hg, MapKept.run_checkKey hkd hku, MapKept.run_findKey hkd q1, MapKept.run_setObj_map _ hg, Result.andThen]
              · have hj : ms[j]? = some m := by simpa using q2
                have q1' : Instr.findNow d u ms.toList 0 = some (some (j, m.val)) := by simpa using q1
                refine key0 (.map (ms.modify j fun e => { e with key := u, val := x }) clock) ⟨_, _, newh _, by rw [q7]; simp [hs], fun i p' m' hp hmm => ?_⟩ ?_
                · rw [q7] at hp
                  rw [Array.getElem?_toList, Array.getElem?_modify] at hmm
                  rw [List.getElem?_set] at hp
                  by_cases hij : j = i
                  · subst hij
                    rw [if_pos rfl, if_pos (List.getElem?_eq_some_iff.1 q4).1] at hp
                    rw [if_pos rfl, hj] at hmm
                    simp at hp hmm; subst hp; subst hmm
                    exact ⟨hk1, hv1⟩
                  · rw [if_neg hij] at hp
                    rw [if_neg hij] at hmm
                    exact hrow i p' m' hp (by simpa using hmm)
                · simp [Instr.mapUpdate, run_underlying hmd, MapKept.run_getObj_map hg, MapKept.run_checkKey hkd hku, MapKept.run_findKey hkd q1', hj, q3, MapKept.run_keyThatStays hku, MapKept.run_setObj_map _ hg, Result.andThen]
            · cases h
          · cases h
        · cases h
      · cases h
    · cases h
  · cases h

theorem loud2_sound (G : Good P X) (M : GoodM P X) {o : Oper} {r : Res S} (h : loud2 X fr H o.op = some r) (hf : FR X E fr a) (hr : HR X E H w) :
    ∃ w' E', ((∃ u, (execOp a.eval o).run P w = .ok (.value u) w' ∧ VR X E' r.v u) ∨ ((execOp a.eval o).run P w = .ok .skip w' ∧ r.v = .top)) ∧ HR X E' r.H w' ∧ (∀ k, k ≤ H.length → Ext k E w E' w') ∧
      (∀ b o, E.im b = some o → E'.im b = some o) ∧ (∀ l p, E.io l = some p → E'.io l = some p) := by
  have lift : ∀ {s : Sem Value}, LoudR P X E H w s r → execOp a.eval o = (do pure (.value (← s)) : Sem Next) → ∃ w' E', ((∃ u, (execOp a.eval o).run P w = .ok (.value u) w' ∧ VR X E' r.v u) ∨ ((execOp a.eval o).run P w = .ok .skip w' ∧ r.v = .top)) ∧ HR X E' r.H w' ∧ (∀ k, k ≤ H.length → Ext k E w E' w') ∧
      (∀ b o, E.im b = some o → E'.im b = some o) ∧ (∀ l p, E.io l = some p → E'.io l = some p) := by
    intro s ⟨w', E', u, h1, h2, h3, h4, h5, h6⟩ he
    exact ⟨w', E', .inl ⟨u, by rw [he]; simp [h1], h2⟩, h3, h4, h5, h6⟩
  unfold loud2 at h
  split at h
  · rename_i t ho
    split at h
    · rename_i h0
      injection h with h; subst h
      obtain ⟨i, hi, hz, hs, h00⟩ := empty0_sound G M h0
      refine lift (s := Instr.alloc t true (.tuple #[])) ?_ (by simp only [execOp, ho])
      refine LoudR.mk hr (fun _ _ h => h) rfl rfl (fun _ h => .inl h) (u := .pointer (some ⟨w.heap.size, 0, none⟩)) (w' := w.alloc (.cells #[] t)) ?_ rfl ?_ (push_cells hr t VRs.nil) (alloc_size _) (alloc_old _) (fun bb sh wd tot h => by cases h; exact Nat.le_refl _) rfl rfl rfl
      · simp [Instr.alloc, run_zeroValue hi hz, newVar, newRow, Value.cells]
      · exact .ptr _ _ _ w.heap.size 0 0 0 _ (by rw [Env.push_io, if_pos rfl]) (by omega)
    · cases h
  · rename_i t x v ho
    split at h
    · rename_i h0
      obtain ⟨i, hi, hz, hs, h00⟩ := empty0_sound G M h0
      split at h
      · rename_i l row sub hxa
        split at h
        · rename_i cs hl
          split at h
          · rename_i hrow
            have hrow := Nat.eq_of_beq_eq_true hrow; subst hrow
            split at h
            · rename_i hva
              injection h with h; subst h
              have hx := vr_opd hf x
              have hv := vr_opd hf v
              rw [hxa] at hx; rw [hva] at hv
              generalize hxe : a.eval x = xe at hx
              generalize hve : a.eval v = ve at hv
              obtain ⟨ds, rfl, hds⟩ := vr_agg hv
              have : ds = #[] := Array.toList_inj.1 (by simpa using hds.inv_nil)
              subst this
              cases hx with
              | ptr _ _ _ b sh wd tot oo hio hoo =>
              have hb := hr.blk_at hio
              rw [hl] at hb
              obtain ⟨c, el, hg, hsh, hv⟩ := hb
              have hrun : (Instr.storeAt t (.pointer (some ⟨b, oo, none⟩)) (.agg #[])).run P w = .ok () w := by
                have : ¬ ((Value.agg #[]).cells.size ≠ i.size) := by simp [Value.cells, hs]
                simp only [Instr.storeAt, Instr.sureAddr, storeVar, Sem.run_bind, Sem.run_pure, Result.andThen_ok, run_sizeOf hi, if_neg this]
                simp [Value.cells, storeCells]
              refine ⟨w, E, .inr ⟨?_, rfl⟩, hr, fun k _ => Ext.refl k E w, fun _ _ h => h, fun _ _ h => h⟩
              simp only [execOp, ho, hxe, hve]; simp [hrun]
            · cases h
          · cases h
        · cases h
      · cases h
    · cases h
  · rename_i t ho
    split at h
    · rename_i k e hd
      injection h with h; subst h
      refine lift (s := Instr.makeMap t none) ?_ (by simp only [execOp, ho]; rfl)
      refine LoudR.mk hr (fun _ _ h => h) rfl rfl (fun _ h => .inl h) (u := .map (some w.heap.size)) (w' := w.alloc (.map #[] 0)) (p := .at w.heap.size 0 0 0) ?_ rfl ?_ ?_ (alloc_size _) (alloc_old _) (fun bb sh wd tot h => by cases h; exact Nat.le_refl _) rfl rfl rfl
      · simp [Instr.makeMap, Result.andThen]
      · exact .map _ w.heap.size 0 0 0 (by rw [Env.push_io, if_pos rfl])
      · exact hr.push (alloc_size _) (alloc_old _) (fun bb sh wd tot h => by cases h; exact Nat.le_refl _) ⟨#[], 0, alloc_new _, rfl, fun i p m hp hm => by simp at hp⟩
    · cases h
  · rename_i t m k v ho
    obtain ⟨⟨w', E', h1, h2, h3, h4, h5⟩, hv⟩ := aupdate_sound G M hr (forceK_eq h) (vr_opd hf m) (vr_opd hf k) (vr_opd hf v)
    exact ⟨w', E', .inr ⟨by simp only [execOp, ho]; simp [h1], hv⟩, h2, h3, h4, h5⟩
  · cases h

theorem loudAll_sound (G : Good P X) (M : GoodM P X) {o : Oper} {r : Res S} (h : loudAll X fr H o.op = some r) (hob : ∀ p, r.ob = some p → p) (hf : FR X E fr a) (hr : HR X E H w) :
    ∃ w' E', ((∃ u, (execOp a.eval o).run P w = .ok (.value u) w' ∧ VR X E' r.v u) ∨ ((execOp a.eval o).run P w = .ok .skip w' ∧ r.v = .top)) ∧ HR X E' r.H w' ∧ (∀ k, k ≤ H.length → Ext k E w E' w') ∧
      (∀ b o, E.im b = some o → E'.im b = some o) ∧ (∀ l p, E.io l = some p → E'.io l = some p) := by
  unfold loudAll at h
  split at h
  · rename_i r' hq
    injection h with h; subst h
    exact loud_sound G hq hob hf hr
  · exact loud2_sound G M h hf hr

/-- a slice against nil -/
theorem anyB_sound (G : Good P X) {o : Oper} {s : Bool} {C : Bool → Prop} (h : anyB X fr o.op = some (s, C)) (hf : FR X E fr a) (hr : HR X E H w) :
    ∃ b, C b ∧ (execOp a.eval o).run P w = .ok (.value (.bool (b == s))) w := by
  have lift : ∀ {s : Sem Value} {u : Value}, s.run P w = .ok u w → (do pure (.value (← s)) : Sem Next).run P w = .ok (.value u) w := by
    intro s u h; simp [h]
  unfold anyB at h
  split at h
  · rename_i op t x y yt ho
    split at h
    · rename_i e hd
      split at h
      · rename_i hn
        split at h
        · rename_i C' hC
          have hy := vr_opd hf y
          have hx := vr_opd hf x
          have hyn : opd fr y = .nils := by
            revert hn; cases opd fr y <;> simp [isNils]
          rw [hyn] at hy
          generalize hye : a.eval y = ye at hy
          cases hy
          generalize hxe : a.eval x = xe at hx
          have hsl : ∃ aa len cap, xe = .slice aa len cap ∧ C' aa.isNone := by
            revert hC hx
            generalize opd fr x = xa
            intro hC hx
            cases hx <;> simp only [nilable, Option.some.injEq, reduceCtorEq] at hC <;> subst hC <;> refine ⟨_, _, _, rfl, ?_⟩ <;> simp
          obtain ⟨aa, len, cap, rfl, hCa⟩ := hsl
          have heq : (Op.equal t (.slice aa len cap) (.slice none 0 0)).run P w = .ok aa.isNone w := by
            refine run_equal fun d => ?_
            cases aa <;> simp [Op.equalIn, run_underlying (G.lay.slice hd)]
          split at h
          · simp only [Option.some.injEq, Prod.mk.injEq] at h
            obtain ⟨rfl, rfl⟩ := h
            refine ⟨aa.isNone, hCa, ?_⟩
            simp only [execOp, ho, hxe, hye]
            refine lift ?_
            simp [eqGuard, binOp, heq]
          · simp only [Option.some.injEq, Prod.mk.injEq] at h
            obtain ⟨rfl, rfl⟩ := h
            refine ⟨aa.isNone, hCa, ?_⟩
            simp only [execOp, ho, hxe, hye]
            refine lift ?_
            simp [eqGuard, binOp, heq]
          · cases h
        · cases h
      · cases h
    · cases h
  · cases h
end Ev
