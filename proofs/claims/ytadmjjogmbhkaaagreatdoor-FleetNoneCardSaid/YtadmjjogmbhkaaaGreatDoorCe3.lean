/- The concrete run: operations that write or make memory hold of the model. -/
import Derived.Test.YtadmjjogmbhkaaaGreatDoorCe2
import Derived.Lib.AppendZeros
namespace Ev
open Go
variable {P : Program} {X : Ctx S0} {E E' : Env} {g g' : Nat → CB} {w w' : World} {fr : Tr V} {h : Tr CB} {a : Act} {R : Type}

/-- what such an operation comes to; the number l alone is taken -/
def Did (P : Program) (X : Ctx S0) (E : Env) (h : Tr CB) (w : World) (l : Nat) (sem : Sem Next) (v : V) (h' : Tr CB) : Prop :=
  ∃ E' w', ((∃ u, sem.run P w = .ok (.value u) w' ∧ VR X E' v u) ∨ (sem.run P w = .ok .skip w' ∧ v = .top)) ∧ CH X E' (hp h') w' ∧ CX (· ≠ l) E (hp h) w E' (hp h') w'

theorem lift_val {s : Sem Value} {u : Value} (hs : s.run P w = .ok u w') : (do pure (.value (← s)) : Sem Next).run P w = .ok (.value u) w' := by simp [hs]

theorem take_size (c : Array Value) : c.toList.take c.size = c.toList := by rw [← Array.length_toList, List.take_length]

/-- a new block -/
theorem did_push (hr : CH X E (hp h) w) {l : Nat} (hl : Nat.blt l 4294967296 = true) (hfree : E.io l = none) (hdead : hp h l = .dead) {sem : Sem Next} {v : V} {u : Value} {blk : CB} {b sh wd tot : Nat}
    (hrun : sem.run P w = .ok (.value u) w') (hsize : w.heap.size ≤ w'.heap.size) (hold : ∀ k, k < w.heap.size → w'.heap[k]? = w.heap[k]?) (hb : w.heap.size ≤ b)
    (hB : CBR X (E.push l (.at b sh wd tot)) w' blk (.at b sh wd tot)) (hv : VR X (E.push l (.at b sh wd tot)) v u) (ho : w'.os = w.os) (ht : w'.tape = w.tape) (hu : w'.output = w.output) :
    Did P X E h w l sem v (Tr.ins .dead blk 64 h l) := by
  obtain ⟨h1, h2⟩ := hr.push hfree hsize hold hb hB hdead ho ht hu
  exact ⟨_, w', .inl ⟨u, hrun, hv⟩, by rw [hp_ins h l blk hl]; exact h1, by rw [hp_ins h l blk hl]; exact h2⟩
theorem push_self (E : Env) (l : Nat) (p : Loc) : (E.push l p).io l = some p := by rw [Env.push_io, if_pos rfl]
theorem push_vrs (hr : CH X E g w) {l : Nat} (hfree : E.io l = none) (p : Loc) {cs : List V} {us : List Value} (hv : VRs X E cs us) : VRs X (E.push l p) cs us :=
  vrs_mono hr hv fun m q hq => by rw [Env.push_io, if_neg (fun e => by subst e; rw [hfree] at hq; cases hq)]; exact hq

/-- a new block of cells -/
theorem did_cells (hr : CH X E (hp h) w) {l : Nat} (hl : Nat.blt l 4294967296 = true) (hfree : E.io l = none) (hdead : hp h l = .dead) {sem : Sem Next} {v : V} {u : Value} {cs : List V} {us : Array Value} {el : TypeId} {wd tot : Nat} {w0 : World}
    (hw0 : w0.heap = w.heap) (hrun : sem.run P w = .ok (.value u) (w0.alloc (.cells us el))) (hcs : cs.length ≤ tot * wd) (htot : tot ≤ maxInt) (hsz : tot * wd ≤ us.size) (hvs : VRs X E cs (us.toList.take cs.length))
    (hv : ∀ E', E'.io l = some (.at w.heap.size 0 wd tot) → VR X E' v u) (ho : w0.os = w.os) (ht : w0.tape = w.tape) (hu : w0.output = w.output) :
    Did P X E h w l sem v (Tr.ins .dead (.arr wd cs) 64 h l) := by
  have hold : ∀ k, k < w.heap.size → (w0.alloc (.cells us el)).heap[k]? = w.heap[k]? := fun k hk => by
    rw [← hw0]; exact heap_alloc_old w0 _ (by rw [hw0]; exact hk)
  have hnew : (w0.alloc (.cells us el)).heap[w.heap.size]? = some (.cells us el) := by rw [← hw0]; exact heap_alloc_new w0 _
  exact did_push hr hl hfree hdead hrun (by simp [hw0]) hold (Nat.le_refl _) ⟨us, el, ⟨_, hnew, .inl rfl⟩, rfl, hcs, htot, by omega, by rw [List.drop_zero]; exact push_vrs hr hfree _ hvs⟩ (hv _ (push_self _ _ _)) ho (by simpa using ht) hu

theorem reps_take {cs : List V} {z : Array Value} (hv : VRs X E cs z.toList) {n m : Nat} (hn : n ≤ m) (hz : 0 < z.size) : VRs X E (reps n cs) ((pats z (m * z.size)).take (n * z.size)) := by
  have hl : cs.length = z.size := by simpa using hv.1
  have hmul : n * z.size ≤ m * z.size := Nat.mul_le_mul_right _ hn
  refine ⟨by rw [length_reps, List.length_take, length_pats, hl]; omega, fun k a u ha hu => ?_⟩
  have hk : k < n * cs.length := by
    have := (List.getElem?_eq_some_iff.1 ha).1
    rwa [length_reps] at this
  rw [reps_get cs (by omega) n k hk] at ha
  rw [List.getElem?_take, if_pos (by rw [← hl]; exact hk), pats_get (by rw [hl] at hk; omega) hz, ← hl] at hu
  exact hv.2 _ a u ha hu

theorem fillA_length {z : Nat} : ∀ (l : List (Nat × V)) (c c' : List V), fillA (fun i => some (i * z, z)) c l = some c' → c'.length = c.length := by
  intro l
  induction l with
  | nil => intro c c' h; injection h with h; rw [h]
  | cons q l ih =>
    intro c c' h
    obtain ⟨j, v⟩ := q
    unfold fillA at h
    simp only at h
    split at h
    · rename_i hq
      simp only [Bool.and_eq_true] at hq
      have q2 := Nat.le_of_ble_eq_true hq.1.2
      have q1 := Nat.eq_of_beq_eq_true hq.1.1
      rw [ih _ _ h]
      simp only [over, List.length_append, List.length_take, List.length_drop]
      omega
    · cases h

/-- the elements of a slice, in memory -/
theorem rowsV_sound (hr : CH X E (hp h) w) {e : TypeId} {x : V} {ys : List V} {m : Nat} (hc : rowsV X h e x = some ys) (hm : lenS x = some m) {v : Value} (hx : VR X E x v) :
    ∃ aa c news, v = .slice aa m c ∧ ys.length = m * X.L.size e ∧ VRs X E ys news ∧ (m = 0 ∨ ∃ ad, aa = some ad ∧ ∀ (j : Nat) u, news[j]? = some u → w.cell? (ad.add j) = some u) := by
  unfold rowsV at hc
  split at hc
  · injection hc with hc; subst hc
    cases hx
    simp only [lenS, Option.some.injEq] at hm; subst hm
    exact ⟨none, 0, [], rfl, by simp, VRs.nil, .inl rfl⟩
  · injection hc with hc; subst hc
    simp only [lenS, Option.some.injEq] at hm; subst hm
    cases hx with
    | emp0 => exact ⟨none, 0, [], rfl, by simp, VRs.nil, .inl rfl⟩
    | emp1 a => exact ⟨some a, 0, [], rfl, by simp, VRs.nil, .inl rfl⟩
  · rename_i l off len cl
    simp only [lenS, Option.some.injEq] at hm; subst hm
    split at hc
    · injection hc with hc; subst hc
      cases hx with
      | slc _ _ _ _ b sh wd tot o cap hio ho => exact ⟨_, _, [], rfl, by simp, VRs.nil, .inl rfl⟩
      | void0 => exact ⟨_, _, [], rfl, by simp, VRs.nil, .inl rfl⟩
      | zero => exact ⟨_, _, [], rfl, by simp, VRs.nil, .inl rfl⟩
    · rename_i len' 
      split at hc
      · rename_i wd' cs hl
        split at hc
        · rename_i hb
          simp only [Bool.and_eq_true] at hb
          have b1 := Nat.eq_of_beq_eq_true hb.1
          have b2 := Nat.le_of_ble_eq_true hb.2
          injection hc with hc; subst hc
          cases hx with
          | slc _ _ _ _ b sh wd tot o cap hio ho h3 h4 h5 h6 =>
            obtain ⟨c, el, ⟨fz, g1, gz⟩, g2, g3, g4, g5, g6⟩ := hr.arr hl hio
            subst g2
            have b2 : off * wd' + (len' + 1) * wd' ≤ cs.length := by rw [← Nat.add_mul]; exact b2
            have hv := (g6.drop (off * wd')).take ((len' + 1) * wd')
            rw [List.drop_take, List.take_take, List.drop_drop, show min ((len' + 1) * wd') (cs.length - off * wd') = (len' + 1) * wd' by omega, ← ho] at hv
            exact ⟨some ⟨b, o, none⟩, cap, _, rfl, by simp; rw [← b1]; omega, hv, .inr ⟨_, rfl, seg_get g1⟩⟩
        · cases hc
      · cases hc
  · cases hc

theorem lenS_sound' {x : V} {n : Nat} (h : lenS x = some n) {u : Value} (hx : VR X E x u) : ∃ aa c, u = .slice aa n c := lenS_sound h hx

/-- what is appended, as far as the model is concerned: the three ways of 'append' -/
structure ASrc (P : Program) (w : World) (t t' ty e : TypeId) (i : TypeInfo) (z : Value) (v : Value) (m : Nat) (news : List Value) : Prop where
  room : ∀ {el : TypeId} {fz : Nat × Nat} (g o sLen sCap : Nat) (cur : Array Value), w.heap[g]? = some (.cells cur el fz) → okFz fz cur.size → sLen + m ≤ sCap → o + sLen * i.size + news.length ≤ cur.size →
    (Builtin.append_ #[t, t'] ty #[.slice (some ⟨g, o, none⟩) sLen sCap, v]).run P w =
      .ok (.slice (some ⟨g, o, none⟩) (sLen + m) sCap) (w.setRow g (cur.toList.take (o + sLen * i.size) ++ news ++ cur.toList.drop (o + sLen * i.size + news.length)).toArray)
  nil : (m : Int) ≤ 9223372036854775807 → m * i.bytes ≤ 281474976710656 → (Builtin.append_ #[t, t'] ty #[.slice none 0 0, v]).run P w =
      .ok (.slice (some ⟨w.heap.size, 0, none⟩) m (grownCap w m 0 e)) (w.drew.alloc (.cells (news.toArray ++ Builtin.zeroCells z.cells (grownCap w m 0 e - m)) e))
  grow : ∀ (bd : Addr) (n cap : Nat) (olds : List Value), olds.length = n * i.size → (∀ (j : Nat) u, olds[j]? = some u → w.cell? (bd.add j) = some u) → cap < n + m → ((n + m : Nat) : Int) ≤ 9223372036854775807 → Builtin.nextslicecap (n + m) cap * i.bytes ≤ 281474976710656 → m * i.bytes ≤ 281474976710656 →
    (Builtin.append_ #[t, t'] ty #[.slice (some bd) n cap, v]).run P w =
      .ok (.slice (some ⟨w.heap.size, 0, none⟩) (n + m) (grownCap w (n + m) cap e)) (w.drew.alloc (.cells (olds.toArray ++ news.toArray ++ Builtin.zeroCells z.cells (grownCap w (n + m) cap e - (n + m))) e))
theorem asrc_row {t ty e : TypeId} {i : TypeInfo} {z : Value} (ht : P.underlying t = some (.slice e)) (hi : P.info? e = some i) (hz : i.zero = some z) {ad : Addr} {m c : Nat} {news : List Value} (hm0 : 0 < m) (hl : news.length = m * i.size)
    (hcells : ∀ (j : Nat) u, news[j]? = some u → w.cell? (ad.add j) = some u) (hones : ∀ u ∈ news, u.oneCell' = true) : ASrc P w t t ty e i z (.slice (some ad) m c) m news where
  room := fun g o sLen sCap cur hg hz hroom hfit => run_append_roomZ ht hi g o sLen sCap cur hg hz ad m c news hl hcells hones hroom hfit
  nil := fun h63 h48 => run_append_nil (P := P) w t ty e i z ht hi hz ad m c news hl hcells hm0 h63 h48
  grow := fun bd n cap olds ho hseg hg h63 hfit _ => run_append_grow (P := P) w t ty e i z ht hi hz bd n cap olds ho hseg ad m c news hl hcells hg h63 hfit
theorem asrc_zeros {t tn ty e : TypeId} {i : TypeInfo} {z : Value} {k kn : IntKind} (ht : P.underlying t = some (.slice e)) (htn : P.underlying tn = some (.int kn)) (hi : P.info? e = some i) (hz : i.zero = some z) (hs : 0 < i.size) (hzs : z.cells.size = i.size) {m : Nat} (hm0 : 0 < m) (hm63 : (m : Int) ≤ 9223372036854775807)
    (h48m : m * i.bytes ≤ 281474976710656) (hones : ∀ u ∈ (Builtin.zeroCells z.cells m).toList, u.oneCell' = true) : ASrc P w t tn ty e i z (.int k m) m (Builtin.zeroCells z.cells m).toList := by
  have hn : m ≠ 0 := by omega
  have hw : IntKind.i64.wrap (m : Int) = m := by rw [IntKind.wrap_i64]; omega
  have h48i : ¬ (281474976710656 < (m : Int) * (i.bytes : Int)) := by
    rw [← Int.natCast_mul]
    omega
  have hneg : ¬ ((m : Int) < 0) := by omega
  have hns : ¬ (m * i.size = 0) := Nat.mul_ne_zero hn (by omega)
  refine ⟨fun g o sLen sCap cur hg hfz hroom hfit => ?_, fun h63 h48 => ?_, fun bd n cap olds ho hseg hg h63 hfit _ => ?_⟩
  · have hst := run_storeCells_atZ P g (o + sLen * i.size) _ _ (Builtin.zeroCells z.cells m).toList 0 cur w hg hfz (by simpa using hfit) hones
    simp only [Nat.add_zero] at hst
    simp [Builtin.append_, run_underlying ht, run_underlying htn, Go.sizeOf, typeInfo, zeroValue, hi, hz, asInt, asIntOf, hw, hneg, hns, h48i, hroom, addr_add, hst]
  · have := Lib.run_append_nil_zeros (P := P) w t tn ty e i z k kn ht htn hi hz m hm0 hs h63 h48
    rw [this]
  · have hn2 : ¬ (n + m ≤ cap) := by omega
    have h63' : ¬ (9223372036854775807 < ((n : Int) + (m : Int))) := by omega
    have hfit' : ¬ (281474976710656 < Builtin.nextslicecap (n + m) cap * i.bytes) := by omega
    have hf := run_firstCells_some (P := P) w.drew i.size n bd n cap olds ho (by simpa using hseg)
    simp [Builtin.append_, run_underlying ht, run_underlying htn, Go.sizeOf, typeInfo, zeroValue, hi, hz, asInt, asIntOf, hw, hneg, hns, h48i, hn2, h63', hfit', Question.forced, hf, newRow, grownCap]
theorem appV_spec {e t t' : TypeId} {x : V} {m : Nat} {ys : List V} (hc : appV X h e t t' x = some (m, ys)) : (t = t' ∧ rowsV X h e x = some ys ∧ lenS x = some m) ∨
    (∃ k kn, X.L.ds t' = .int kn ∧ x = .int k m ∧ 0 < m ∧ m ≤ 16777216 ∧ zok X e = true ∧ ys = reps m (zeroCells X e)) := by
  unfold appV at hc
  split at hc
  · rename_i hb
    split at hc
    · rename_i xs hx
      split at hc
      · rename_i n hn
        injection hc with hc; injection hc with h1 h2; subst h1; subst h2
        exact .inl ⟨Nat.eq_of_beq_eq_true hb, hx, hn⟩
      · cases hc
    · cases hc
  · split at hc
    · rename_i kn hd
      split at hc
      · rename_i k n
        split at hc
        · rename_i hb
          simp only [Bool.and_eq_true] at hb
          obtain ⟨⟨b1, b2⟩, b3⟩ := hb
          have b1 := ltI_iff.1 b1
          injection hc with hc; injection hc with h1 h2; subst h1; subst h2
          exact .inr ⟨k, kn, hd, by rw [Int.toNat_of_nonneg (by omega)], by omega, Nat.le_of_ble_eq_true b2, b3, rfl⟩
        · cases hc
      · cases hc
    · cases hc

/-- append, where something is appended -/
theorem cappend_sound (G : Good P X) (hr : CH X E (hp h) w) {l : Nat} (hl : Nat.blt l 4294967296 = true) (hfree : E.io l = none) (hdead : hp h l = .dead) {t t' ty e : TypeId} (hd : X.L.ds t = .slice e) (hs : 0 < X.L.size e)
    {s : V} {xs ys : List V} {n m : Nat} (hxs : rowsV X h e s = some xs) (hn : lenS s = some n) (hm0 : 0 < m)
    (hb : (n + m) * X.L.bytes e ≤ maxBytes) (hmx : n + m ≤ maxInt) {u v : Value} (hu : VR X E s u) {news : List Value} (hyl : ys.length = m * X.L.size e) (hnv : VRs X E ys news) (hsrc : ∀ i z, P.info? e = some i → i.zero = some z → ASrc P w t t' ty e i z v m news) :
    (s = .nils ∨ (∃ l0 off, s = .slc l0 off n true) → Did P X E h w l (do pure (.value (← Builtin.append_ #[t, t'] ty #[u, v]))) (.slc l 0 (n + m) false) (Tr.ins .dead (.arr (X.L.size e) (xs ++ ys)) 64 h l)) ∧
    (∀ l0 off wd cs, s = .slc l0 off n false → h.get .dead l0 = .arr wd cs → wd = X.L.size e → Nat.blt l0 4294967296 = true →
      Did P X E h w l (do pure (.value (← Builtin.append_ #[t, t'] ty #[u, v]))) (.slc l 0 (n + m) false) (Tr.ins .dead (.arr (X.L.size e) (xs ++ ys)) 64 (Tr.ins .dead .dead 64 h l0) l)) := by
  obtain ⟨i, z, hi, hsi, hby, hz, hzs, _⟩ := G.lay.info e hs
  have ht := G.lay.slice hd
  have hl63 : ((n + m : Nat) : Int) ≤ 9223372036854775807 := by unfold maxInt at hmx; omega
  unfold maxBytes at hb
  have hml : n + m ≤ maxLen := by unfold maxInt at hmx; simp only [maxLen]; omega
  have src := hsrc i z hi hz
  obtain ⟨ba, cap, olds, rfl, hxl, hov, hosrc⟩ := rowsV_sound hr hxs hn hu
  have hnl : news.length = m * X.L.size e := by rw [← hnv.1, hyl]
  have hol : olds.length = n * X.L.size e := by rw [← hov.1, hxl]
  have hzc : 0 < z.cells.size := by omega
  have hzc' : ∀ n, (Builtin.zeroCells z.cells n).size = n * X.L.size e := fun n => by rw [size_zeroCells, hzs, hsi]
  have hcat : (xs ++ ys).length = (olds ++ news).length := by rw [List.length_append, List.length_append, hov.1, hnv.1]
  -- the result in a new block
  have grown : ∀ (h0 : Tr CB) (us : Array Value) (capn : Nat), CH X E (hp h0) w → hp h0 l = .dead → n + m ≤ capn → capn ≤ maxLen → us.toList.take (olds ++ news).length = olds ++ news → capn * X.L.size e ≤ us.size →
      (Builtin.append_ #[t, t'] ty #[.slice ba n cap, v]).run P w = .ok (.slice (some ⟨w.heap.size, 0, none⟩) (n + m) capn) (w.drew.alloc (.cells us e)) →
      Did P X E h0 w l (do pure (.value (← Builtin.append_ #[t, t'] ty #[.slice ba n cap, v]))) (.slc l 0 (n + m) false) (Tr.ins .dead (.arr (X.L.size e) (xs ++ ys)) 64 h0 l) := by
    intro h0 us capn hr0 hd0 h1 h2 h3 h4 hrun
    have h2' : capn ≤ maxInt := by simp only [maxLen] at h2; unfold maxInt; omega
    have hmul : (n + m) * X.L.size e ≤ capn * X.L.size e := Nat.mul_le_mul_right _ h1
    rw [Nat.add_mul] at hmul
    refine did_cells (w0 := w.drew) (tot := capn) hr0 hl hfree hd0 rfl (lift_val hrun) (by rw [hcat, List.length_append, hol, hnl]; exact hmul) h2' h4 (by rw [hcat, h3]; exact hov.append hnv) (fun E' hio => ?_) rfl rfl rfl
    exact .slc _ _ _ _ w.heap.size 0 (X.L.size e) capn _ _ hio (by omega) (by omega) h1 h2' (fun h => by cases h)
  -- there is no room behind it
  have grow : ∀ (h0 : Tr CB), CH X E (hp h0) w → hp h0 l = .dead → ¬ (n + m ≤ cap) → (n = 0 ∧ cap = 0 ∨ ∃ ad, ba = some ad ∧ ∀ (j : Nat) u, olds[j]? = some u → w.cell? (ad.add j) = some u) →
      Did P X E h0 w l (do pure (.value (← Builtin.append_ #[t, t'] ty #[.slice ba n cap, v]))) (.slc l 0 (n + m) false) (Tr.ins .dead (.arr (X.L.size e) (xs ++ ys)) 64 h0 l) := by
    intro h0 hr0 hd0 hroom hcase
    have h3 : ∀ (rest : Array Value), ((olds ++ news).toArray ++ rest).toList.take (olds ++ news).length = olds ++ news := by
      intro rest
      simp only [Array.toList_append]
      exact List.take_left
    cases ba with
    | none =>
      have hn0 : n = 0 ∧ cap = 0 := by
        rcases hcase with h | ⟨_, h, _⟩
        · exact h
        · cases h
      obtain ⟨rfl, rfl⟩ := hn0
      have ho0 : olds = [] := List.eq_nil_of_length_eq_zero (by rw [hol]; simp)
      subst ho0
      have hr1 := src.nil (by omega) (by rw [hby]; rw [Nat.zero_add] at hb; omega)
      have hge := grownCap_ge w m 0 e
      have hle := grownCap_le_maxLen w m 0 e (by omega)
      refine grown h0 _ _ hr0 hd0 (by omega) hle ?_ ?_ (by rw [Nat.zero_add]; exact hr1)
      · simp only [Array.toList_append, List.nil_append]
        exact List.take_left
      · simp only [Array.size_append, List.size_toArray, hzc', hnl, ← Nat.add_mul]
        exact Nat.mul_le_mul_right _ (by omega)
    | some bd =>
      have hseg : ∀ (j : Nat) u, olds[j]? = some u → w.cell? (bd.add j) = some u := by
        rcases hcase with ⟨h1, _⟩ | ⟨ad', h1, h2⟩
        · intro j u hj
          have ho0 : olds = [] := List.eq_nil_of_length_eq_zero (by rw [hol, h1]; simp)
          subst ho0; simp at hj
        · injection h1 with h1; subst h1; exact h2
      have hr1 := src.grow bd n cap olds (by rw [hsi]; exact hol) hseg (by omega) (by omega) (by rw [hby]; exact growslice_fits (by omega) hb) (by rw [hby]; have := Nat.add_mul n m (X.L.bytes e); omega)
      have hge := grownCap_ge w (n + m) cap e
      have hle := grownCap_le_maxLen w (n + m) cap e (by omega)
      refine grown h0 _ _ hr0 hd0 hge hle ?_ ?_ hr1
      · simp only [Array.toList_append]
        exact List.take_left
      · simp only [Array.size_append, List.size_toArray, hzc', hol, hnl, ← Nat.add_mul]
        exact Nat.mul_le_mul_right _ (by omega)
  refine ⟨fun hcase => ?_, fun l0 off wd cs hs0 hl0 hwd hl0b => ?_⟩
  · -- nothing is given up
    refine grow h hr hdead ?_ ?_
    · rcases hcase with rfl | ⟨l0, off, rfl⟩
      · cases hu; omega
      · cases hu with
        | slc _ _ _ _ b sh wd tot o cap' hio ho h3 h4 h5 h6 => have := h6 rfl; omega
        | void0 => omega
        | zero => omega
    · rcases hcase with rfl | ⟨l0, off, rfl⟩
      · cases hu; exact .inl ⟨rfl, rfl⟩
      · cases hu with
        | slc _ _ _ _ b sh wd tot o cap' hio ho h3 h4 h5 h6 =>
          have := h6 rfl; subst this
          rcases hosrc with h0 | h0
          · exact .inl ⟨h0, h0⟩
          · exact .inr h0
        | void0 => exact .inl ⟨rfl, rfl⟩
        | zero => exact .inl ⟨rfl, rfl⟩
  · -- the place of old is given up
    subst hs0
    obtain ⟨hrk, hxk⟩ := hr.kill l0
    have hpk : hp (Tr.ins .dead .dead 64 h l0) = fun m => if m = l0 then CB.dead else hp h m := hp_ins h l0 .dead hl0b
    have hll : l ≠ l0 := fun e => by subst e; have : hp h l = .arr wd cs := hl0; rw [hdead] at this; cases this
    have hkd : hp (Tr.ins .dead .dead 64 h l0) l = .dead := by rw [hpk]; simp only [if_neg hll]; exact hdead
    have hrk' : CH X E (hp (Tr.ins .dead .dead 64 h l0)) w := by rw [hpk]; exact hrk
    have back : ∀ {v1 h'}, Did P X E (Tr.ins .dead .dead 64 h l0) w l (do pure (.value (← Builtin.append_ #[t, t'] ty #[.slice ba n cap, v]))) v1 h' →
        Did P X E h w l (do pure (.value (← Builtin.append_ #[t, t'] ty #[.slice ba n cap, v]))) v1 h' := by
      rintro v1 h' ⟨E', w', q1, q2, q3⟩
      refine ⟨E', w', q1, q2, (CX.trans (S := (· ≠ l)) ?_ q3)⟩
      rw [hpk]; exact hxk.mono fun _ _ => trivial
    cases hu with
    | void0 _ _ _ hio => exact absurd hio (hr.nv _)
    | zero _ _ _ a p hio => exact back (grow _ hrk' hkd (by omega) (.inl ⟨rfl, rfl⟩))
    | slc _ _ _ _ b sh wd2 tot o cap' hio ho h3 h4 h5 h6 =>
      obtain ⟨cc, el, ⟨fz, g1, gz⟩, g2, g3, g4, g5, g6⟩ := hr.arr hl0 hio
      subst g2
      have hd0 : hp h l0 ≠ .dead := by show h.get .dead l0 ≠ .dead; rw [hl0]; simp
      have hm2 : (off + cap) * wd ≤ tot * wd := Nat.mul_le_mul_right _ h3
      rw [Nat.add_mul] at hm2
      have hm3 : n * wd ≤ cap * wd := Nat.mul_le_mul_right _ h4
      -- the old elements, in memory
      have holds : ∀ (j : Nat) u, ((cc.toList.drop o).take (n * X.L.size e))[j]? = some u → w.cell? ((⟨b, o, none⟩ : Addr).add j) = some u := seg_get g1
      have hov2 : VRs X E xs ((cc.toList.drop o).take (n * X.L.size e)) := by
        unfold rowsV at hxs
        simp only at hxs
        split at hxs
        · injection hxs with hxs; subst hxs; simpa using VRs.nil
        · rename_i n'
          rw [hl0] at hxs
          simp only at hxs
          split at hxs
          · rename_i hb'
            simp only [Bool.and_eq_true] at hb'
            have b2 := Nat.le_of_ble_eq_true hb'.2
            have b2 : off * wd + (n' + 1) * wd ≤ cs.length := by rw [← Nat.add_mul]; exact b2
            injection hxs with hxs; subst hxs
            have hv := (g6.drop (off * wd)).take ((n' + 1) * wd)
            rw [List.drop_take, List.take_take, List.drop_drop, show min ((n' + 1) * wd) (cs.length - off * wd) = (n' + 1) * wd by omega, ← ho] at hv
            rw [← hwd]; exact hv
          · cases hxs
      by_cases hroom : n + m ≤ cap
      · have hmul : (n + m) * X.L.size e ≤ cap * X.L.size e := Nat.mul_le_mul_right _ hroom
        rw [Nat.add_mul] at hmul
        rw [hwd] at hm2 hm3 ho g5
        have hfit : o + n * X.L.size e + news.length ≤ cc.size := by omega
        have hr0 := src.room b o n cap cc g1 gz hroom (by rw [hsi]; exact hfit)
        rw [hsi] at hr0
        have hown : owns E (hp h) b := ⟨l0, _, _, _, hd0, hio⟩
        have hnown : ¬ owns E (hp (Tr.ins .dead .dead 64 h l0)) b := by
          rintro ⟨m', sh', wd', tot', q1, q2⟩
          rw [hpk] at q1
          simp only at q1
          by_cases e' : m' = l0
          · rw [if_pos e'] at q1; exact q1 rfl
          · rw [if_neg e'] at q1; exact e' (hr.inj m' l0 b _ _ _ _ _ _ q2 hio q1 hd0)
        have hoc : (cc.toList.drop o).take (n * X.L.size e) ++ news = ((cc.toList.take (o + n * X.L.size e) ++ news ++ cc.toList.drop (o + n * X.L.size e + news.length)).drop o).take (n * X.L.size e + news.length) := by
          have e1 : (cc.toList.take (o + n * X.L.size e)).drop o = (cc.toList.drop o).take (n * X.L.size e) := by
            rw [List.drop_take]; congr 1; omega
          have hl1 : o ≤ (cc.toList.take (o + n * X.L.size e)).length := by simp; omega
          rw [List.append_assoc, List.drop_append_of_le_length hl1, e1, ← List.append_assoc]
          have hl2 : ((cc.toList.drop o).take (n * X.L.size e) ++ news).length = n * X.L.size e + news.length := by simp; omega
          rw [← hl2, List.take_left]
        have hlen : (xs ++ ys).length = n * X.L.size e + news.length := by rw [List.length_append, hxl, hyl, hnl]
        have hvs : VRs X (E.push l (.at b o (X.L.size e) cap)) (xs ++ ys) (((cc.toList.take (o + n * X.L.size e) ++ news ++ cc.toList.drop (o + n * X.L.size e + news.length)).drop o).take (xs ++ ys).length) := by
          rw [hlen, ← hoc]
          exact push_vrs hr hfree _ (hov2.append hnv)
        have htake := hrk'.take (w' := w.setRow b (cc.toList.take (o + n * X.L.size e) ++ news ++ cc.toList.drop (o + n * X.L.size e + news.length)).toArray) (l := l) (b := b) (sh := o) (wd := X.L.size e) (tot := cap) (blk := .arr (X.L.size e) (xs ++ ys))
          hfree hnown (block_lt_of g1) setRow_size setRow_other' ⟨_, el, ⟨fz, setRow_heap w b cc _ el _ g1, okFz_le gz (by simp; omega)⟩, rfl, by rw [hlen, hnl]; omega, h5, by simp; omega, by simpa using hvs⟩ hkd rfl rfl rfl
        refine ⟨_, _, .inl ⟨_, lift_val hr0, ?_⟩, by rw [hp_ins _ l _ hl]; exact htake, ?_⟩
        · exact .slc _ _ _ _ b o (X.L.size e) cap _ _ (push_self _ _ _) (by omega) (by omega) hroom h5 (fun h => by cases h)
        · have hio' : ∀ m p, E.io m = some p → (E.push l (.at b o (X.L.size e) cap)).io m = some p := by
            intro m p h
            rw [Env.push_io, if_neg (fun e => by subst e; rw [hfree] at h; cases h)]; exact h
          rw [hp_ins _ l _ hl, hpk]
          refine ⟨hio', fun m hm hf => by rw [Env.push_io, if_neg hm]; exact hf, fun m hm hdd => by simp only [if_neg hm]; split <;> first | rfl | exact hdd, ?_, by simp [World.setRow], fun bb hbb hno => setRow_other' bb fun e => hno (e ▸ hown), rfl, rfl, rfl⟩
          rintro bb ⟨m', sh', wd', tot', q1, q2⟩
          rw [Env.push_io] at q2
          by_cases e' : m' = l
          · rw [if_pos e'] at q2; injection q2 with q2; injection q2 with q2; exact .inl (q2 ▸ hown)
          · simp only [if_neg e'] at q1 q2
            split at q1
            · exact absurd rfl q1
            · exact .inl ⟨m', _, _, _, q1, q2⟩
      · refine back (grow _ hrk' hkd hroom ?_)
        rcases hosrc with h0 | h0
        · right
          refine ⟨_, rfl, fun j u hj => ?_⟩
          have ho0 : olds = [] := List.eq_nil_of_length_eq_zero (by rw [hol, h0]; simp)
          subst ho0; simp at hj
        · exact .inr h0

theorem over_vrs {cs vs : List V} {us ws : List Value} (n : Nat) (h : VRs X E cs us) (h' : VRs X E vs ws) : VRs X E (over cs n vs) (us.take n ++ ws ++ us.drop (n + ws.length)) := h.over n h'

/-- AN OPERATION THAT WRITES OR MAKES MEMORY -/
theorem cl_sound (G : Good P X) (C : GoodC P X) {o : Oper} (hf : FR X E (fn fr) a) (hr : CH X E (hp h) w) {l : Nat} (hl : Nat.blt l 4294967296 = true) (hfree : E.io l = none) (hdead : hp h l = .dead) (K : V → Tr CB → R) (bad : R) :
    cl X fr h l o.op K bad = bad ∨ ∃ v h', cl X fr h l o.op K bad = K v h' ∧ Did P X E h w l (execOp a.eval o) v h' := by
  have op : ∀ x, VR X E (copd fr x) (a.eval x) := fun x => by rw [← opd_fn]; exact vr_opd hf x
  unfold cl
  split
  · -- a variable
    rename_i t ho
    split
    · rename_i hz
      obtain ⟨i, z, h1, h2, h3, h4, h5, h6⟩ := C.cells (E := E) hz
      have hlen : (zeroCells X t).length = z.cells.size := by simpa using h6.1
      have hrun : (execOp a.eval o).run P w = .ok (.value (.pointer (some ⟨w.heap.size, 0, none⟩))) (w.alloc (.cells z.cells t)) := by
        simp only [execOp, ho]
        exact lift_val (by simp [Instr.alloc, run_zeroValue h1 h2, newVar, newRow])
      split
      · rename_i n e hd
        split
        · rename_i hb
          simp only [Bool.and_eq_true, Nat.blt_eq] at hb
          obtain ⟨⟨b1, b2⟩, b3⟩ := hb
          have b2 := Nat.eq_of_beq_eq_true b2
          have b3 := Nat.le_of_ble_eq_true b3
          right
          refine ⟨_, _, by rw [fVs_eq, Tr.put_eq], did_cells hr hl hfree hdead rfl hrun (tot := n) (by omega) b3 (by omega) (by rw [hlen, take_size]; exact h6) (fun E' hio => .ptr _ _ _ _ _ _ _ _ hio (by omega)) rfl rfl rfl⟩
        · exact .inl rfl
      · right
        have hm : 1 ≤ maxInt := by unfold maxInt; omega
        refine ⟨_, _, by rw [fVs_eq, Tr.put_eq], did_cells hr hl hfree hdead rfl hrun (tot := 1) (by omega) hm (by omega) (by rw [hlen, take_size]; exact h6) (fun E' hio => .ptr _ _ _ _ _ _ _ _ hio (by omega)) rfl rfl rfl⟩
    · exact .inl rfl
  · -- a value in memory
    rename_i t x ho
    split
    · rename_i hw
      have hv := vr_whole (op x) hw
      have hlen : (cellsOf (copd fr x)).length = (a.eval x).cells.size := by simpa using hv.1
      have hrun : (execOp a.eval o).run P w = .ok (.value (.pointer (some ⟨w.heap.size, 0, none⟩))) (w.alloc (.cells (a.eval x).cells t)) := by
        simp only [execOp, ho]
        exact lift_val (by simp [Instr.box, newVar, newRow])
      split
      · rename_i n e hd
        split
        · rename_i hb
          simp only [Bool.and_eq_true, Nat.blt_eq] at hb
          obtain ⟨⟨b1, b2⟩, b3⟩ := hb
          have b2 := Nat.eq_of_beq_eq_true b2
          have b3 := Nat.le_of_ble_eq_true b3
          right
          refine ⟨_, _, by rw [fVs_eq, Tr.put_eq], did_cells hr hl hfree hdead rfl hrun (tot := n) (by omega) b3 (by omega) (by rw [hlen, take_size]; exact hv) (fun E' hio => .ptr _ _ _ _ _ _ _ _ hio (by omega)) rfl rfl rfl⟩
        · exact .inl rfl
      · right
        have hm : 1 ≤ maxInt := by unfold maxInt; omega
        refine ⟨_, _, by rw [fVs_eq, fN_eq, Tr.put_eq], did_cells hr hl hfree hdead rfl hrun (tot := 1) (by omega) hm (by omega) (by rw [hlen, take_size]; exact hv) (fun E' hio => .ptr _ _ _ _ _ _ _ _ hio (by omega)) rfl rfl rfl⟩
    · exact .inl rfl
  · -- a written-out slice
    rename_i t n ps ho
    split
    · rename_i e hd
      split
      · rename_i hb
        simp only [Bool.and_eq_true, Nat.blt_eq] at hb
        obtain ⟨⟨b1, b2⟩, b3⟩ := hb
        have b1 := Nat.le_of_ble_eq_true b1
        obtain ⟨i, z, hi, hz0, hs, hby, hzs, hzv⟩ := C.cells (E := E) b3
        split
        · rename_i cs hc
          right
          have hz0' : 0 < z.cells.size := by omega
          have hcells := reps_vrs hzv n hz0'
          have e1 : n * z.cells.size = n * i.size := by rw [hzs]
          have e0 : (ps.toList.map fun p => (p.1, copd fr p.2)) = ps.toList.map fun p => (p.1, opd (fn fr) p.2) := by simp only [opd_fn]
          rw [e0] at hc
          obtain ⟨out, o1, o2⟩ := fill_sound _ _ _ hc ((Array.range (n * i.size)).map (z.cells[· % z.cells.size]!)) _ (by rw [← e1]; exact hcells) (parts_fst (fn fr) a ps) (parts_vr hf ps)
          have hzl : (zeroCells X e).length = X.L.size e := by
            have := b3
            simp only [zok, Bool.and_eq_true] at this
            exact Nat.eq_of_beq_eq_true this.2
          have hcl : cs.length = n * X.L.size e := by rw [fillA_length _ _ _ hc, length_reps, hzl]
          have hol : out.size = n * X.L.size e := by rw [← hcl]; simpa using o2.1.symm
          have hn : n ≤ maxInt := by
            have : n * 1 ≤ n * X.L.size e := Nat.mul_le_mul_left n b2
            unfold maxInt; omega
          have hrun : (execOp a.eval o).run P w = .ok (.value (.slice (some ⟨w.heap.size, 0, none⟩) n n)) (w.alloc (.cells out e)) := by
            simp only [execOp, ho]
            refine lift_val ?_
            have hsz : ¬ (n * i.size > 2 ^ 24) := by rw [hs]; omega
            by_cases hn0 : n * i.size = 0
            · have n0 : n = 0 := by
                rcases Nat.mul_eq_zero.1 hn0 with h | h
                · exact h
                · omega
              subst n0
              have e0 : ∀ (g : Nat → Value), Array.map g (Array.range (0 * i.size)) = #[] := by intro g; simp
              rw [e0, ← hs] at o1
              simp only [Instr.buildSlice, Sem.run_bind, run_underlying (G.lay.slice hd), Result.andThen_ok, run_sizeOf hi, if_neg hsz, if_pos hn0, Sem.run_pure, e0, o1]
              simp [newRow]
            · rw [← hs] at o1
              simp only [Instr.buildSlice, Sem.run_bind, run_underlying (G.lay.slice hd), Result.andThen_ok, run_sizeOf hi, if_neg hsz, if_neg hn0, run_zeroValue hi hz0, Sem.run_pure, o1]
              simp [newRow]
          refine ⟨_, _, by rw [fVs_eq, Tr.put_eq], did_cells hr hl hfree hdead rfl hrun (tot := n) (by omega) hn (by omega) (by rw [hcl, ← hol, take_size]; exact o2) (fun E' hio => ?_) rfl rfl rfl⟩
          exact .slc _ _ _ _ w.heap.size 0 (X.L.size e) n _ _ hio (by omega) (by omega) (Nat.le_refl _) hn (fun _ => rfl)
        · exact .inl rfl
      · exact .inl rfl
    · exact .inl rfl
  · -- make
    rename_i t nn c ho
    split
    · rename_i e hd
      split
      · rename_i n hn
        split
        · rename_i m hm
          split
          · rename_i hb
            simp only [Bool.and_eq_true, Nat.blt_eq, Bool.not_eq_true'] at hb
            obtain ⟨⟨⟨⟨⟨b1, b2⟩, b3⟩, b6⟩, b4⟩, b5⟩ := hb
            have b1 := ltI_false.1 b1
            have b2 := ltI_false.1 b2
            have b3 := Nat.le_of_ble_eq_true b3
            have b6 := Nat.le_of_ble_eq_true b6
            obtain ⟨i, z, hi, hz0, hs, hby, hzs, hzv⟩ := C.cells (E := E) b5
            right
            have hvn := op nn
            rw [hn] at hvn
            have hvm := op c
            rw [hm] at hvm
            generalize hne : a.eval nn = ne at hvn
            generalize hme : a.eval c = me at hvm
            cases hvn; cases hvm
            have hzl : (zeroCells X e).length = X.L.size e := by
              have := b5
              simp only [zok, Bool.and_eq_true] at this
              exact Nat.eq_of_beq_eq_true this.2
            have hnm : n.toNat ≤ m.toNat := by omega
            have hcl : (reps n.toNat (zeroCells X e)).length = n.toNat * X.L.size e := by rw [length_reps, hzl]
            have hmul : n.toNat * X.L.size e ≤ m.toNat * X.L.size e := Nat.mul_le_mul_right _ hnm
            have hzv2 := reps_take hzv hnm (show 0 < z.cells.size by omega)
            have hzz : z.cells.size = X.L.size e := by omega
            rw [hzz] at hzv2
            have hrun : (execOp a.eval o).run P w = .ok (.value (.slice (some ⟨w.heap.size, 0, none⟩) n.toNat m.toNat)) (w.alloc (.cells (madeCells z.cells (m.toNat * X.L.size e)) e)) := by
              simp only [execOp, ho, hne, hme]
              refine lift_val ?_
              rw [← hs]
              have hbb : (i.bytes : Int) * m ≤ 281474976710656 := by
                have h7 : ((m.toNat * X.L.bytes e : Nat) : Int) ≤ 140737488355328 := by have hm : maxBytes = 140737488355328 := rfl; omega
                rw [Int.natCast_mul, Int.toNat_of_nonneg (by omega)] at h7
                rw [Int.mul_comm, hby]
                omega
              exact run_make w t e i z (G.lay.slice hd) hi hz0 .i64 .i64 n m b1 b2 hbb (by unfold maxInt at b6; omega)
            refine ⟨_, _, by rw [fVs_eq, Tr.put_eq, fN_eq], did_cells hr hl hfree hdead rfl hrun (tot := m.toNat) (by rw [hcl]; exact hmul) b6 (by rw [size_madeCells]; exact Nat.le_refl _) (by rw [hcl]; exact hzv2) (fun E' hio => ?_) rfl rfl rfl⟩
            exact .slc _ _ _ _ w.heap.size 0 (X.L.size e) m.toNat _ _ hio (by omega) (by omega) hnm b6 (fun hq => by rw [eqI_iff.1 hq])
          · exact .inl rfl
        · exact .inl rfl
      · exact .inl rfl
    · exact .inl rfl
  · -- store
    rename_i t x y ho
    split
    · rename_i l0 row sub hx
      split
      · rename_i wd cs hl0
        split
        · rename_i hb
          simp only [Bool.and_eq_true, Nat.blt_eq] at hb
          obtain ⟨⟨⟨⟨b0, b1⟩, b2⟩, b3⟩, b4⟩ := hb
          have b1 := Nat.eq_of_beq_eq_true b1
          have b2 := Nat.le_of_ble_eq_true b2
          right
          have hvx := op x
          rw [hx] at hvx
          generalize hxe : a.eval x = xe at hvx
          have hvy := allOne_cells b3 (op y)
          cases hvx with
          | ptr _ _ _ b sh wd2 tot oo hio hoo =>
          obtain ⟨c, el, ⟨fz, g1, gz⟩, g2, g3, g4, g5, g6⟩ := hr.arr hl0 hio
          subst g2
          have hd0 : hp h l0 ≠ .dead := by show h.get .dead l0 ≠ .dead; rw [hl0]; simp
          obtain ⟨i, z, hi, hs, _⟩ := G.lay.info t b0
          have hul : (a.eval y).cells.size = i.size := by rw [hs, ← b1]; simpa using hvy.1.symm
          have hcsz : sh + cs.length ≤ c.size := by omega
          have hst := run_storeAtZ (P := P) (w := w) (t := t) (u := a.eval y) (o := oo) hi hul g1 gz (by rw [hs, hoo]; omega) (allOne_sound _ _ b3 hvy)
          have hsp := splice_row c.toList (a.eval y).cells.toList sh cs.length oo (row * wd + sub) (by rw [hoo]; omega) (by simp; rw [hul, hs]; exact b2) (by simp; omega)
          refine ⟨.top, _, by rw [overK_eq _ _ _ _ (by omega), Tr.put_eq], ?_⟩
          have hlen : (over cs (row * wd + sub) (cellsOf (copd fr y))).length = cs.length := by
            simp only [over, List.length_append, List.length_take, List.length_drop]; omega
          obtain ⟨w1, w2⟩ := hr.write (w' := w.setRow b (c.toList.take oo ++ (a.eval y).cells.toList ++ c.toList.drop (oo + (a.eval y).cells.toList.length)).toArray) (blk := .arr wd (over cs (row * wd + sub) (cellsOf (copd fr y)))) hio hd0 setRow_size setRow_other'
            ⟨_, el, ⟨fz, setRow_heap w b c _ el _ g1, okFz_le gz (by simp; omega)⟩, rfl, by rw [hlen]; exact g3, g4, by simp; omega, by
              rw [hlen]
              simp only [hsp]
              have := g6.over (row * wd + sub) hvy
              simpa using this⟩ rfl rfl rfl
          rw [← hp_ins h l0 _ (bltT.2 b4)] at w1 w2
          refine ⟨E, _, .inr ⟨?_, rfl⟩, w1, w2.mono fun _ _ => trivial⟩
          simp only [execOp, ho, hxe]
          simp [hst]
        · split
          · rename_i hb0
            simp only [Bool.and_eq_true, List.isEmpty_iff] at hb0
            obtain ⟨⟨z1, z2⟩, z3⟩ := hb0
            right
            obtain ⟨i, z, hi, _, hs, _⟩ := C.val t z2
            have z1 := Nat.eq_of_beq_eq_true z1
            have hvy : VRs X E (cellsOf (copd fr y)) (a.eval y).cells.toList := vr_cells (op y) (fun e => by rw [e] at z3; cases z3) (fun cs e => by rw [e] at z3; cases z3)
            have hy0 : (a.eval y).cells = #[] := by
              have := hvy.1
              rw [z3] at this
              exact Array.size_eq_zero_iff.1 (by simpa using this.symm)
            have hvx := op x
            rw [hx] at hvx
            generalize hxe : a.eval x = xe at hvx
            cases hvx with
            | ptr _ _ _ b sh wd2 tot oo hio hoo =>
            refine ⟨.top, h, rfl, E, w, .inr ⟨?_, rfl⟩, hr, CX.refl _ _ _ _⟩
            simp only [execOp, ho, hxe]
            simp [Instr.storeAt, Instr.sureAddr, storeVar, run_sizeOf hi, hy0, hs, z1, storeCells]
          · exact .inl rfl
      · exact .inl rfl
    · exact .inl rfl
  · -- the bytes of a string
    rename_i src d x ho
    split
    · rename_i e hd
      split
      · rename_i he
        split
        · rename_i s hx
          split
          · rename_i hb
            simp only [Bool.and_eq_true] at hb
            obtain ⟨⟨b0, b1⟩, b2⟩ := hb
            have b1 := Nat.eq_of_beq_eq_true b1
            have b2 := Nat.le_of_ble_eq_true b2
            have b0 : X.L.ds src = .str := by cases hq : X.L.ds src <;> rw [hq] at b0 <;> first | rfl | cases b0
            right
            have hvx := op x
            rw [hx] at hvx
            generalize hxe : a.eval x = xe at hvx
            cases hvx
            have hrun := run_bytes_of_string w src d e s (G.lay.str b0) (G.lay.slice hd) (G.lay.int he)
            have hge := grownCap_ge w s.size 0 e
            have hle := grownCap_le_maxLen w s.size 0 e (by unfold maxInt at b2; simp only [maxLen]; omega)
            have hle' : grownCap w s.size 0 e ≤ maxInt := by simp only [maxLen] at hle; unfold maxInt; omega
            generalize grownCap w s.size 0 e = cap at hrun hge hle hle'
            have hl2 : (strV s).length = s.size := by simp only [strV, List.length_map, Array.length_toList]; rfl
            have hsz : (bytesRow s cap).size = cap := by
              simp only [bytesRow, Array.size_append, Array.size_map, Array.size_replicate]
              have : s.data.size = s.size := rfl
              omega
            have hvs : VRs X E (strV s) ((bytesRow s cap).toList.take (strV s).length) := by
              have e1 : (bytesRow s cap).toList.take (strV s).length = s.data.toList.map fun b => Value.int .u8 b.toNat := by
                rw [hl2]
                simp only [bytesRow, Array.toList_append, Array.toList_map]
                rw [List.take_append_of_le_length (by simp only [List.length_map, Array.length_toList]; exact Nat.le_refl _)]
                exact List.take_of_length_le (by simp only [List.length_map, Array.length_toList]; exact Nat.le_refl _)
              rw [e1]
              refine ⟨by simp [strV], fun j a u ha hu => ?_⟩
              simp only [strV, List.getElem?_map, Option.map_eq_some_iff] at ha hu
              obtain ⟨b, hb1, rfl⟩ := ha
              obtain ⟨b', hb2, rfl⟩ := hu
              rw [hb1] at hb2; injection hb2 with hb2; subst hb2
              exact .int _ _
            refine ⟨_, _, by rw [fVs_eq, Tr.put_eq, fN_eq], did_push hr hl hfree hdead (blk := .arr 1 (strV s)) (u := .slice (some ⟨w.heap.size, 0, none⟩) s.size cap) (b := w.heap.size) (sh := 0) (wd := 1) (tot := cap) ?_ (by simp) (fun k hk => heap_alloc_old w.drew _ hk) (Nat.le_refl _)
              ⟨bytesRow s cap, e, ⟨((bytesRow s cap).size, (bytesRow s cap).size + 1), heap_alloc_new w.drew _, .inr (Nat.le_refl (bytesRow s cap).size)⟩, rfl, by rw [hl2]; omega, hle', by omega, by rw [List.drop_zero]; exact push_vrs hr hfree _ hvs⟩
              (.slc _ _ _ _ w.heap.size 0 1 cap _ _ (push_self _ _ _) (by omega) (by omega) hge hle' (fun h => by cases h)) rfl rfl rfl⟩
            simp only [execOp, ho, hxe]
            exact lift_val hrun
          · exact .inl rfl
        · exact .inl rfl
      · exact .inl rfl
    · exact .inl rfl
  · -- a map
    rename_i t ho
    split
    · rename_i k e hd
      right
      refine ⟨_, _, by rw [Tr.put_eq], did_push hr hl hfree hdead (blk := .mp k e []) (u := .map (some w.heap.size)) (w' := w.alloc (.map #[] 0)) (b := w.heap.size) (sh := 0) (wd := 0) (tot := 0) ?_ (alloc_size _) (alloc_old _) (Nat.le_refl _) ⟨#[], 0, alloc_new _, ⟨rfl, fun i p m hp hm => by simp at hp⟩, by simp⟩ (.map _ w.heap.size 0 0 0 (push_self _ _ _)) rfl rfl rfl⟩
      simp only [execOp, ho]
      exact lift_val (by simp [Instr.makeMap, Result.andThen])
    · exact .inl rfl
  · -- an entry of a map
    rename_i t m k v ho
    split
    · rename_i kt et hd
      split
      · rename_i l0 hm
        split
        · rename_i kt' et' es hl0
          split
          · rename_i hb
            simp only [Bool.and_eq_true] at hb
            obtain ⟨⟨⟨b1, b2⟩, b3⟩, b4⟩ := hb
            have b1 := Nat.eq_of_beq_eq_true b1; subst b1
            right
            have hvm := op m
            rw [hm] at hvm
            generalize hme : a.eval m = me at hvm
            cases hvm with
            | map _ b sh wd tot hio =>
            have hu := op k
            have hx := op v
            obtain ⟨d, hkd, hku⟩ := fits_key G b2 hu
            have hmd := G.lay.map hd
            have hd0 : hp h l0 ≠ .dead := by show h.get .dead l0 ≠ .dead; rw [hl0]; simp
            obtain ⟨ms, clock, hg, hrow, hfk⟩ := hr.mp hl0 hio
            have hs := hrow.1
            refine ⟨.top, _, by rw [fL_eq, Tr.put_eq], ?_⟩
            have key0 : ∀ (ob : Obj), CBR X E ({ w with heap := w.heap.setIfInBounds b ob } : World) (.mp kt et' (cset (copd fr k) (copd fr v) es)) (.at b sh wd tot) →
                (Instr.mapUpdate t (.map (some b)) (a.eval k) (a.eval v)).run P w = .ok () { w with heap := w.heap.setIfInBounds b ob } → Did P X E h w l (execOp a.eval o) .top (Tr.ins .dead (.mp kt et' (cset (copd fr k) (copd fr v) es)) 64 h l0) := by
              intro ob hbr hrun
              obtain ⟨w1, w2⟩ := hr.write hio hd0 (by simp) setHeap_other hbr rfl rfl rfl
              rw [← hp_ins h l0 _ b4] at w1 w2
              refine ⟨E, _, .inr ⟨?_, rfl⟩, w1, w2.mono fun _ _ => trivial⟩
              simp only [execOp, ho, hme]
              simp [hrun]
            have newh : ∀ ob, ({ w with heap := w.heap.setIfInBounds b ob } : World).heap[b]? = some ob := fun ob => (MapKept.heap_set hg).1
            have hfk2 : ∀ p ∈ cset (copd fr k) (copd fr v) es, fits X kt p.1 = true := by
              have : ∀ (es : List (V × V)), (∀ p ∈ es, fits X kt p.1 = true) → ∀ p ∈ cset (copd fr k) (copd fr v) es, fits X kt p.1 = true := by
                intro es
                induction es with
                | nil => intro _ p hp; simp [cset] at hp; subst hp; exact b2
                | cons q es ih =>
                  intro hq p hp
                  unfold cset at hp
                  split at hp
                  · rcases List.mem_cons.1 hp with rfl | hp
                    · exact hq q (by simp)
                    · exact hq p (by simp [hp])
                  · rcases List.mem_cons.1 hp with rfl | hp
                    · exact hq p (by simp)
                    · exact ih (fun x hx => hq x (by simp [hx])) p hp
              exact this es hfk
            rcases cfind_side G hkd b2 hu hku (copd fr v) es ms.toList 0 hrow hfk with ⟨q1, q2, q3⟩ | ⟨j, mm, p, q1, q2, q3, q4, q5, q6, q7, q8⟩
            · refine key0 (.map (ms.push { key := a.eval k, val := a.eval v, born := clock }) (clock + 1)) ⟨_, _, newh _, ⟨by rw [q3]; simpa using hs, fun i p m hp hmm => ?_⟩, hfk2⟩ ?_
              · rw [q3] at hp
                rw [Array.toList_push] at hmm
                by_cases hi : i < es.length
                · rw [List.getElem?_append_left hi] at hp
                  rw [List.getElem?_append_left (by rw [hs]; exact hi)] at hmm
                  exact hrow.2 i p m hp hmm
                · rw [List.getElem?_append_right (by omega)] at hp
                  rw [List.getElem?_append_right (by rw [hs]; omega)] at hmm
                  have hi0 : i - es.length = 0 := by
                    have := (List.getElem?_eq_some_iff.1 hp).1
                    simp at this; omega
                  have hi1 : i - ms.toList.length = 0 := by rw [hs]; exact hi0
                  rw [hi0] at hp; rw [hi1] at hmm
                  simp at hp hmm; subst hp; subst hmm
                  exact ⟨hu, hx⟩
              · simp [Instr.mapUpdate, run_underlying hmd, MapKept.run_getObj_map hg, MapKept.run_checkKey hkd hku, MapKept.run_findKey hkd q1, MapKept.run_setObj_map _ hg, Result.andThen]
            · have hj : ms[j]? = some mm := by simpa using q2
              have q1' : Instr.findNow d (a.eval k) ms.toList 0 = some (some (j, mm.val)) := by simpa using q1
              refine key0 (.map (ms.modify j fun e => { e with key := a.eval k, val := a.eval v }) clock) ⟨_, _, newh _, ⟨by rw [q8]; simpa using hs, fun i p' m' hp hmm => ?_⟩, hfk2⟩ ?_
              · rw [q8] at hp
                rw [Array.getElem?_toList, Array.getElem?_modify] at hmm
                rw [List.getElem?_set] at hp
                by_cases hij : j = i
                · subst hij
                  rw [if_pos rfl, if_pos (List.getElem?_eq_some_iff.1 q4).1] at hp
                  rw [if_pos rfl, hj] at hmm
                  simp at hp hmm; subst hp; subst hmm
                  exact ⟨q7, hx⟩
                · rw [if_neg hij] at hp
                  rw [if_neg hij] at hmm
                  exact hrow.2 i p' m' hp (by simpa using hmm)
              · simp [Instr.mapUpdate, run_underlying hmd, MapKept.run_getObj_map hg, MapKept.run_checkKey hkd hku, MapKept.run_findKey hkd q1', hj, q3, MapKept.run_keyThatStays hku, MapKept.run_setObj_map _ hg, Result.andThen]
          · exact .inl rfl
        · exact .inl rfl
      · exact .inl rfl
    · exact .inl rfl
  · -- append
    rename_i args argTypes ho
    split
    · rename_i s x hx
      split
      · rename_i t t' ht
        have ha := vrs_map hf args.toList
        rw [← map_copd, hx] at ha
        obtain ⟨u, us, hus, hu, hn⟩ := ha.inv_cons
        obtain ⟨v, us, rfl, hv, hn⟩ := hn.inv_cons
        have e := hn.inv_nil; subst e
        have e1 : args.map a.eval = #[u, v] := Array.toList_inj.1 (by simpa using hus)
        have e2 : argTypes = #[t, t'] := Array.toList_inj.1 (by simpa using ht)
        subst e2
        have hex : execOp a.eval o = (do pure (.value (← Builtin.append_ #[t, t'] o.type #[u, v])) : Sem Next) := by
          simp [execOp, ho, resolve, invoke, builtin, e1]
        split
        · rename_i e hd
          split
          · rename_i hb
            have b0 := bltT.1 hb
            split
            · rename_i m ys hys0
              have hsp := appV_spec hys0
              obtain ⟨news, hyl, hnv, hsrc⟩ : ∃ news, ys.length = m * X.L.size e ∧ VRs X E ys news ∧ (0 < m → allOne ys = true → m * X.L.bytes e ≤ maxBytes → ∀ i z, P.info? e = some i → i.zero = some z → ASrc P w t t' o.type e i z v m news) := by
                rcases hsp with ⟨b1, hys, hm⟩ | ⟨k, kn, hkn, hxk, hm0, hm1, hze, hye⟩
                · subst b1
                  obtain ⟨aa, c, news, rfl, hyl, hnv, hsrc⟩ := rowsV_sound hr hys hm hv
                  refine ⟨news, hyl, hnv, fun hm0 hone _ i z hi hz => ?_⟩
                  obtain ⟨i', z', hi', hs', _, hz', _⟩ := G.lay.info e b0
                  rw [hi] at hi'; injection hi' with hi'; subst hi'
                  rcases hsrc with h0 | ⟨ad, rfl, hcells⟩
                  · omega
                  · exact asrc_row (G.lay.slice hd) hi hz hm0 (by rw [← hnv.1, hyl, hs']) hcells (allOne_sound ys news hone hnv)
                · obtain ⟨i', z', hi', hz', hs', hby', hzs', hzv⟩ := C.cells (E := E) hze
                  have hzp : 0 < z'.cells.size := by omega
                  have hrep := reps_take (X := X) (E := E) hzv (Nat.le_refl m) hzp
                  have hfull : (pats z'.cells (m * z'.cells.size)).take (m * z'.cells.size) = (Builtin.zeroCells z'.cells m).toList := by
                    rw [List.take_of_length_le (by rw [length_pats]; exact Nat.le_refl _)]; rfl
                  rw [hfull] at hrep
                  subst hxk
                  cases hv
                  refine ⟨(Builtin.zeroCells z'.cells m).toList, ?_, by rw [hye]; exact hrep, fun _ hone hmb i z hi hz => ?_⟩
                  · rw [hye, length_reps]
                    have := hzv.1
                    simp only [Array.length_toList] at this
                    rw [this, hzs', hs']
                  · rw [hi] at hi'; injection hi' with hi'; subst hi'
                    rw [hz] at hz'; injection hz' with hz'; subst hz'
                    exact asrc_zeros (G.lay.slice hd) (G.lay.int hkn) hi hz (by omega) hzs' hm0 (by omega) (by rw [hby']; unfold maxBytes at hmb; omega) (allOne_sound ys _ hone (by rw [hye]; exact hrep))
              split
              · -- nothing is appended
                have nothing : (∃ aa n c, u = .slice aa n c ∧ n ≤ c) → VR X E s u → Did P X E h w l (execOp a.eval o) s h := by
                  rintro ⟨aa, n, c, rfl, hnc⟩ hsu
                  have hm0 : m = 0 := by
                    rcases Nat.eq_zero_or_pos m with h0 | h0
                    · exact h0
                    · have := Nat.mul_pos h0 b0; simp at hyl; omega
                  rcases hsp with ⟨b1, hys, hm⟩ | ⟨k, kn, hkn, hxk, hm0', _⟩
                  case inr => omega
                  subst b1
                  obtain ⟨bb, c', news, rfl, r1, r2, r3⟩ := rowsV_sound hr hys hm hv
                  obtain ⟨i, z, hi, _⟩ := G.lay.info e b0
                  subst hm0
                  rw [hex]
                  exact ⟨E, w, .inl ⟨_, lift_val (run_append_zero (G.lay.slice hd) hi aa n c bb c' hnc), hsu⟩, hr, CX.refl _ _ _ _⟩
                split
                · right
                  refine ⟨_, _, rfl, nothing ?_ hu⟩
                  cases hu with
                  | slc _ _ _ _ b sh wd tot o cap hio ho h3 h4 h5 h6 => exact ⟨_, _, _, rfl, h4⟩
                  | void0 => exact ⟨_, _, _, rfl, Nat.le_refl _⟩
                  | zero => exact ⟨_, _, _, rfl, Nat.le_refl _⟩
                · right
                  refine ⟨_, _, rfl, nothing ?_ hu⟩
                  cases hu; exact ⟨_, _, _, rfl, Nat.le_refl _⟩
                · exact .inl rfl
              · rename_i y0 yr
                split
                · rename_i xs hxs
                  split
                  · rename_i n hn
                    rw [fL_eq, fN_eq]
                    split
                    · rename_i hbb
                      simp only [Bool.and_eq_true] at hbb
                      obtain ⟨⟨c1, c2⟩, c3⟩ := hbb
                      have c1 := Nat.le_of_ble_eq_true c1
                      have c2 := Nat.le_of_ble_eq_true c2
                      have hm0 : 0 < m := by
                        rcases Nat.eq_zero_or_pos m with h0 | h0
                        · rw [h0] at hyl; simp at hyl
                        · exact h0
                      obtain ⟨s1, s2⟩ := cappend_sound (ty := o.type) G hr hl hfree hdead hd b0 hxs hn hm0 c1 c2 hu hyl hnv (hsrc hm0 c3 (by have := Nat.add_mul n m (X.L.bytes e); omega))
                      rw [hex]
                      split
                      · right; exact ⟨_, _, by rw [Tr.put_eq], s1 (.inl rfl)⟩
                      · rename_i l0 off n'
                        right
                        simp only [lenS, Option.some.injEq] at hn; subst hn
                        exact ⟨_, _, by rw [Tr.put_eq], s1 (.inr ⟨_, _, rfl⟩)⟩
                      · rename_i l0 off n'
                        simp only [lenS, Option.some.injEq] at hn; subst hn
                        split
                        · rename_i wd cs hl0
                          split
                          · rename_i hw
                            simp only [Bool.and_eq_true] at hw
                            right
                            exact ⟨_, _, by rw [Tr.put_eq, Tr.put_eq], s2 l0 off wd cs rfl hl0 (Nat.eq_of_beq_eq_true hw.1) hw.2⟩
                          · exact .inl rfl
                        · exact .inl rfl
                      · exact .inl rfl
                    · exact .inl rfl
                  · exact .inl rfl
                · exact .inl rfl
            · exact .inl rfl
          · exact .inl rfl
        · exact .inl rfl
      · exact .inl rfl
    · exact .inl rfl
  · exact .inl rfl
end Ev
