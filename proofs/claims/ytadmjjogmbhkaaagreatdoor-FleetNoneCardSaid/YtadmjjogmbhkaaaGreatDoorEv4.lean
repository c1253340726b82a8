/- The operations that write or make memory. -/
import Derived.Test.YtadmjjogmbhkaaaGreatDoorEv3
namespace Ev
open Go
variable {S : Sig} {P : Program} {X : Ctx S} {E E' : Env} {fr : Fr S} {H : AH S} {a : Act} {w w' : World}

/-- one more place -/
def Env.push (E : Env) (n : Nat) (p : Loc) : Env := { E with io := fun l => if l = n then some p else E.io l }

theorem Env.push_io (E : Env) (n : Nat) (p : Loc) (l : Nat) : (E.push n p).io l = if l = n then some p else E.io l := rfl
theorem push_keeps (hr : HR X E H w) (p : Loc) : (∀ b o, E.im b = some o → (E.push H.length p).im b = some o) ∧ ∀ l q, E.io l = some q → (E.push H.length p).io l = some q := by
  refine ⟨fun _ _ h => h, fun l q h => ?_⟩
  rw [Env.push_io]
  by_cases hl : l = H.length
  · have := hr.io l (by omega); rw [this] at h; cases h
  · rw [if_neg hl]; exact h

theorem BR.mono {b : Blk S} {p : Loc} (h : BR X E w b p) (him : ∀ b o, E.im b = some o → E'.im b = some o) (hio : ∀ l p, E.io l = some p → E'.io l = some p)
    (hw : ∀ bb sh wd tot, p = .at bb sh wd tot → w'.heap[bb]? = w.heap[bb]?) : BR X E' w' b p := by
  cases b with
  | dead => trivial
  | cells cs => cases p with
    | void => exact h
    | «at» bb sh wd tot =>
      obtain ⟨c, el, h1, h2, h3⟩ := h
      exact ⟨c, el, (hw _ _ _ _ rfl).trans h1, h2, h3.mono him hio⟩
  | lst e xs => cases p with
    | void => exact h
    | «at» bb sh wd tot =>
      obtain ⟨c, el, h1, h2, h3, h4, h5, h6, h7⟩ := h
      exact ⟨c, el, (hw _ _ _ _ rfl).trans h1, h2, h3, h4, h5, h6, fun i x hx => (h7 i x hx).mono him hio⟩
  | lsto e xs r s v => cases p with
    | void => exact h.elim
    | «at» bb sh wd tot =>
      obtain ⟨c, el, h1, h2, h3, h4, h5, h6, h6a, h6b, h7⟩ := h
      exact ⟨c, el, (hw _ _ _ _ rfl).trans h1, h2, h3, h4, h5, h6, h6a, h6b, fun i x hx => (h7 i x hx).mono him hio⟩
  | mp k e es => cases p with
    | void => exact h
    | «at» bb sh wd tot =>
      obtain ⟨ms, clock, h1, h2, h3⟩ := h
      exact ⟨ms, clock, (hw _ _ _ _ rfl).trans h1, h2, fun i p m hp hm => ⟨(h3 i p m hp hm).1.mono him hio, (h3 i p m hp hm).2.mono him hio⟩⟩

theorem HR.lt (hr : HR X E H w) {l : Nat} {p : Loc} (h : E.io l = some p) : l < H.length := by
  rcases Nat.lt_or_ge l H.length with h' | h'
  · exact h'
  · rw [hr.io l h'] at h; cases h
theorem HR.blk_at (hr : HR X E H w) {l : Nat} {p : Loc} (h : E.io l = some p) : BR X E w (getB H l) p := by
  obtain ⟨q, hq, hb⟩ := hr.blk l (hr.lt h)
  rw [h] at hq; injection hq with hq; subst hq; exact hb

theorem block_lt_of {b : Nat} {o : Obj} (h : w.heap[b]? = some o) : b < w.heap.size := (Array.getElem?_eq_some_iff.1 h).1

/-- a living place lies in a block that is there -/
theorem BR.lt {b : Blk S} {bb sh wd tot : Nat} (h : BR X E w b (.at bb sh wd tot)) (hd : b ≠ .dead) : bb < w.heap.size := by
  cases b with
  | dead => exact absurd rfl hd
  | cells cs => obtain ⟨c, el, h1, _⟩ := h; exact block_lt_of h1
  | lst e xs => obtain ⟨c, el, h1, _⟩ := h; exact block_lt_of h1
  | lsto e xs r s v => obtain ⟨c, el, h1, _⟩ := h; exact block_lt_of h1
  | mp k e es => obtain ⟨ms, clock, h1, _⟩ := h; exact block_lt_of h1

/-- a new block of memory, or none, for a new place -/
theorem HR.push (hr : HR X E H w) {b : Blk S} {p : Loc} (hsize : w.heap.size ≤ w'.heap.size) (hold : ∀ k, k < w.heap.size → w'.heap[k]? = w.heap[k]?)
    (hp : ∀ bb sh wd tot, p = .at bb sh wd tot → w.heap.size ≤ bb) (hb : BR X (E.push H.length p) w' b p) : HR X (E.push H.length p) (H ++ [b]) w' := by
  obtain ⟨k1, k2⟩ := push_keeps hr p
  refine ⟨fun l hl => ?_, fun l hl => ?_, fun l m bb sh wd tot sh' wd' tot' h1 h2 h3 h4 => ?_, fun bb o h => ?_, fun l bb sh wd tot h1 h2 => ?_⟩
  · rw [Env.push_io, if_neg (by simp at hl; omega)]
    exact hr.io l (by simp at hl; omega)
  · rw [Env.push_io, getB_append]
    by_cases hl' : l = H.length
    · subst hl'; rw [if_pos rfl, if_pos rfl]; exact ⟨p, rfl, hb⟩
    · rw [if_neg hl', if_neg hl']
      obtain ⟨q, hq, hbq⟩ := hr.blk l (by simp at hl; omega)
      by_cases hd : getB H l = .dead
      · rw [hd]; exact ⟨q, hq, trivial⟩
      · refine ⟨q, hq, hbq.mono k1 k2 fun bb sh wd tot e => hold _ ?_⟩
        subst e; exact hbq.lt hd
  · rw [Env.push_io] at h1 h2
    rw [getB_append] at h3 h4
    by_cases e1 : l = H.length <;> by_cases e2 : m = H.length
    · omega
    · rw [if_pos e1] at h1; rw [if_neg e2] at h2 h4
      injection h1 with h1
      have := hp _ _ _ _ h1
      have := (hr.blk_at h2).lt h4
      omega
    · rw [if_neg e1] at h1 h3; rw [if_pos e2] at h2
      injection h2 with h2
      have := hp _ _ _ _ h2
      have := (hr.blk_at h1).lt h3
      omega
    · rw [if_neg e1] at h1 h3; rw [if_neg e2] at h2 h4
      exact hr.inj l m bb sh wd tot sh' wd' tot' h1 h2 h3 h4
  · have := hr.im bb o h
    rw [hold bb (block_lt_of this)]; exact this
  · rw [Env.push_io] at h1
    rw [getB_append]
    by_cases e1 : l = H.length
    · rw [if_pos e1] at h1
      injection h1 with h1
      have := hp _ _ _ _ h1
      exfalso
      cases hi : E.im bb with
      | none => exact h2 hi
      | some o => have := block_lt_of (hr.im bb o hi); omega
    · rw [if_neg e1] at h1 ⊢
      exact hr.sep l bb sh wd tot h1 h2

theorem Ext.push (hr : HR X E H w) {k : Nat} {p : Loc} (hk : k ≤ H.length) (hsize : w.heap.size ≤ w'.heap.size) (hold : ∀ k, k < w.heap.size → w'.heap[k]? = w.heap[k]?)
    (hp : ∀ bb sh wd tot, p = .at bb sh wd tot → w.heap.size ≤ bb) (ho : w'.os = w.os) (ht : w'.tape = w.tape) (hu : w'.output = w.output) : Ext k E w (E.push H.length p) w' := by
  refine ⟨⟨fun _ _ h => h, fun l hl => ?_⟩, fun b ⟨l, sh, wd, tot, h⟩ => ?_, fun b h => .inl h, hsize, fun b hb _ => hold b hb, ho, ht, hu⟩
  · rw [Env.push_io, if_neg (by omega)]
  · rw [Env.push_io] at h
    split at h
    · injection h with h; exact .inr (hp _ _ _ _ h)
    · exact .inl ⟨l, sh, wd, tot, h⟩

theorem alloc_old (o : Obj) : ∀ k, k < w.heap.size → (w.alloc o).heap[k]? = w.heap[k]? := fun k hk => heap_alloc_old w o hk
theorem alloc_new (o : Obj) : (w.alloc o).heap[w.heap.size]? = some o := heap_alloc_new w o
theorem alloc_size (o : Obj) : w.heap.size ≤ (w.alloc o).heap.size := by simp

/-- a new variable of cells -/
theorem push_cells (hr : HR X E H w) {cs : List (AV S)} {us : Array Value} (el : TypeId) (hv : VRs X E cs us.toList) :
    HR X (E.push H.length (.at w.heap.size 0 0 0)) (H ++ [.cells cs]) (w.alloc (.cells us el)) :=
  hr.push (alloc_size _) (alloc_old _) (fun bb sh wd tot h => by cases h; exact Nat.le_refl _)
    ⟨us, el, alloc_new _, rfl, hv.mono (push_keeps hr _).1 (push_keeps hr _).2⟩

/-- elements in a row -/
def VRows (X : Ctx S) (E : Env) (e : TypeId) (ys : List (S.T e)) (us : List Value) : Prop :=
  us.length = ys.length * X.L.size e ∧ ∀ (i : Nat) y, ys[i]? = some y → VRs X E (X.enc e y) ((us.drop (i * X.L.size e)).take (X.L.size e))

theorem VRows.mono {e : TypeId} {ys : List (S.T e)} {us : List Value} (h : VRows X E e ys us) (him : ∀ b o, E.im b = some o → E'.im b = some o) (hio : ∀ l p, E.io l = some p → E'.io l = some p) : VRows X E' e ys us :=
  ⟨h.1, fun i y hy => (h.2 i y hy).mono him hio⟩

/-- a new row of elements; behind them whatever there is -/
theorem push_lst (hr : HR X E H w) {e : TypeId} {xs : List (S.T e)} {us : Array Value} (el : TypeId) {tot : Nat} (hv : VRows X E e xs (us.toList.take (xs.length * X.L.size e))) (hs : 0 < X.L.size e)
    (hx : xs.length ≤ tot) (htot : tot ≤ maxInt) (hsz : tot * X.L.size e ≤ us.size) (w0 : World) (hw0 : w0.heap = w.heap) :
    HR X (E.push H.length (.at w.heap.size 0 (X.L.size e) tot)) (H ++ [.lst e xs]) (w0.alloc (.cells us el)) := by
  have hold : ∀ k, k < w.heap.size → (w0.alloc (.cells us el)).heap[k]? = w.heap[k]? := fun k hk => by
    rw [← hw0]; exact heap_alloc_old w0 _ (by rw [hw0]; exact hk)
  have hnew : (w0.alloc (.cells us el)).heap[w.heap.size]? = some (.cells us el) := by rw [← hw0]; exact heap_alloc_new w0 _
  refine hr.push (by simp [hw0]) hold (fun bb sh wd tot h => by cases h; exact Nat.le_refl _) ⟨us, el, hnew, rfl, hs, hx, htot, by omega, fun i x hi => ?_⟩
  have := (hv.2 i x hi).mono (push_keeps hr (.at w.heap.size 0 (X.L.size e) tot)).1 (push_keeps hr _).2
  have hlt : i < xs.length := (List.getElem?_eq_some_iff.1 hi).1
  have hmul : (i + 1) * X.L.size e ≤ xs.length * X.L.size e := Nat.mul_le_mul_right _ (by omega)
  rw [Nat.add_mul] at hmul
  rw [List.drop_take, List.take_take, show min (X.L.size e) (xs.length * X.L.size e - i * X.L.size e) = X.L.size e by omega] at this
  simpa using this

/-- a block becomes immutable -/
def Env.fix (E : Env) (b : Nat) (o : Obj) : Env := { E with im := fun c => if c = b then some o else E.im c }

theorem getB_set_dead {l m : Nat} (hl : l < H.length) : getB (setB H l .dead) m = if m = l then .dead else getB H m := getB_setB H l m .dead hl

theorem HR.kill (hr : HR X E H w) {l : Nat} (hl : l < H.length) : HR X E (setB H l .dead) w := by
  refine ⟨fun m hm => hr.io m (by rw [length_setB] at hm; exact hm), fun m hm => ?_, fun i j b sh wd tot sh' wd' tot' h1 h2 h3 h4 => ?_, hr.im, fun i b sh wd tot h1 h2 => ?_⟩
  · rw [length_setB] at hm
    rw [getB_set_dead hl]
    obtain ⟨p, hp, hb⟩ := hr.blk m hm
    split
    · exact ⟨p, hp, trivial⟩
    · exact ⟨p, hp, hb⟩
  · rw [getB_set_dead hl] at h3 h4
    split at h3
    · exact absurd rfl h3
    · split at h4
      · exact absurd rfl h4
      · exact hr.inj i j b sh wd tot sh' wd' tot' h1 h2 h3 h4
  · rw [getB_set_dead hl]
    split
    · rfl
    · exact hr.sep i b sh wd tot h1 h2

theorem HR.fix (hr : HR X E H w) {l b sh wd tot : Nat} {c : Array Value} {el : TypeId} {fz : Nat × Nat} (hio : E.io l = some (.at b sh wd tot)) (hd : getB H l ≠ .dead) (hg : w.heap[b]? = some (.cells c el fz)) :
    HR X (E.fix b (.cells c el fz)) (setB H l .dead) w ∧ (∀ b' o, E.im b' = some o → (E.fix b (.cells c el fz)).im b' = some o) := by
  have hl := hr.lt hio
  have him : ∀ b' o, E.im b' = some o → (E.fix b (.cells c el fz)).im b' = some o := by
    intro b' o h
    simp only [Env.fix]
    by_cases e : b' = b
    · subst e
      exact absurd (hr.sep l _ sh wd tot hio (by rw [h]; simp)) hd
    · rw [if_neg e]; exact h
  have hk := hr.kill hl
  refine ⟨⟨hk.io, fun m hm => ?_, hk.inj, fun b' o h => ?_, fun i b' sh' wd' tot' h1 h2 => ?_⟩, him⟩
  · obtain ⟨p, hp, hb⟩ := hk.blk m hm
    exact ⟨p, hp, hb.mono him (fun _ _ h => h) (fun _ _ _ _ _ => rfl)⟩
  · simp only [Env.fix] at h
    by_cases e : b' = b
    · subst e; rw [if_pos rfl] at h; injection h with h; subst h; exact hg
    · rw [if_neg e] at h; exact hr.im b' o h
  · simp only [Env.fix] at h2
    by_cases e : b' = b
    · subst e
      rw [getB_set_dead hl]
      by_cases e2 : i = l
      · rw [if_pos e2]
      · rw [if_neg e2]
        cases hgi : getB H i with
        | dead => rfl
        | _ => exact absurd (hr.inj i l b' _ _ _ _ _ _ h1 hio (by rw [hgi]; simp) hd) e2
    · rw [if_neg e] at h2; exact hk.sep i b' sh' wd' tot' h1 h2

theorem freezeL_sound (G : Good P X) : ∀ (vs vs' : List (AV S)) (H H' : AH S) (p : Prop) (E : Env) (us : List Value), freezeL H vs = some (p, vs', H') → p → HR X E H w → VRs X E vs us →
    ∃ E', HR X E' H' w ∧ VRs X E' vs' us ∧ (∀ b o, E.im b = some o → E'.im b = some o) ∧ E'.io = E.io ∧ H'.length = H.length ∧ (∀ b, E'.im b ≠ none → E.im b ≠ none ∨ E.own b)
  | [], vs', H, H', p, E, us, h, hp, hr, hv => by
    simp only [freezeL, Option.some.injEq, Prod.mk.injEq] at h
    obtain ⟨_, rfl, rfl⟩ := h
    exact ⟨E, hr, hv, fun _ _ h => h, rfl, rfl, fun _ h => .inl h⟩
  | v :: vs, vs', H, H', p, E, us, h, hp, hr, hv => by
    obtain ⟨u, us, rfl, hvu, hvs⟩ := hv.inv_cons
    have plain : ∀ {q : Prop} {r' : List (AV S)} {H'' : AH S}, freezeL H vs = some (q, r', H'') → q →
        ∃ E', HR X E' H'' w ∧ VRs X E' (v :: r') (u :: us) ∧ (∀ b o, E.im b = some o → E'.im b = some o) ∧ E'.io = E.io ∧ H''.length = H.length ∧ (∀ b, E'.im b ≠ none → E.im b ≠ none ∨ E.own b) := by
      intro q r' H'' h1 hq
      obtain ⟨E', a1, a2, a3, a4, a5, a6⟩ := freezeL_sound G vs _ H _ _ E us h1 hq hr hvs
      exact ⟨E', a1, VRs.cons (hvu.mono a3 (fun l p h => by rw [a4]; exact h)) a2, a3, a4, a5, a6⟩
    unfold freezeL at h
    split at h
    · rename_i l off len cl
      split at h
      · rename_i e xs hl
        split at h
        · rename_i q r' H'' hq
          simp only [Option.some.injEq, Prod.mk.injEq] at h
          obtain ⟨rfl, rfl, rfl⟩ := h
          have hd : getB H l ≠ .dead := by rw [hl]; simp
          have hlt : l < H.length := getB_lt hd
          cases hvu with
          | slc _ _ _ _ b sh wd tot o cap hio ho h3 h4 h5 h6 =>
            have hb := hr.blk_at hio
            rw [hl] at hb
            obtain ⟨c, el, hg, hwd, hw0, hlen, htot, hsz, hrow⟩ := hb
            obtain ⟨hr', him⟩ := hr.fix hio hd hg
            obtain ⟨E', a1, a2, a3, a4, a5, a6⟩ := freezeL_sound G vs _ _ _ _ _ us hq hp.2 hr' (hvs.mono him (fun _ _ h => h))
            refine ⟨E', a1, VRs.cons ?_ a2, fun b o h => a3 b o (him b o h), a4, by rw [a5, length_setB], fun b' hb' => ?_⟩
            rotate_left
            · rcases a6 b' hb' with h1 | h1
              · simp only [Env.fix] at h1
                by_cases e1 : b' = b
                · subst e1; exact .inr ⟨l, _, _, _, hio⟩
                · rw [if_neg e1] at h1; exact .inl h1
              · exact .inr h1
            have hm1 : (off + len) * wd ≤ tot * wd := Nat.mul_le_mul_right _ (by omega)
            rw [Nat.add_mul] at hm1
            refine .imm _ _ b o len cap c el (0, 0) (a3 _ _ (by simp [Env.fix])) (by simp; omega) h4 h5 (by rw [ho, ← hwd]; omega) ?_
            intro i j x a' u' hx ha hu'
            rw [List.getElem?_take] at hx
            split at hx
            · rename_i hi
              rw [List.getElem?_drop] at hx
              have hv := hrow (off + i) x hx
              refine ((hv.mono him (fun _ _ h => h)).mono a3 (fun l p h => by rw [a4]; exact h)).2 j a' u' ha ?_
              have hj : j < X.L.size e := by
                have := (List.getElem?_eq_some_iff.1 ha).1
                rw [G.enc_len] at this; exact this
              rw [List.getElem?_take, if_pos (by omega), List.getElem?_drop, ← hu', ho, hwd, Nat.add_mul]
              congr 1; omega
            · cases hx
          | void0 _ _ _ hio =>
            obtain ⟨E', a1, a2, a3, a4, a5, a6⟩ := freezeL_sound G vs _ _ _ _ _ us hq hp.2 (hr.kill hlt) hvs
            refine ⟨E', a1, VRs.cons ?_ a2, a3, a4, by rw [a5, length_setB], a6⟩
            rw [List.take_zero]; exact .imm0 _
          | zero _ _ _ aa p' hio =>
            obtain ⟨E', a1, a2, a3, a4, a5, a6⟩ := freezeL_sound G vs _ _ _ _ _ us hq hp.2 (hr.kill hlt) hvs
            refine ⟨E', a1, VRs.cons ?_ a2, a3, a4, by rw [a5, length_setB], a6⟩
            rw [List.take_zero]; exact .imm1 _ _ _
        · cases h
      · cases h
    · split at h
      · rename_i q r' H'' hq
        simp only [Option.some.injEq, Prod.mk.injEq] at h
        obtain ⟨rfl, rfl, rfl⟩ := h
        exact plain hq hp
      · cases h

theorem decAll_sound (G : Good P X) {e : TypeId} : ∀ (n : Nat) (cs : List (AV S)) (xs : List (S.T e)), decAll X e (X.L.size e) n cs = some xs → ∀ us, VRs X E cs us → n * X.L.size e ≤ us.length →
    xs.length = n ∧ ∀ (i : Nat) y, xs[i]? = some y → VRs X E (X.enc e y) ((us.drop (i * X.L.size e)).take (X.L.size e))
  | 0, cs, xs, h, us, hv, hl => by
    injection h with h; subst h
    exact ⟨rfl, fun i y hy => by simp at hy⟩
  | n + 1, cs, xs, h, us, hv, hl => by
    unfold decAll at h
    split at h
    · rename_i y hy
      split at h
      · rename_i ys hys
        injection h with h; subst h
        rw [Nat.add_mul] at hl
        obtain ⟨h1, h2⟩ := decAll_sound G n _ ys hys _ (hv.drop _) (by simp; omega)
        refine ⟨by simp [h1], fun i x hx => ?_⟩
        cases i with
        | zero =>
          simp at hx; subst hx
          rw [Nat.zero_mul, List.drop_zero]
          exact G.dec e _ _ hy E _ (hv.take _)
        | succ i =>
          have := h2 i x (by simpa using hx)
          rw [List.drop_drop] at this
          rw [Nat.add_mul]
          rwa [show X.L.size e + i * X.L.size e = i * X.L.size e + 1 * X.L.size e by omega] at this
      · cases h
    · cases h

/-- zero cells, over and over -/
def pats (z : Array Value) (n : Nat) : List Value := ((Array.range n).map (z[· % z.size]!)).toList

theorem length_pats (z : Array Value) (n : Nat) : (pats z n).length = n := by simp [pats]
theorem pats_get {z : Array Value} {n k : Nat} (h : k < n) (hz : 0 < z.size) : (pats z n)[k]? = z.toList[k % z.size]? := by
  have hm := Nat.mod_lt k hz
  have e : z.toList[k % z.size]? = some (z[k % z.size]!) := by
    rw [List.getElem?_eq_getElem (by simpa using hm)]
    simp [getElem!_pos, hm]
  rw [e]
  simp [pats, h]
theorem pats_row {z : Array Value} {c i : Nat} (hi : i < c) (hz : 0 < z.size) : ((pats z (c * z.size)).drop (i * z.size)).take z.size = z.toList := by
  apply List.ext_getElem?
  intro j
  rw [List.getElem?_take]
  have hmul : (i + 1) * z.size ≤ c * z.size := Nat.mul_le_mul_right _ (by omega)
  rw [Nat.add_mul] at hmul
  by_cases hj : j < z.size
  · rw [if_pos hj, List.getElem?_drop, pats_get (by omega) hz]
    congr 1
    rw [Nat.add_comm, Nat.add_mul_mod_self_right, Nat.mod_eq_of_lt hj]
  · rw [if_neg hj, List.getElem?_eq_none (by simp; omega)]

theorem length_reps (n : Nat) (cs : List (AV S)) : (reps n cs).length = n * cs.length := by
  induction n with
  | zero => simp [reps]
  | succ n ih => simp [reps, ih, Nat.add_mul]; omega
theorem reps_get (cs : List (AV S)) (h : 0 < cs.length) : ∀ (n k : Nat), k < n * cs.length → (reps n cs)[k]? = cs[k % cs.length]?
  | 0, k, hk => by omega
  | n + 1, k, hk => by
    simp only [reps, List.getElem?_append]
    rw [Nat.add_mul] at hk
    by_cases hlt : k < cs.length
    · rw [if_pos hlt, Nat.mod_eq_of_lt hlt]
    · rw [if_neg hlt, reps_get cs h n _ (by omega)]
      rw [Nat.mod_eq_sub_mod (by omega : cs.length ≤ k)]
theorem reps_vrs {cs : List (AV S)} {z : Array Value} (h : VRs X E cs z.toList) (n : Nat) (hz : 0 < z.size) : VRs X E (reps n cs) (pats z (n * z.size)) := by
  have hl : cs.length = z.size := by simpa using h.1
  refine ⟨by rw [length_reps, length_pats, hl], fun k a u ha hu => ?_⟩
  have hk : k < n * cs.length := by
    have := (List.getElem?_eq_some_iff.1 ha).1
    rwa [length_reps] at this
  rw [reps_get cs (by omega) n k hk] at ha
  rw [pats_get (by rw [← hl]; exact hk) hz, ← hl] at hu
  exact h.2 _ a u ha hu

/-- what the loud operations come to -/
def LoudR (P : Program) (X : Ctx S) (E : Env) (H : AH S) (w : World) (sem : Sem Value) (r : Res S) : Prop :=
  ∃ w' E' u, sem.run P w = .ok u w' ∧ VR X E' r.v u ∧ HR X E' r.H w' ∧ (∀ k, k ≤ H.length → Ext k E w E' w') ∧ (∀ b o, E.im b = some o → E'.im b = some o) ∧ (∀ l p, E.io l = some p → E'.io l = some p)

theorem Ext.fix {E' : Env} (him : ∀ b o, E.im b = some o → E'.im b = some o) (hio : E'.io = E.io) (hfx : ∀ b, E'.im b ≠ none → E.im b ≠ none ∨ E.own b) (k : Nat) : Ext k E w E' w :=
  ⟨⟨him, fun l _ => by rw [hio]⟩, fun b ⟨l, sh, wd, tot, h⟩ => .inl ⟨l, sh, wd, tot, by rw [← hio]; exact h⟩, fun b h => (hfx b h).imp id .inl, Nat.le_refl _, fun _ _ _ => rfl, rfl, rfl, rfl⟩

/-- a new block for a new place, behind what was frozen -/
theorem LoudR.mk {sem : Sem Value} {r : Res S} {u : Value} {E1 : Env} {H1 : AH S} {w' : World} {p : Loc} {b : Blk S}
    (hr1 : HR X E1 H1 w) (him : ∀ b o, E.im b = some o → E1.im b = some o) (hio : E1.io = E.io) (hlen : H1.length = H.length) (hfx : ∀ b, E1.im b ≠ none → E.im b ≠ none ∨ E.own b)
    (hrun : sem.run P w = .ok u w') (hH : r.H = H1 ++ [b]) (hv : VR X (E1.push H1.length p) r.v u) (hr2 : HR X (E1.push H1.length p) (H1 ++ [b]) w')
    (hsize : w.heap.size ≤ w'.heap.size) (hold : ∀ k, k < w.heap.size → w'.heap[k]? = w.heap[k]?) (hp : ∀ bb sh wd tot, p = .at bb sh wd tot → w.heap.size ≤ bb)
    (ho : w'.os = w.os) (ht : w'.tape = w.tape) (hu : w'.output = w.output) : LoudR P X E H w sem r :=
  ⟨w', _, u, hrun, hv, by rw [hH]; exact hr2, fun k hk => (Ext.fix him hio hfx k).trans (Ext.push hr1 (by omega) hsize hold hp ho ht hu),
    fun b o h => (push_keeps hr1 p).1 b o (him b o h), fun l q h => (push_keeps hr1 p).2 l q (by rw [hio]; exact h)⟩

theorem abuildSlice_sound (G : Good P X) {t : TypeId} {n : Nat} {ps : Array (Nat × Operand)} (hf : FR X E fr a) (hr : HR X E H w) {r : Res S}
    (h : abuildSlice X t n (ps.toList.map fun p => (p.1, opd fr p.2)) H = some r) (hob : ∀ p, r.ob = some p → p) :
    LoudR P X E H w (Instr.buildSlice t n (ps.map fun p => (p.1, a.eval p.2))) r := by
  unfold abuildSlice at h
  split at h
  · rename_i e hd
    split at h
    · rename_i cs hc
      split at h
      · rename_i p cs' H1 hz
        split at h
        · rename_i xs hxs
          split at h
          · rename_i hb
            simp only [Bool.and_eq_true, Nat.blt_eq] at hb
            have hb1 := Nat.le_of_ble_eq_true hb.1.1
            injection h with h; subst h
            obtain ⟨i, z, hi, hs, hby, hz0, hzs, hzv⟩ := zeroCells_sound (E := E) G hb.1.2 (Nat.eq_of_beq_eq_true hb.2)
            have hz0' : 0 < z.cells.size := by omega
            have hcells := reps_vrs hzv n hz0'
            have e1 : n * z.cells.size = n * i.size := by rw [hzs]
            obtain ⟨out, o1, o2⟩ := fill_sound _ _ _ hc ((Array.range (n * i.size)).map (z.cells[· % z.cells.size]!)) _ (by rw [← e1]; exact hcells) (parts_fst fr a ps) (parts_vr hf ps)
            obtain ⟨E1, f1, f2, f3, f4, f5, f6⟩ := freezeL_sound G _ _ _ _ _ _ _ hz (hob _ rfl) hr o2
            have hlenout : n * X.L.size e ≤ out.toList.length := by
              have h1 := o2.1
              have h2 : cs.length = n * X.L.size e := by
                have : ∀ (l : List (Nat × AV S)) (c c' : List (AV S)), fillA (fun i => some (i * X.L.size e, X.L.size e)) c l = some c' → c'.length = c.length := by
                  intro l
                  induction l with
                  | nil => intro c c' h; injection h with h; rw [h]
                  | cons q l ih =>
                    intro c c' h
                    obtain ⟨j, v⟩ := q
                    unfold fillA at h
                    simp only at h
                    split at h
                    · rename_i hq
                      simp only [Bool.and_eq_true] at hq
                      have q2 := Nat.le_of_ble_eq_true hq.1.2
                      have q1 := Nat.eq_of_beq_eq_true hq.1.1
                      rw [ih _ _ h]
                      simp only [over, List.length_append, List.length_take, List.length_drop]
                      omega
                    · cases h
                rw [this _ _ _ hc, length_reps]
                have : (zeroCells X e).length = X.L.size e := Nat.eq_of_beq_eq_true hb.2
                rw [this]
              omega
            obtain ⟨d1, d2⟩ := decAll_sound G n cs' xs hxs _ f2 hlenout
            have hrows : VRows X E1 e xs (out.toList.take (xs.length * X.L.size e)) := by
              refine ⟨by simp [d1] at hlenout ⊢; omega, fun k y hy => ?_⟩
              have hk : k < xs.length := (List.getElem?_eq_some_iff.1 hy).1
              have hmul : (k + 1) * X.L.size e ≤ xs.length * X.L.size e := Nat.mul_le_mul_right _ (by omega)
              rw [Nat.add_mul] at hmul
              rw [List.drop_take, List.take_take, show min (X.L.size e) (xs.length * X.L.size e - k * X.L.size e) = X.L.size e by omega]
              exact d2 k y hy
            have hn : n ≤ maxInt := by
              have : n * 1 ≤ n * X.L.size e := Nat.mul_le_mul_left n hb.1.2
              unfold maxInt; omega
            have hpush := push_lst (w0 := w) f1 (us := out) e hrows hb.1.2 (show xs.length ≤ n by omega) hn (by simpa using hlenout) rfl
            refine LoudR.mk f1 f3 f4 f5 f6 (u := .slice (some ⟨w.heap.size, 0, none⟩) n n) (w' := w.alloc (.cells out e)) ?_ rfl ?_ hpush (alloc_size _) (alloc_old _) (fun bb sh wd tot h => by cases h; exact Nat.le_refl _) rfl rfl rfl
            · have hsz : ¬ (n * i.size > 2 ^ 24) := by rw [hs]; omega
              by_cases hn0 : n * i.size = 0
              · have n0 : n = 0 := by
                  rcases Nat.mul_eq_zero.1 hn0 with h | h
                  · exact h
                  · omega
                subst n0
                have e0 : ∀ (g : Nat → Value), Array.map g (Array.range (0 * i.size)) = #[] := by intro g; simp
                rw [e0, ← hs] at o1
                simp only [Instr.buildSlice, Sem.run_bind, run_underlying (G.lay.slice hd), Result.andThen_ok, run_sizeOf hi, if_neg hsz, if_pos hn0, Sem.run_pure, e0, o1]
                simp [newRow]
              · rw [← hs] at o1
                simp only [Instr.buildSlice, Sem.run_bind, run_underlying (G.lay.slice hd), Result.andThen_ok, run_sizeOf hi, if_neg hsz, if_neg hn0, run_zeroValue hi hz0, Sem.run_pure, o1]
                simp [newRow]
            · refine .slc _ _ _ _ w.heap.size 0 (X.L.size e) n _ _ ?_ (by omega) (by omega) (Nat.le_refl _) hn (fun h => by cases h)
              rw [Env.push_io, if_pos rfl]
          · cases h
        · cases h
      · cases h
    · cases h
  · cases h

/-- a new block that is immutable at once -/
theorem HR.allocIm (hr : HR X E H w) (o : Obj) : HR X (E.fix w.heap.size o) H (w.alloc o) ∧ (∀ b' o', E.im b' = some o' → (E.fix w.heap.size o).im b' = some o') := by
  have him : ∀ b' o', E.im b' = some o' → (E.fix w.heap.size o).im b' = some o' := by
    intro b' o' h
    simp only [Env.fix]
    have := block_lt_of (hr.im b' o' h)
    rw [if_neg (by omega)]; exact h
  refine ⟨⟨hr.io, fun m hm => ?_, hr.inj, fun b' o' h => ?_, fun l b sh wd tot h1 h2 => ?_⟩, him⟩
  · obtain ⟨p, hp, hb⟩ := hr.blk m hm
    by_cases hd : getB H m = .dead
    · rw [hd]; exact ⟨p, hp, trivial⟩
    · refine ⟨p, hp, hb.mono him (fun _ _ h => h) fun bb sh wd tot e => alloc_old o _ ?_⟩
      subst e; exact hb.lt hd
  · simp only [Env.fix] at h
    by_cases e : b' = w.heap.size
    · subst e; rw [if_pos rfl] at h; injection h with h; subst h; exact alloc_new _
    · rw [if_neg e] at h
      have := hr.im b' o' h
      rw [alloc_old o b' (block_lt_of this)]; exact this
  · simp only [Env.fix] at h2
    by_cases e : b = w.heap.size
    · subst e
      by_cases hd : getB H l = .dead
      · exact hd
      · exact absurd ((hr.blk_at h1).lt hd) (by omega)
    · rw [if_neg e] at h2; exact hr.sep l b sh wd tot h1 h2

theorem abuildImm_sound (G : Good P X) {t : TypeId} {n : Nat} {ps : Array (Nat × Operand)} (hf : FR X E fr a) (hr : HR X E H w) {v : AV S}
    (h : abuildImm X t n (ps.toList.map fun p => (p.1, opd fr p.2)) = some v) :
    LoudR P X E H w (Instr.buildSlice t n (ps.map fun p => (p.1, a.eval p.2))) ⟨none, v, H⟩ := by
  unfold abuildImm at h
  split at h
  · rename_i e hd
    split at h
    · rename_i cs hc
      split at h
      · rename_i xs hxs
        split at h
        · rename_i hb
          simp only [Bool.and_eq_true, Nat.blt_eq] at hb
          have hb1 := Nat.le_of_ble_eq_true hb.1.1
          injection h with h; subst h
          obtain ⟨i, z, hi, hs, hby, hz0, hzs, hzv⟩ := zeroCells_sound (E := E) G hb.1.2 (Nat.eq_of_beq_eq_true hb.2)
          have hz0' : 0 < z.cells.size := by omega
          have hcells := reps_vrs hzv n hz0'
          have e1 : n * z.cells.size = n * i.size := by rw [hzs]
          obtain ⟨out, o1, o2⟩ := fill_sound _ _ _ hc ((Array.range (n * i.size)).map (z.cells[· % z.cells.size]!)) _ (by rw [← e1]; exact hcells) (parts_fst fr a ps) (parts_vr hf ps)
          have hlenout : n * X.L.size e ≤ out.toList.length := by
            have h1 := o2.1
            have h2 : cs.length = n * X.L.size e := by
              have : ∀ (l : List (Nat × AV S)) (c c' : List (AV S)), fillA (fun i => some (i * X.L.size e, X.L.size e)) c l = some c' → c'.length = c.length := by
                intro l
                induction l with
                | nil => intro c c' h; injection h with h; rw [h]
                | cons q l ih =>
                  intro c c' h
                  obtain ⟨j, v⟩ := q
                  unfold fillA at h
                  simp only at h
                  split at h
                  · rename_i hq
                    simp only [Bool.and_eq_true] at hq
                    have q2 := Nat.le_of_ble_eq_true hq.1.2
                    have q1 := Nat.eq_of_beq_eq_true hq.1.1
                    rw [ih _ _ h]
                    simp only [over, List.length_append, List.length_take, List.length_drop]
                    omega
                  · cases h
              rw [this _ _ _ hc, length_reps]
              have : (zeroCells X e).length = X.L.size e := Nat.eq_of_beq_eq_true hb.2
              rw [this]
            omega
          obtain ⟨d1, d2⟩ := decAll_sound G n cs xs hxs _ o2 hlenout
          have hn : n ≤ maxInt := by
            have : n * 1 ≤ n * X.L.size e := Nat.mul_le_mul_left n hb.1.2
            unfold maxInt; omega
          obtain ⟨q1, q2⟩ := hr.allocIm (.cells out e)
          have q3 : ∀ l p, E.io l = some p → (E.fix w.heap.size (.cells out e)).io l = some p := fun l p h => h
          refine ⟨w.alloc (.cells out e), _, .slice (some ⟨w.heap.size, 0, none⟩) n n, ?_, ?_, q1, fun k hk => ?_, q2, q3⟩
          · have hsz : ¬ (n * i.size > 2 ^ 24) := by rw [hs]; omega
            by_cases hn0 : n * i.size = 0
            · have n0 : n = 0 := by
                rcases Nat.mul_eq_zero.1 hn0 with h | h
                · exact h
                · omega
              subst n0
              have e0 : ∀ (g : Nat → Value), Array.map g (Array.range (0 * i.size)) = #[] := by intro g; simp
              rw [e0, ← hs] at o1
              simp only [Instr.buildSlice, Sem.run_bind, run_underlying (G.lay.slice hd), Result.andThen_ok, run_sizeOf hi, if_neg hsz, if_pos hn0, Sem.run_pure, e0, o1]
              simp [newRow]
            · rw [← hs] at o1
              simp only [Instr.buildSlice, Sem.run_bind, run_underlying (G.lay.slice hd), Result.andThen_ok, run_sizeOf hi, if_neg hsz, if_neg hn0, run_zeroValue hi hz0, Sem.run_pure, o1]
              simp [newRow]
          · refine .imm _ _ w.heap.size 0 n n out e (0, 0) (by simp [Env.fix]) d1.symm (Nat.le_refl _) hn (by simp at hlenout; omega) ?_
            intro k j x a' u' hx ha hu'
            refine ((d2 k x hx).mono q2 q3).2 j a' u' ha ?_
            have hj : j < X.L.size e := by
              have := (List.getElem?_eq_some_iff.1 ha).1
              rw [G.enc_len] at this; exact this
            rw [List.getElem?_take, if_pos hj, List.getElem?_drop, ← hu']
            congr 1; omega
          · refine ⟨⟨q2, fun l hl => rfl⟩, fun b hb => .inl hb, fun b hb => ?_, alloc_size _, fun b hb _ => alloc_old _ b hb, rfl, rfl, rfl⟩
            by_cases e : b = w.heap.size
            · exact .inr (.inr (by omega))
            · simp only [Env.fix, if_neg e] at hb; exact .inl hb
        · cases h
      · cases h
    · cases h
  · cases h

theorem rows_replicate (G : Good P X) {e : TypeId} {z : Value} {i : TypeInfo} (hh : X.has e = true) (hi : P.info? e = some i) (hz : i.zero = some z) (hs : z.cells.size = X.L.size e) (h0 : 0 < X.L.size e) {n c : Nat} (hn : n ≤ c) :
    VRows X E e (List.replicate n (X.zero e)) ((pats z.cells (c * X.L.size e)).take (n * X.L.size e)) := by
  have hmul : n * X.L.size e ≤ c * X.L.size e := Nat.mul_le_mul_right _ hn
  refine ⟨by rw [List.length_take, length_pats, List.length_replicate]; omega, fun k y hy => ?_⟩
  have hk : k < n := by have := (List.getElem?_eq_some_iff.1 hy).1; simpa using this
  have hy' : y = X.zero e := by
    rw [List.getElem?_replicate, if_pos hk] at hy; injection hy with hy; exact hy.symm
  subst hy'
  have hmul2 : (k + 1) * X.L.size e ≤ n * X.L.size e := Nat.mul_le_mul_right _ (by omega)
  rw [Nat.add_mul] at hmul2
  rw [List.drop_take, List.take_take, show min (X.L.size e) (n * X.L.size e - k * X.L.size e) = X.L.size e by omega]
  have := pats_row (z := z.cells) (c := c) (i := k) (by omega) (by omega)
  rw [hs] at this
  rw [this]
  exact G.zero e hh E i z hi hz

theorem amake_sound (G : Good P X) {t : TypeId} {l c : AV S} (hr : HR X E H w) {r : Res S} (h : amake X t l c H = some r) (hob : ∀ p, r.ob = some p → p) {u v : Value} (hl : VR X E l u) (hc : VR X E c v) :
    LoudR P X E H w (Instr.makeSlice t u v) r := by
  unfold amake at h
  split at h
  · rename_i e n m hd
    split at h
    · rename_i hb
      simp only [Bool.and_eq_true, Nat.blt_eq] at hb
      injection h with h; subst h
      obtain ⟨o1, o2, o3, o4⟩ := hob _ rfl
      cases hl; cases hc
      obtain ⟨i, z, hi, hs, hby, hz, hzs, _⟩ := G.lay.info e hb.1
      unfold maxInt at o4
      have hrows := rows_replicate (E := E) G hb.2 hi hz (by omega) hb.1 (n := n.toNat) (c := m.toNat) (by omega)
      have hpush := push_lst (w0 := w) hr (us := madeCells z.cells (m.toNat * X.L.size e)) (xs := List.replicate n.toNat (X.zero e)) e
        (by rw [List.length_replicate]; exact hrows) hb.1 (tot := m.toNat) (by simp; omega) (by unfold maxInt; omega) (by rw [size_madeCells]; exact Nat.le_refl _) rfl
      refine LoudR.mk hr (fun _ _ h => h) rfl rfl (fun _ h => .inl h) (u := .slice (some ⟨w.heap.size, 0, none⟩) n.toNat m.toNat) ?_ rfl ?_ hpush (alloc_size _) (alloc_old _) (fun bb sh wd tot h => by cases h; exact Nat.le_refl _) rfl rfl rfl
      · rw [← hs]
        have hbb : (i.bytes : Int) * m ≤ 281474976710656 := by
          rw [Int.mul_comm, hby]
          unfold maxBytes at o3
          omega
        exact run_make w t e i z (G.lay.slice hd) hi hz .i64 .i64 n m o1 o2 hbb (by omega)
      · refine .slc _ _ _ _ w.heap.size 0 (X.L.size e) m.toNat _ _ ?_ (by omega) (by omega) (by omega) (by unfold maxInt; omega) (fun h => by cases h)
        rw [Env.push_io, if_pos rfl]
    · cases h
  · cases h

/-- what stands in a slice, as values -/
theorem rowsOf_sound (G : Good P X) (hr : HR X E H w) {e : TypeId} {x : AV S} {p : Prop} {ys : List (S.T e)} (h : rowsOf H e x = some (p, ys)) (hp : p) {v : Value} (hx : VR X E x v) :
    ∃ aa c news, v = .slice aa ys.length c ∧ VRows X E e ys news ∧ (∀ u ∈ news, u.oneCell' = true) ∧ (ys.length = 0 ∨ ∃ ad, aa = some ad ∧ ∀ (j : Nat) u, news[j]? = some u → w.cell? (ad.add j) = some u) := by
  have nil : VRows X E e ([] : List (S.T e)) [] := ⟨by simp, fun i y hy => by simp at hy⟩
  have ones : ∀ (zs : List (S.T e)) (us : List Value), VRows X E e zs us → ∀ u ∈ us, u.oneCell' = true := by
    intro zs us hv u hu
    obtain ⟨k, hk⟩ := List.mem_iff_getElem?.1 hu
    have hlt : k < us.length := (List.getElem?_eq_some_iff.1 hk).1
    rw [hv.1] at hlt
    have hs : 0 < X.L.size e := by
      rcases Nat.eq_zero_or_pos (X.L.size e) with h0 | h0
      · rw [h0] at hlt; omega
      · exact h0
    have hi : k / X.L.size e < zs.length := (Nat.div_lt_iff_lt_mul hs).2 hlt
    have hrow := hv.2 (k / X.L.size e) zs[k / X.L.size e] (by simp [hi])
    have hmod := Nat.mod_lt k hs
    have hdm := Nat.div_add_mod k (X.L.size e)
    rw [Nat.mul_comm] at hdm
    have hju : ((us.drop (k / X.L.size e * X.L.size e)).take (X.L.size e))[k % X.L.size e]? = some u := by
      rw [List.getElem?_take, if_pos hmod, List.getElem?_drop, hdm]; exact hk
    have hlen : k % X.L.size e < (X.enc e zs[k / X.L.size e]).length := by rw [G.enc_len]; exact hmod
    have hv1 := hrow.2 (k % X.L.size e) _ u (List.getElem?_eq_getElem hlen) hju
    exact (vr_one hv1 (G.enc_one e _ _ (List.getElem_mem _))).1
  unfold rowsOf at h
  split at h
  · injection h with h; injection h with h1 h2; subst h2; cases hx
    exact ⟨none, 0, [], rfl, nil, by simp, .inl rfl⟩
  · injection h with h; injection h with h1 h2; subst h2
    cases hx with
    | emp0 => exact ⟨none, 0, [], rfl, nil, by simp, .inl rfl⟩
    | emp1 a => exact ⟨some a, 0, [], rfl, nil, by simp, .inl rfl⟩
  · rename_i e' xs
    split at h
    · rename_i ys' hc
      injection h with h; injection h with h1 h2; subst h2
      unfold castL at hc
      split at hc
      · rename_i he; subst he
        injection hc with hc; simp only at hc; subst hc
        cases hx with
        | imm0 => exact ⟨none, 0, [], rfl, nil, by simp, .inl rfl⟩
        | imm1 _ a cap => exact ⟨some a, cap, [], rfl, nil, by simp, .inl rfl⟩
        | imm _ _ b off len cap c el fz him hl h3 h4 h5 h6 =>
          subst hl
          have hg := hr.im _ _ him
          have hv : VRows X E e' xs ((c.toList.drop off).take (xs.length * X.L.size e')) := by
            refine ⟨by simp; omega, fun i y hy => ?_⟩
            have hi : i < xs.length := (List.getElem?_eq_some_iff.1 hy).1
            have hmul : (i + 1) * X.L.size e' ≤ xs.length * X.L.size e' := Nat.mul_le_mul_right _ (by omega)
            rw [Nat.add_mul] at hmul
            refine ⟨by rw [G.enc_len]; simp; omega, fun j a u ha hu => ?_⟩
            rw [List.getElem?_take] at hu
            split at hu
            · rw [List.getElem?_drop, List.getElem?_take] at hu
              split at hu
              · rw [List.getElem?_drop] at hu
                exact h6 i j y a u hy ha (by rw [← hu]; congr 1; omega)
              · cases hu
            · cases hu
          exact ⟨some ⟨b, off, none⟩, cap, _, rfl, hv, ones _ _ hv, .inr ⟨_, rfl, seg_get hg⟩⟩
      · cases hc
    · cases h
  · rename_i l off len cl
    split at h
    · rename_i e' xs hl
      split at h
      · rename_i ys' hc
        injection h with h; injection h with h1 h2; subst h2; subst h1
        unfold castL at hc
        split at hc
        · rename_i he; subst he
          injection hc with hc; simp only at hc; subst hc
          have hlen' : ((xs.drop off).take len).length = len := by simp; omega
          rw [hlen']
          cases hx with
          | slc _ _ _ _ b sh wd tot o cap hio ho h3 h4 h5 h6 =>
            have hb := hr.blk_at hio
            rw [hl] at hb
            obtain ⟨c, el, hg, hwd, hw0, hlen, htot, hsz, hrow⟩ := hb
            have hm1 : (off + len) * wd ≤ tot * wd := Nat.mul_le_mul_right _ (by omega)
            rw [Nat.add_mul] at hm1
            have hv : VRows X E e' ((xs.drop off).take len) ((c.toList.drop o).take (len * X.L.size e')) := by
              refine ⟨by rw [hlen']; simp; rw [← hwd]; omega, fun i y hy => ?_⟩
              rw [List.getElem?_take] at hy
              split at hy
              · rename_i hi
                rw [List.getElem?_drop] at hy
                have := hrow (off + i) y hy
                have hmul : (i + 1) * wd ≤ len * wd := Nat.mul_le_mul_right _ (by omega)
                rw [Nat.add_mul] at hmul
                rw [← hwd, List.drop_take, List.take_take, show min wd (len * wd - i * wd) = wd by omega, List.drop_drop, ho]
                rw [Nat.add_mul] at this
                rwa [show sh + off * wd + i * wd = sh + (off * wd + i * wd) by omega]
              · cases hy
            exact ⟨some ⟨b, o, none⟩, cap, _, rfl, hv, ones _ _ hv, .inr ⟨_, rfl, seg_get hg⟩⟩
          | void0 => rw [List.take_zero]; exact ⟨none, 0, [], rfl, nil, by simp, .inl rfl⟩
          | zero _ _ _ a => rw [List.take_zero]; exact ⟨some a, 0, [], rfl, nil, by simp, .inl rfl⟩
        · cases hc
      · cases h
    · cases h
  · cases h
end Ev
