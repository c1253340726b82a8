/- append, store, alloc; and the loud operations, all of them. -/
import Derived.Test.YtadmjjogmbhkaaaGreatDoorEv4
namespace Ev
open Go
variable {S : Sig} {P : Program} {X : Ctx S} {E E' : Env} {fr : Fr S} {H H1 : AH S} {a : Act} {w w' : World}

theorem run_append_zero {t ty e : TypeId} {i : TypeInfo} (ht : P.underlying t = some (.slice e)) (hi : P.info? e = some i) (base : Option Addr) (sLen sCap : Nat) (aa : Option Addr) (c : Nat) (h : sLen ≤ sCap) :
    (Builtin.append_ #[t, t] ty #[.slice base sLen sCap, .slice aa 0 c]).run P w = .ok (.slice base sLen sCap) w := by
  cases base <;> cases aa <;> simp [Builtin.append_, run_underlying ht, Go.sizeOf, typeInfo, hi, Builtin.lenOf, h, Builtin.firstCells, loadCells, loadCellsFrom, storeCells]

theorem run_append_room' {t ty e el : TypeId} {i : TypeInfo} (ht : P.underlying t = some (.slice e)) (hi : P.info? e = some i)
    (g o sLen sCap : Nat) (cur : Array Value) (hg : w.heap[g]? = some (.cells cur el (0, 0)))
    (ad : Addr) (m c : Nat) (news : List Value) (hl : news.length = m * i.size) (hnews : ∀ j u, news[j]? = some u → w.cell? (ad.add j) = some u) (h1 : ∀ u ∈ news, u.oneCell' = true)
    (hroom : sLen + m ≤ sCap) (hfit : o + sLen * i.size + news.length ≤ cur.size) :
    (Builtin.append_ #[t, t] ty #[.slice (some ⟨g, o, none⟩) sLen sCap, .slice (some ad) m c]).run P w =
      .ok (.slice (some ⟨g, o, none⟩) (sLen + m) sCap) (w.setRow g (cur.toList.take (o + sLen * i.size) ++ news ++ cur.toList.drop (o + sLen * i.size + news.length)).toArray) := by
  have hf := run_firstCells_some (P := P) w i.size m ad m c news hl hnews
  have hst := run_storeCells_at P g (o + sLen * i.size) el news 0 cur w hg (by simpa using hfit) h1
  simp only [Nat.add_zero] at hst
  simp [Builtin.append_, run_underlying ht, Go.sizeOf, typeInfo, hi, Builtin.lenOf, hroom, hf, addr_add, hst]

/-- a block that no living place has is taken for a new place; it alone may have turned -/
theorem HR.take (hr : HR X E H w) {b sh wd tot : Nat} {blk : Blk S} (hb : E.im b = none) (hfree : ∀ l sh wd tot, E.io l = some (.at b sh wd tot) → getB H l = .dead)
    (hsize : w'.heap.size = w.heap.size) (hw : ∀ k, k ≠ b → w'.heap[k]? = w.heap[k]?) (hB : BR X (E.push H.length (.at b sh wd tot)) w' blk (.at b sh wd tot)) :
    HR X (E.push H.length (.at b sh wd tot)) (H ++ [blk]) w' := by
  obtain ⟨k1, k2⟩ := push_keeps hr (.at b sh wd tot)
  refine ⟨fun l hl => ?_, fun l hl => ?_, fun l m bb sh1 wd1 tot1 sh2 wd2 tot2 h1 h2 h3 h4 => ?_, fun bb o h => ?_, fun l bb sh1 wd1 tot1 h1 h2 => ?_⟩
  · rw [Env.push_io, if_neg (by simp at hl; omega)]
    exact hr.io l (by simp at hl; omega)
  · rw [Env.push_io, getB_append]
    by_cases hl' : l = H.length
    · subst hl'; rw [if_pos rfl, if_pos rfl]; exact ⟨_, rfl, hB⟩
    · rw [if_neg hl', if_neg hl']
      obtain ⟨q, hq, hbq⟩ := hr.blk l (by simp at hl; omega)
      by_cases hd : getB H l = .dead
      · rw [hd]; exact ⟨q, hq, trivial⟩
      · refine ⟨q, hq, hbq.mono k1 k2 fun bb sh1 wd1 tot1 e => hw _ ?_⟩
        intro e2; subst e2; subst e
        exact hd (hfree l _ _ _ hq)
  · rw [Env.push_io] at h1 h2
    rw [getB_append] at h3 h4
    by_cases e1 : l = H.length <;> by_cases e2 : m = H.length
    · omega
    · rw [if_pos e1] at h1; rw [if_neg e2] at h2 h4
      injection h1 with h1; injection h1 with h1
      subst h1
      exact absurd (hfree m _ _ _ h2) h4
    · rw [if_neg e1] at h1 h3; rw [if_pos e2] at h2
      injection h2 with h2; injection h2 with h2
      subst h2
      exact absurd (hfree l _ _ _ h1) h3
    · rw [if_neg e1] at h1 h3; rw [if_neg e2] at h2 h4
      exact hr.inj l m bb sh1 wd1 tot1 sh2 wd2 tot2 h1 h2 h3 h4
  · have h' := hr.im bb o h
    rw [hw bb (fun e => by subst e; have : E.im bb = some o := h; rw [hb] at this; cases this)]; exact h'
  · rw [Env.push_io] at h1
    rw [getB_append]
    by_cases e1 : l = H.length
    · rw [if_pos e1] at h1
      injection h1 with h1; injection h1 with h1
      subst h1
      exact absurd hb h2
    · rw [if_neg e1] at h1 ⊢
      exact hr.sep l bb sh1 wd1 tot1 h1 h2

theorem Ext.take (hr : HR X E H w) {k b sh wd tot : Nat} (hk : k ≤ H.length) (hown : E.own b) (hsize : w'.heap.size = w.heap.size) (hw : ∀ k, k ≠ b → w'.heap[k]? = w.heap[k]?)
    (ho : w'.os = w.os) (ht : w'.tape = w.tape) (hu : w'.output = w.output) : Ext k E w (E.push H.length (.at b sh wd tot)) w' := by
  refine ⟨⟨fun _ _ h => h, fun l hl => ?_⟩, fun b' ⟨l, sh, wd, tot, h⟩ => ?_, fun b h => .inl h, by omega, fun b' hb' hn => hw b' (fun e => hn (e ▸ hown)), ho, ht, hu⟩
  · rw [Env.push_io, if_neg (by omega)]
  · rw [Env.push_io] at h
    split at h
    · injection h with h; injection h with h; exact .inl (h ▸ hown)
    · exact .inl ⟨l, sh, wd, tot, h⟩

theorem VRows.append {e : TypeId} {xs ys : List (S.T e)} {us vs : List Value} (h : VRows X E e xs us) (h' : VRows X E e ys vs) : VRows X E e (xs ++ ys) (us ++ vs) := by
  refine ⟨by rw [List.length_append, List.length_append, h.1, h'.1, Nat.add_mul], fun i y hy => ?_⟩
  rw [List.getElem?_append] at hy
  by_cases hi : i < xs.length
  · rw [if_pos hi] at hy
    have hmul : (i + 1) * X.L.size e ≤ xs.length * X.L.size e := Nat.mul_le_mul_right _ (by omega)
    rw [Nat.add_mul] at hmul
    have hl := h.1
    rw [List.drop_append_of_le_length (by omega), List.take_append_of_le_length (by simp; omega)]
    exact h.2 i y hy
  · rw [if_neg hi] at hy
    have := h'.2 _ y hy
    have e1 : i * X.L.size e = us.length + (i - xs.length) * X.L.size e := by rw [h.1, ← Nat.add_mul]; congr 1; omega
    rw [e1, ← List.drop_drop, List.drop_left]
    exact this

theorem setRow_other' {g : Nat} {cs : Array Value} : ∀ k, k ≠ g → (w.setRow g cs).heap[k]? = w.heap[k]? := fun k h => setRow_other w g k cs h
theorem setRow_size {g : Nat} {cs : Array Value} : (w.setRow g cs).heap.size = w.heap.size := by simp [World.setRow]

/-- rows that stand in a block from a shift on -/
theorem BR.of_rows {e : TypeId} {zs : List (S.T e)} {b sh tot : Nat} {c : Array Value} {el : TypeId} (hg : w.heap[b]? = some (.cells c el (0, 0))) (hs : 0 < X.L.size e) (hz : zs.length ≤ tot) (ht : tot ≤ maxInt)
    (hsz : sh + tot * X.L.size e ≤ c.size) (hv : VRows X E e zs ((c.toList.drop sh).take (zs.length * X.L.size e))) : BR X E w (.lst e zs) (.at b sh (X.L.size e) tot) := by
  refine ⟨c, el, hg, rfl, hs, hz, ht, hsz, fun i x hx => ?_⟩
  have hi : i < zs.length := (List.getElem?_eq_some_iff.1 hx).1
  have hmul : (i + 1) * X.L.size e ≤ zs.length * X.L.size e := Nat.mul_le_mul_right _ (by omega)
  rw [Nat.add_mul] at hmul
  have := hv.2 i x hx
  rw [List.drop_take, List.take_take, show min (X.L.size e) (zs.length * X.L.size e - i * X.L.size e) = X.L.size e by omega, List.drop_drop] at this
  exact this

/-- where the appended-to slice lies -/
inductive Dst (Y : Ctx S) (F : Env) (K : AH S) (v : World) (e : TypeId) : Option Addr → Nat → Nat → List Value → Prop
  | none : Dst Y F K v e none 0 0 []
  | zero (ad : Addr) : Dst Y F K v e (some ad) 0 0 []
  | at (b o len cap : Nat) (c : Array Value) (el : TypeId) : v.heap[b]? = some (.cells c el (0, 0)) → len ≤ cap → cap ≤ maxInt → o + cap * Y.L.size e ≤ c.size → F.own b → F.im b = none →
      (∀ l sh wd tot, F.io l = some (.at b sh wd tot) → getB K l = .dead) → Dst Y F K v e (some ⟨b, o, none⟩) len cap ((c.toList.drop o).take (len * Y.L.size e))

theorem append_core (G : Good P X) (hr1 : HR X E H1 w) (hlen : H1.length = H.length) {t ty e : TypeId} (hd : X.L.ds t = .slice e) (hs : 0 < X.L.size e) {base : Option Addr} {len cap : Nat} {olds : List Value}
    {xs0 ys : List (S.T e)} (hdst : Dst X E H1 w e base len cap olds) (hxs : xs0.length = len) (holds : VRows X E e xs0 olds) {aa : Option Addr} {c : Nat} {news : List Value} (hnews : VRows X E e ys news)
    (hone : ∀ u ∈ news, u.oneCell' = true) (hsrc : ys.length = 0 ∨ ∃ ad, aa = some ad ∧ ∀ (j : Nat) u, news[j]? = some u → w.cell? (ad.add j) = some u)
    (hb : (len + ys.length) * X.L.bytes e ≤ maxBytes) (hm : len + ys.length ≤ maxInt) {ob : Option Prop} :
    LoudR P X E H w (Builtin.append_ #[t, t] ty #[.slice base len cap, .slice aa ys.length c]) ⟨ob, .slc H1.length 0 (len + ys.length) false, H1 ++ [.lst e (xs0 ++ ys)]⟩ := by
  obtain ⟨i, z, hi, hsi, hby, hz, hzs, _⟩ := G.lay.info e hs
  have ht := G.lay.slice hd
  have hself : ∀ p, (E.push H1.length p).io H1.length = some p := fun p => by rw [Env.push_io, if_pos rfl]
  have hl63 : ((len + ys.length : Nat) : Int) ≤ 9223372036854775807 := by unfold maxInt at hm; omega
  unfold maxBytes at hb
  have hml : len + ys.length ≤ maxLen := by unfold maxInt at hm; simp only [maxLen]; omega
  -- the result in a new block
  have grown : ∀ (us : Array Value) (capn : Nat), len + ys.length ≤ capn → capn ≤ maxLen → us.toList.take ((xs0 ++ ys).length * X.L.size e) = olds ++ news → capn * X.L.size e ≤ us.size →
      (Builtin.append_ #[t, t] ty #[.slice base len cap, .slice aa ys.length c]).run P w = .ok (.slice (some ⟨w.heap.size, 0, none⟩) (len + ys.length) capn) (w.drew.alloc (.cells us e)) →
      LoudR P X E H w (Builtin.append_ #[t, t] ty #[.slice base len cap, .slice aa ys.length c]) ⟨ob, .slc H1.length 0 (len + ys.length) false, H1 ++ [.lst e (xs0 ++ ys)]⟩ := by
    intro us capn h1 h2 h3 h4 hrun
    have h2' : capn ≤ maxInt := by simp only [maxLen] at h2; unfold maxInt; omega
    have hpush := push_lst (w0 := w.drew) hr1 (us := us) (xs := xs0 ++ ys) e (by rw [h3]; exact holds.append hnews) hs (tot := capn) (by rw [List.length_append, hxs]; exact h1) h2' h4 rfl
    refine LoudR.mk hr1 (fun _ _ h => h) rfl hlen (fun _ h => .inl h) hrun rfl ?_ hpush (by simp) (fun k hk => heap_alloc_old w.drew _ hk) (fun bb sh wd tot h => by cases h; exact Nat.le_refl _) rfl rfl rfl
    exact .slc _ _ _ _ w.heap.size 0 (X.L.size e) capn _ _ (hself _) (by omega) (by omega) h1 h2' (fun h => by cases h)
  have hzc : 0 < z.cells.size := by omega
  have hzc' : ∀ n, (Builtin.zeroCells z.cells n).size = n * X.L.size e := fun n => by rw [size_zeroCells, hzs, hsi]
  have hol : olds.length = len * X.L.size e := by rw [holds.1, hxs]
  have hnl := hnews.1
  have hcat : (xs0 ++ ys).length * X.L.size e = (olds ++ news).length := by rw [List.length_append, List.length_append, hol, hnl, hxs, Nat.add_mul]
  rcases Nat.eq_zero_or_pos ys.length with hy0 | hy0
  · -- nothing is appended
    have hy : ys = [] := List.eq_nil_of_length_eq_zero hy0
    subst hy
    have hn0 : news = [] := List.eq_nil_of_length_eq_zero (by rw [hnl]; simp)
    subst hn0
    simp only [List.length_nil, Nat.add_zero, List.append_nil]
    cases hdst with
    | none =>
      have hx0 : xs0 = [] := List.eq_nil_of_length_eq_zero hxs
      subst hx0
      refine LoudR.mk hr1 (fun _ _ h => h) rfl hlen (fun _ h => .inl h) (p := .void) (w' := w) (run_append_zero ht hi none 0 0 aa c (Nat.le_refl _)) rfl (.void0 _ _ _ (hself _)) ?_ (Nat.le_refl _) (fun _ _ => rfl) (fun _ _ _ _ h => by cases h) rfl rfl rfl
      exact hr1.push (Nat.le_refl _) (fun _ _ => rfl) (fun _ _ _ _ h => by cases h) (show ([] : List (S.T e)) = [] from rfl)
    | zero ad =>
      have hx0 : xs0 = [] := List.eq_nil_of_length_eq_zero hxs
      subst hx0
      refine LoudR.mk hr1 (fun _ _ h => h) rfl hlen (fun _ h => .inl h) (p := .void) (w' := w) (run_append_zero ht hi (some ad) 0 0 aa c (Nat.le_refl _)) rfl (.zero _ _ _ _ _ (hself _)) ?_ (Nat.le_refl _) (fun _ _ => rfl) (fun _ _ _ _ h => by cases h) rfl rfl rfl
      exact hr1.push (Nat.le_refl _) (fun _ _ => rfl) (fun _ _ _ _ h => by cases h) (show ([] : List (S.T e)) = [] from rfl)
    | «at» b o _ _ cc el hg h1 h2 h3 hown him hfree =>
      obtain ⟨k1, k2⟩ := push_keeps hr1 (.at b o (X.L.size e) cap)
      refine ⟨w, E.push H1.length (.at b o (X.L.size e) cap), _, run_append_zero ht hi _ len cap aa c h1, ?_, ?_, fun k hk => Ext.take hr1 (by omega) hown rfl (fun _ _ => rfl) rfl rfl rfl, k1, k2⟩
      · exact .slc _ _ _ _ b o (X.L.size e) cap _ _ (hself _) (by omega) (by omega) h1 h2 (fun h => by cases h)
      · refine hr1.take him hfree rfl (fun _ _ => rfl) (BR.of_rows hg hs (by omega) h2 h3 ?_)
        rw [hxs]; exact holds.mono k1 k2
  · -- something is
    obtain ⟨ad, rfl, hcells⟩ : ∃ ad, aa = some ad ∧ ∀ (j : Nat) u, news[j]? = some u → w.cell? (ad.add j) = some u := by
      rcases hsrc with h | h
      · omega
      · exact h
    cases hdst with
    | none =>
      have hx0 : xs0 = [] := List.eq_nil_of_length_eq_zero hxs
      subst hx0
      have hr0 := run_append_nil (P := P) w t ty e i z ht hi hz ad ys.length c news (by rw [hsi]; exact hnl) hcells hy0 (by omega) (by rw [hby]; rw [Nat.zero_add] at hb; omega)
      have hge := grownCap_ge w ys.length 0 e
      have hle := grownCap_le_maxLen w ys.length 0 e (by omega)
      refine grown _ _ (by omega) hle ?_ ?_ (by rw [Nat.zero_add]; exact hr0)
      · rw [hcat]
        simp only [Array.toList_append, List.nil_append]
        exact List.take_left
      · simp only [Array.size_append, List.size_toArray, hzc', hnl, ← Nat.add_mul]
        exact Nat.mul_le_mul_right _ (by omega)
    | zero ad' =>
      have hx0 : xs0 = [] := List.eq_nil_of_length_eq_zero hxs
      subst hx0
      have hr0 := run_append_grow (P := P) w t ty e i z ht hi hz ad' 0 0 [] (by simp) (fun j v h => by simp at h) ad ys.length c news (by rw [hsi]; exact hnl) hcells (by omega) (by omega) (by rw [hby]; exact growslice_fits (by omega) hb)
      have hge := grownCap_ge w (0 + ys.length) 0 e
      have hle := grownCap_le_maxLen w (0 + ys.length) 0 e (by omega)
      refine grown _ _ hge hle ?_ ?_ hr0
      · rw [hcat]
        simp only [Array.toList_append, List.nil_append]
        exact List.take_left
      · simp only [Array.size_append, List.size_toArray, List.length_nil, hzc', hnl, ← Nat.add_mul, Nat.zero_add]
        rw [Nat.zero_add] at hge
        exact Nat.mul_le_mul_right _ (by omega)
    | «at» b o _ _ cc el hg h1 h2 h3 hown him hfree =>
      by_cases hroom : len + ys.length ≤ cap
      · have hmul : (len + ys.length) * X.L.size e ≤ cap * X.L.size e := Nat.mul_le_mul_right _ hroom
        rw [Nat.add_mul] at hmul
        have hfit : o + len * X.L.size e + news.length ≤ cc.size := by omega
        have hr0 := run_append_room' (P := P) (w := w) (ty := ty) ht hi b o len cap cc hg ad ys.length c news (by rw [hsi]; exact hnl) hcells hone hroom (by rw [hsi]; exact hfit)
        rw [hsi] at hr0
        obtain ⟨k1, k2⟩ := push_keeps hr1 (.at b o (X.L.size e) cap)
        refine ⟨_, E.push H1.length (.at b o (X.L.size e) cap), _, hr0, ?_, ?_, fun k hk => Ext.take hr1 (by omega) hown setRow_size setRow_other' rfl rfl rfl, k1, k2⟩
        · exact .slc _ _ _ _ b o (X.L.size e) cap _ _ (hself _) (by omega) (by omega) hroom h2 (fun h => by cases h)
        · have hoc : (cc.toList.drop o).take (len * X.L.size e) ++ news = ((cc.toList.take (o + len * X.L.size e) ++ news ++ cc.toList.drop (o + len * X.L.size e + news.length)).drop o).take (len * X.L.size e + news.length) := by
            have e1 : (cc.toList.take (o + len * X.L.size e)).drop o = (cc.toList.drop o).take (len * X.L.size e) := by
              rw [List.drop_take]; congr 1; omega
            have hl1 : o ≤ (cc.toList.take (o + len * X.L.size e)).length := by simp; omega
            rw [List.append_assoc, List.drop_append_of_le_length hl1, e1, ← List.append_assoc]
            have hl2 : ((cc.toList.drop o).take (len * X.L.size e) ++ news).length = len * X.L.size e + news.length := by simp; omega
            rw [← hl2, List.take_left]
          refine hr1.take him hfree setRow_size setRow_other' (BR.of_rows (setRow_heap w b cc _ el _ hg) hs (by rw [List.length_append, hxs]; exact hroom) h2 (by simp; omega) ?_)
          rw [hcat]
          simp only [List.length_append, hol]
          rw [← hoc]
          exact (holds.append hnews).mono k1 k2
      · have hseg := seg_get (w := w) (off := o) (n := len * X.L.size e) hg
        have hr0 := run_append_grow (P := P) w t ty e i z ht hi hz ⟨b, o, none⟩ len cap _ (by rw [hsi]; exact hol) hseg ad ys.length c news (by rw [hsi]; exact hnl) hcells (by omega) (by omega) (by rw [hby]; exact growslice_fits (by omega) hb)
        have hge := grownCap_ge w (len + ys.length) cap e
        have hle := grownCap_le_maxLen w (len + ys.length) cap e (by omega)
        refine grown _ _ hge hle ?_ ?_ hr0
        · rw [hcat]
          simp only [Array.toList_append]
          exact List.take_left
        · simp only [Array.size_append, List.size_toArray, hzc', hol, hnl, ← Nat.add_mul]
          exact Nat.mul_le_mul_right _ (by omega)

theorem aappend_sound (G : Good P X) (hr : HR X E H w) {t t' ty : TypeId} {s x : AV S} {r : Res S} (h : aappend X t t' s x H = some r) (hob : ∀ p, r.ob = some p → p) {u v : Value} (hs : VR X E s u) (hx : VR X E x v) :
    LoudR P X E H w (Builtin.append_ #[t, t'] ty #[u, v]) r := by
  unfold aappend at h
  split at h
  · rename_i e hd
    split at h
    · rename_i hb
      simp only [Bool.and_eq_true, Nat.blt_eq] at hb
      have htt := Nat.eq_of_beq_eq_true hb.1; subst htt
      have h0 := hb.2
      have nil : VRows X E e ([] : List (S.T e)) [] := ⟨by simp, fun i y hy => by simp at hy⟩
      split at h
      · rename_i p ys hrows
        have plain : ∀ {q : Prop}, (p ∧ ys.length * X.L.bytes e ≤ maxBytes ∧ ys.length ≤ maxInt) → Dst X E H w e (match u with | .slice b _ _ => b | _ => none) 0 0 [] → (∃ b, u = .slice b 0 0) →
            LoudR P X E H w (Builtin.append_ #[t, t] ty #[u, v]) ⟨some q, .slc H.length 0 ys.length false, H ++ [.lst e ys]⟩ := by
          intro q ho hdst ⟨b, hu⟩
          subst hu
          obtain ⟨aa, c, news, rfl, n1, n2, n3⟩ := rowsOf_sound G hr hrows ho.1 hx
          have := append_core G hr rfl hd h0 hdst (xs0 := []) rfl nil n1 n2 n3 (by rw [Nat.zero_add]; exact ho.2.1) (by rw [Nat.zero_add]; exact ho.2.2) (ob := some q) (ty := ty) (c := c)
          simp only [Nat.zero_add, List.nil_append] at this
          exact this
        split at h
        · rename_i l off len cl
          split at h
          · rename_i e' xs hl
            split at h
            · rename_i xs' hc
              unfold castL at hc
              split at hc
              · rename_i he; subst he
                injection hc with hc; simp only at hc; subst hc
                split at h
                · rename_i hcl
                  simp only [Bool.and_eq_true] at hcl
                  have hl0 := Nat.eq_of_beq_eq_true hcl.2; subst hl0
                  injection h with h; subst h
                  have ho := hob _ rfl
                  cases hs with
                  | slc _ _ _ _ b sh wd tot o cap hio ho' h3 h4 h5 h6 =>
                    have := h6 hcl.1; subst this
                    exact plain ho (.zero _) ⟨_, rfl⟩
                  | void0 => exact plain ho .none ⟨_, rfl⟩
                  | zero => exact plain ho (.zero _) ⟨_, rfl⟩
                · injection h with h; subst h
                  obtain ⟨o1, o2, o3, o4⟩ := hob _ rfl
                  have hda : getB H l ≠ .dead := by rw [hl]; simp
                  have hlt := getB_lt hda
                  obtain ⟨aa, c, news, rfl, n1, n2, n3⟩ := rowsOf_sound G hr hrows o1 hx
                  have hr1 := hr.kill hlt
                  have hxl : ((xs.drop off).take len).length = len := by simp; omega
                  cases hs with
                  | slc _ _ _ _ b sh wd tot o cap hio ho' h3 h4 h5 h6 =>
                    have hbb := hr.blk_at hio
                    rw [hl] at hbb
                    obtain ⟨cc, el, hg, hwd, hw0, hlen, htot, hsz, hrow⟩ := hbb
                    have hm2 : (off + cap) * wd ≤ tot * wd := Nat.mul_le_mul_right _ h3
                    rw [Nat.add_mul] at hm2
                    have hm3 : len * wd ≤ cap * wd := Nat.mul_le_mul_right _ h4
                    have him : E.im b = none := by
                      cases hi : E.im b with
                      | none => rfl
                      | some q => exact absurd (hr.sep l b _ _ _ hio (by rw [hi]; simp)) hda
                    have hfree : ∀ l' sh wd tot, E.io l' = some (.at b sh wd tot) → getB (setB H l .dead) l' = .dead := by
                      intro l' sh' wd' tot' hio'
                      rw [getB_set_dead hlt]
                      split
                      · rfl
                      · rename_i hne
                        cases hq : getB H l' with
                        | dead => rfl
                        | _ => exact absurd (hr.inj l' l b _ _ _ _ _ _ hio' hio (by rw [hq]; simp) hda) hne
                    have hdst : Dst X E (setB H l .dead) w e' (some ⟨b, o, none⟩) len cap ((cc.toList.drop o).take (len * X.L.size e')) :=
                      .at b o len cap cc el hg h4 h5 (by rw [ho', ← hwd]; omega) ⟨l, _, _, _, hio⟩ him hfree
                    have hv : VRows X E e' ((xs.drop off).take len) ((cc.toList.drop o).take (len * X.L.size e')) := by
                      refine ⟨by rw [hxl]; simp; rw [← hwd]; omega, fun i y hy => ?_⟩
                      rw [List.getElem?_take] at hy
                      split at hy
                      · rename_i hi
                        rw [List.getElem?_drop] at hy
                        have := hrow (off + i) y hy
                        have hmul : (i + 1) * wd ≤ len * wd := Nat.mul_le_mul_right _ (by omega)
                        rw [Nat.add_mul] at hmul
                        rw [← hwd, List.drop_take, List.take_take, show min wd (len * wd - i * wd) = wd by omega, List.drop_drop, ho']
                        rw [Nat.add_mul] at this
                        rwa [show sh + off * wd + i * wd = sh + (off * wd + i * wd) by omega]
                      · cases hy
                    have := append_core G hr1 (length_setB _ _ _) hd h0 hdst hxl hv n1 n2 n3 o3 o4 (ob := some (p ∧ off + len ≤ xs.length ∧ (len + ys.length) * X.L.bytes e' ≤ maxBytes ∧ len + ys.length ≤ maxInt)) (ty := ty) (c := c)
                    rw [length_setB] at this
                    exact this
                  | void0 _ _ _ hio =>
                    have := append_core G hr1 (length_setB _ _ _) hd h0 (.none) (xs0 := []) rfl nil n1 n2 n3 o3 o4 (ob := some (p ∧ off + 0 ≤ xs.length ∧ (0 + ys.length) * X.L.bytes e' ≤ maxBytes ∧ 0 + ys.length ≤ maxInt)) (ty := ty) (c := c)
                    rw [length_setB] at this
                    rw [List.take_zero]; exact this
                  | zero _ _ _ ad _ hio =>
                    have := append_core G hr1 (length_setB _ _ _) hd h0 (.zero ad) (xs0 := []) rfl nil n1 n2 n3 o3 o4 (ob := some (p ∧ off + 0 ≤ xs.length ∧ (0 + ys.length) * X.L.bytes e' ≤ maxBytes ∧ 0 + ys.length ≤ maxInt)) (ty := ty) (c := c)
                    rw [length_setB] at this
                    rw [List.take_zero]; exact this
              · cases hc
            · cases h
          · cases h
        · injection h with h; subst h
          have ho := hob _ rfl
          cases hs
          exact plain ho .none ⟨_, rfl⟩
        · injection h with h; subst h
          have ho := hob _ rfl
          cases hs with
          | emp0 => exact plain ho .none ⟨_, rfl⟩
          | emp1 => exact plain ho (.zero _) ⟨_, rfl⟩
        · cases h
      · cases h
    · cases h
  · cases h

/-- what is written into a place that is kept -/
theorem HR.write (hr : HR X E H w) {l b sh wd tot : Nat} {blk : Blk S} (hio : E.io l = some (.at b sh wd tot)) (hd : getB H l ≠ .dead) (hsize : w'.heap.size = w.heap.size) (hw : ∀ k, k ≠ b → w'.heap[k]? = w.heap[k]?)
    (hB : BR X E w' blk (.at b sh wd tot)) : HR X E (setB H l blk) w' := by
  have hl := hr.lt hio
  have him : E.im b = none := by
    cases hi : E.im b with
    | none => rfl
    | some q => exact absurd (hr.sep l b _ _ _ hio (by rw [hi]; simp)) hd
  refine ⟨fun m hm => hr.io m (by rw [length_setB] at hm; exact hm), fun m hm => ?_, fun i j bb sh1 wd1 tot1 sh2 wd2 tot2 h1 h2 h3 h4 => ?_, fun bb o h => ?_, fun i bb sh1 wd1 tot1 h1 h2 => ?_⟩
  · rw [length_setB] at hm
    rw [getB_setB _ _ _ _ hl]
    by_cases e : m = l
    · subst e; rw [if_pos rfl]; exact ⟨_, hio, hB⟩
    · rw [if_neg e]
      obtain ⟨q, hq, hbq⟩ := hr.blk m hm
      by_cases hdm : getB H m = .dead
      · rw [hdm]; exact ⟨q, hq, trivial⟩
      · refine ⟨q, hq, hbq.mono (fun _ _ h => h) (fun _ _ h => h) fun bb sh1 wd1 tot1 e1 => hw _ ?_⟩
        intro e2; subst e2; subst e1
        exact e (hr.inj m l _ _ _ _ _ _ _ hq hio hdm hd)
  · rw [getB_setB _ _ _ _ hl] at h3 h4
    have h3' : getB H i ≠ .dead := by
      by_cases e : i = l
      · subst e; exact hd
      · rwa [if_neg e] at h3
    have h4' : getB H j ≠ .dead := by
      by_cases e : j = l
      · subst e; exact hd
      · rwa [if_neg e] at h4
    exact hr.inj i j bb _ _ _ _ _ _ h1 h2 h3' h4'
  · have h' := hr.im bb o h
    rw [hw bb (fun e => by subst e; rw [him] at h; cases h)]; exact h'
  · rw [getB_setB _ _ _ _ hl]
    have hdi := hr.sep i bb sh1 wd1 tot1 h1 h2
    by_cases e : i = l
    · subst e; exact absurd hdi hd
    · rw [if_neg e]; exact hdi

theorem Ext.write {k b : Nat} (hown : E.own b) (hsize : w'.heap.size = w.heap.size) (hw : ∀ k, k ≠ b → w'.heap[k]? = w.heap[k]?)
    (ho : w'.os = w.os) (ht : w'.tape = w.tape) (hu : w'.output = w.output) : Ext k E w E w' :=
  ⟨⟨fun _ _ h => h, fun _ _ => rfl⟩, fun _ h => .inl h, fun _ h => .inl h, by omega, fun b' _ hn => hw b' (fun e => hn (e ▸ hown)), ho, ht, hu⟩

def StoreR (P : Program) (X : Ctx S) (E : Env) (H : AH S) (w : World) (sem : Sem Unit) (r : Res S) : Prop :=
  ∃ w' E', sem.run P w = .ok () w' ∧ HR X E' r.H w' ∧ (∀ k, k ≤ H.length → Ext k E w E' w') ∧ (∀ b o, E.im b = some o → E'.im b = some o) ∧ (∀ l p, E.io l = some p → E'.io l = some p)

theorem allOne_sound : ∀ (vs : List (AV S)) (us : List Value), allOne vs = true → VRs X E vs us → ∀ u ∈ us, u.oneCell' = true
  | [], us, _, hv => by rw [hv.inv_nil]; simp
  | v :: vs, us, h, hv => by
    obtain ⟨u, us, rfl, h1, h2⟩ := hv.inv_cons
    simp only [allOne, Bool.and_eq_true] at h
    intro x hx
    rcases List.mem_cons.1 hx with rfl | hx
    · exact (vr_one h1 h.1).1
    · exact allOne_sound vs us h.2 h2 x hx
theorem allOne_cells : ∀ {v : AV S} {u : Value}, allOne (cellsOf v) = true → VR X E v u → VRs X E (cellsOf v) u.cells.toList := by
  intro v u h hv
  refine vr_cells hv (fun e => ?_) (fun cs e => ?_)
  · subst e; cases h
  · subst e; cases h

theorem run_storeAt {t : TypeId} {i : TypeInfo} {b o : Nat} {u : Value} {c : Array Value} {el : TypeId} (hi : P.info? t = some i) (hu : u.cells.size = i.size) (hg : w.heap[b]? = some (.cells c el (0, 0)))
    (hfit : o + i.size ≤ c.size) (h1 : ∀ x ∈ u.cells.toList, x.oneCell' = true) :
    (Instr.storeAt t (.pointer (some ⟨b, o, none⟩)) u).run P w = .ok () (w.setRow b (c.toList.take o ++ u.cells.toList ++ c.toList.drop (o + u.cells.toList.length)).toArray) := by
  have hst := run_storeCells_at P b o el u.cells.toList 0 c w hg (by simp; omega) h1
  simp only [Nat.add_zero] at hst
  have hn : ¬ (u.cells.size ≠ i.size) := by omega
  simp only [Instr.storeAt, Instr.sureAddr, storeVar, Sem.run_bind, Sem.run_pure, Result.andThen_ok, run_sizeOf hi, if_neg hn, hst]

theorem splice_row (C V : List Value) (B W o n : Nat) (ho : o = B + n) (h : n + V.length ≤ W) (hC : B + W ≤ C.length) :
    ((C.take o ++ V ++ C.drop (o + V.length)).drop B).take W = ((C.drop B).take W).take n ++ V ++ ((C.drop B).take W).drop (n + V.length) := by
  subst ho
  have hto : (C.take (B + n)).length = B + n := by simp; omega
  have hl1 : (((C.drop B).take W).take n).length = n := by simp; omega
  apply List.ext_getElem?
  intro j
  rw [List.getElem?_take]
  by_cases hj : j < W
  · rw [if_pos hj, List.getElem?_drop]
    by_cases h1 : j < n
    · rw [List.append_assoc, List.getElem?_append_left (by rw [hto]; omega), List.getElem?_take, if_pos (by omega), List.append_assoc, List.getElem?_append_left (by rw [hl1]; exact h1),
        List.getElem?_take, if_pos h1, List.getElem?_take, if_pos hj, List.getElem?_drop]
    · by_cases h2 : j < n + V.length
      · rw [List.append_assoc, List.getElem?_append_right (by rw [hto]; omega), hto, List.getElem?_append_left (by omega), List.append_assoc, List.getElem?_append_right (by rw [hl1]; omega), hl1,
          List.getElem?_append_left (by omega)]
        congr 1; omega
      · rw [List.getElem?_append_right (by rw [List.length_append, hto]; omega), List.length_append, hto, List.getElem?_drop, List.getElem?_append_right (by rw [List.length_append, hl1]; omega), List.length_append, hl1,
          List.getElem?_drop, List.getElem?_take, if_pos (by omega), List.getElem?_drop]
        congr 1; omega
  · rw [if_neg hj, List.getElem?_eq_none (by simp; omega)]

theorem astore_sound (G : Good P X) (hr : HR X E H w) {t : TypeId} {x y : AV S} {r : Res S} (h : astore X t H x y = some r) (hob : ∀ p, r.ob = some p → p) {u v : Value} (hx : VR X E x u) (hy : VR X E y v) :
    StoreR P X E H w (Instr.storeAt t u v) r ∧ r.v = .top := by
  unfold astore at h
  split at h
  · rename_i l row sub
    cases hx with
    | ptr _ _ _ b sh wd tot o hio ho =>
    split at h
    · rename_i cs hl
      split at h
      · rename_i hq
        simp only [Bool.and_eq_true, Nat.blt_eq] at hq
        obtain ⟨⟨⟨⟨q1, q2⟩, q3⟩, q4⟩, q5⟩ := hq
        have q1 := Nat.eq_of_beq_eq_true q1; subst q1
        have q2 := Nat.eq_of_beq_eq_true q2
        have q3 := Nat.le_of_ble_eq_true q3
        injection h with h; subst h
        refine ⟨?_, rfl⟩
        have hda : getB H l ≠ .dead := by rw [hl]; simp
        have hb := hr.blk_at hio
        rw [hl] at hb
        obtain ⟨c, el, hg, hsh, hv⟩ := hb
        subst hsh
        obtain ⟨i, z, hi, hs, _⟩ := G.lay.info t q5
        have hcv := allOne_cells q4 hy
        have hvs : v.cells.size = i.size := by have := hcv.1; simp at this; omega
        have hcl : cs.length = c.size := by simpa using hv.1
        have ho' : o = sub := by omega
        subst ho'
        have hrun := run_storeAt (P := P) (w := w) (o := o) hi hvs hg (by omega) (allOne_sound _ _ q4 hcv)
        have hov := hv.over o hcv
        refine ⟨_, E, hrun, hr.write hio hda setRow_size setRow_other' ⟨_, el, setRow_heap w b c _ el _ hg, rfl, by simpa using hov⟩, fun k _ => Ext.write ⟨l, _, _, _, hio⟩ setRow_size setRow_other' rfl rfl rfl, fun _ _ h => h, fun _ _ h => h⟩
      · cases h
    · rename_i e0 xs0 hl0
      split at h
      · rename_i hopn
        split at h
        · rename_i hq
          simp only [Bool.and_eq_true, Nat.blt_eq] at hq
          have q1 := Nat.eq_of_beq_eq_true hq.1
          injection h with h; subst h
          refine ⟨?_, rfl⟩
          have o2 : row < xs0.length := hob _ rfl
          simp only [Bool.and_eq_true] at hopn
          have hda : getB H l ≠ .dead := by rw [hl0]; simp
          have hb := hr.blk_at hio
          rw [hl0] at hb
          obtain ⟨c, el, hg, hwd, hw0, hlen, htot, hsz, hrow⟩ := hb
          have hcy : cellsOf y = [y] ∧ one y = true := by
            cases y <;> simp [isSlc] at hopn <;> exact ⟨rfl, rfl⟩
          have hcv : VRs X E [y] v.cells.toList := by
            rw [← hcy.1]
            refine vr_cells hy (fun e => ?_) (fun cs e => ?_)
            · subst e; simp [one] at hcy
            · subst e; simp [one] at hcy
          obtain ⟨i, z, hi, hs, _⟩ := G.lay.info t (by omega)
          have hvl : v.cells.toList.length = 1 := hcv.1.symm
          have hvs : v.cells.size = i.size := by simp at hvl; omega
          have hm : (row + 1) * wd ≤ tot * wd := Nat.mul_le_mul_right _ (by omega)
          rw [Nat.add_mul] at hm
          have hsub : sub < wd := by rw [hwd]; exact hq.2
          have hrun := run_storeAt (P := P) (w := w) (o := o) hi hvs hg (by omega) (allOne_sound _ _ (by simp [allOne, hcy.2]) hcv)
          refine ⟨_, E, hrun, hr.write hio hda setRow_size setRow_other' ?_, fun k _ => Ext.write ⟨l, _, _, _, hio⟩ setRow_size setRow_other' rfl rfl rfl, fun _ _ h => h, fun _ _ h => h⟩
          refine ⟨_, el, setRow_heap w b c _ el _ hg, hwd, hw0, hlen, htot, by simp; omega, o2, hsub, fun k x hx => ?_⟩
          by_cases hk : k = row
          · subst hk
            rw [if_pos rfl]
            have hold := hrow k x hx
            have hov := hold.over sub hcv
            have e1 : (((c.toList.take o ++ v.cells.toList ++ c.toList.drop (o + v.cells.toList.length)).toArray.toList.drop (sh + k * wd)).take wd) =
                ((c.toList.drop (sh + k * wd)).take wd).take sub ++ v.cells.toList ++ ((c.toList.drop (sh + k * wd)).take wd).drop (sub + v.cells.toList.length) := by
              rw [List.toList_toArray]
              exact splice_row _ _ _ _ _ _ (by omega) (by rw [hvl]; omega) (by simp; omega)
            rw [e1]; exact hov
          · rw [if_neg hk]
            have hold := hrow k x hx
            have hk' : k < xs0.length := (List.getElem?_eq_some_iff.1 hx).1
            have hm2 : (k + 1) * wd ≤ tot * wd := Nat.mul_le_mul_right _ (by omega)
            rw [Nat.add_mul] at hm2
            have e2 : (((c.toList.take o ++ v.cells.toList ++ c.toList.drop (o + v.cells.toList.length)).toArray.toList.drop (sh + k * wd)).take wd) = ((c.toList.drop (sh + k * wd)).take wd) := by
              apply List.ext_getElem?
              intro j
              rw [List.getElem?_take, List.getElem?_take]
              by_cases hj : j < wd
              · rw [if_pos hj, if_pos hj, List.getElem?_drop, List.getElem?_drop, List.toList_toArray]
                have hto : (c.toList.take o).length = o := by simp; omega
                rcases Nat.lt_or_gt_of_ne hk with hlt | hlt
                · have hm3 : (k + 1) * wd ≤ row * wd := Nat.mul_le_mul_right _ (by omega)
                  rw [Nat.add_mul] at hm3
                  rw [List.append_assoc, List.getElem?_append_left (by rw [hto]; omega), List.getElem?_take, if_pos (by omega)]
                · have hm3 : (row + 1) * wd ≤ k * wd := Nat.mul_le_mul_right _ (by omega)
                  rw [Nat.add_mul] at hm3
                  rw [List.getElem?_append_right (by rw [List.length_append, hto, hvl]; omega), List.length_append, hto, List.getElem?_drop]
                  congr 1; omega
              · rw [if_neg hj, if_neg hj]
            rw [e2]; exact hold
        · cases h
      split at h
      · rename_i p vs H' hz
        split at h
        · rename_i e xs hl
          split at h
          · rename_i hq
            simp only [Bool.and_eq_true, Nat.blt_eq] at hq
            obtain ⟨⟨⟨q2, q3⟩, q4⟩, q5⟩ := hq
            have q2 := Nat.eq_of_beq_eq_true q2
            have q3 := Nat.le_of_ble_eq_true q3
            split at h
            · rename_i yy hdec
              injection h with h; subst h
              refine ⟨?_, rfl⟩
              obtain ⟨o1, o2⟩ := hob _ rfl
              have hcv0 : VRs X E (cellsOf y) v.cells.toList := by
                refine vr_cells hy (fun e => ?_) (fun cs e => ?_)
                · subst e
                  simp only [cellsOf, freezeL, Option.some.injEq, Prod.mk.injEq] at hz
                  obtain ⟨_, rfl, _⟩ := hz
                  simp [allOne, one] at q4
                · subst e
                  simp only [cellsOf, freezeL, Option.some.injEq, Prod.mk.injEq] at hz
                  obtain ⟨_, rfl, _⟩ := hz
                  simp [allOne, one] at q4
              obtain ⟨E1, f1, f2, f3, f4, f5, f6⟩ := freezeL_sound G _ _ _ _ _ _ _ hz o1 hr hcv0
              have hio1 : E1.io l = some (.at b sh wd tot) := by rw [f4]; exact hio
              have hda : getB H' l ≠ .dead := by rw [hl]; simp
              have hb := f1.blk_at hio1
              rw [hl] at hb
              obtain ⟨c, el, hg, hwd, hw0, hlen, htot, hsz, hrow⟩ := hb
              obtain ⟨i, z, hi, hs, _⟩ := G.lay.info t q5
              have hvs : v.cells.size = i.size := by have := f2.1; simp at this; omega
              have hm : (row + 1) * wd ≤ tot * wd := Nat.mul_le_mul_right _ (by omega)
              rw [Nat.add_mul] at hm
              have hvl : v.cells.toList.length = X.L.size t := by simp; omega
              have hrun := run_storeAt (P := P) (w := w) (o := o) hi hvs hg (by omega) (allOne_sound _ _ q4 f2)
              refine ⟨_, E1, hrun, f1.write hio1 hda setRow_size setRow_other' ?_, fun k _ => (Ext.fix f3 f4 f6 k).trans (Ext.write ⟨l, _, _, _, hio1⟩ setRow_size setRow_other' rfl rfl rfl), f3, fun l p h => by rw [f4]; exact h⟩
              refine ⟨_, el, setRow_heap w b c _ el _ hg, hwd, hw0, by simpa using hlen, htot, by simp; omega, fun k x hx => ?_⟩
              rw [List.getElem?_set] at hx
              by_cases hk : row = k
              · subst hk
                rw [if_pos rfl, if_pos o2] at hx
                injection hx with hx; subst hx
                have hD : xs.getD row (X.zero e) = xs[row] := by simp [List.getD_eq_getElem?_getD, o2]
                rw [hD] at hdec
                have hold := hrow row xs[row] (by simp [o2])
                have hov := hold.over sub f2
                refine G.dec e _ _ hdec E1 _ ?_
                have e1 : (((c.toList.take o ++ v.cells.toList ++ c.toList.drop (o + v.cells.toList.length)).toArray.toList.drop (sh + row * wd)).take wd) =
                    ((c.toList.drop (sh + row * wd)).take wd).take sub ++ v.cells.toList ++ ((c.toList.drop (sh + row * wd)).take wd).drop (sub + v.cells.toList.length) := by
                  rw [List.toList_toArray]
                  exact splice_row _ _ _ _ _ _ (by omega) (by rw [hvl]; omega) (by simp; omega)
                rw [e1]; exact hov
              · rw [if_neg hk] at hx
                have hold := hrow k x hx
                have hk' : k < xs.length := (List.getElem?_eq_some_iff.1 hx).1
                have hm2 : (k + 1) * wd ≤ tot * wd := Nat.mul_le_mul_right _ (by omega)
                rw [Nat.add_mul] at hm2
                have e2 : (((c.toList.take o ++ v.cells.toList ++ c.toList.drop (o + v.cells.toList.length)).toArray.toList.drop (sh + k * wd)).take wd) = ((c.toList.drop (sh + k * wd)).take wd) := by
                  apply List.ext_getElem?
                  intro j
                  rw [List.getElem?_take, List.getElem?_take]
                  by_cases hj : j < wd
                  · rw [if_pos hj, if_pos hj, List.getElem?_drop, List.getElem?_drop, List.toList_toArray]
                    have hto : (c.toList.take o).length = o := by simp; omega
                    rcases Nat.lt_or_gt_of_ne hk with hlt | hlt
                    · have hm3 : (row + 1) * wd ≤ k * wd := Nat.mul_le_mul_right _ (by omega)
                      rw [Nat.add_mul] at hm3
                      rw [List.getElem?_append_right (by rw [List.length_append, hto, hvl]; omega), List.length_append, hto, List.getElem?_drop]
                      congr 1; omega
                    · have hm3 : (k + 1) * wd ≤ row * wd := Nat.mul_le_mul_right _ (by omega)
                      rw [Nat.add_mul] at hm3
                      rw [List.append_assoc, List.getElem?_append_left (by rw [hto]; omega), List.getElem?_take, if_pos (by omega)]
                  · rw [if_neg hj, if_neg hj]
                rw [e2]; exact hold
            · cases h
          · cases h
        · cases h
      · cases h
    · cases h
  · cases h

theorem aalloc_arr (G : Good P X) (hr : HR X E H w) {t n e : Nat} (ha : X.asLst t = true) (hd : X.L.ds t = .array n e) {ob : Option Prop} :
    LoudR P X E H w (Instr.alloc t true (.tuple #[])) ⟨ob, .ptr H.length 0 0, H ++ [.lst e (List.replicate n (X.zero e))]⟩ := by
  obtain ⟨h0, hn, i, z, hi, hz, hs, hrow⟩ := G.arr t n e ha hd
  have hv : VRows X E e (List.replicate n (X.zero e)) (z.cells.toList.take ((List.replicate n (X.zero e)).length * X.L.size e)) := by
    rw [List.length_replicate]
    refine ⟨by simp; omega, fun k y hy => ?_⟩
    have hk : k < n := by have := (List.getElem?_eq_some_iff.1 hy).1; simpa using this
    rw [List.getElem?_replicate, if_pos hk] at hy; injection hy with hy; subst hy
    have hmul : (k + 1) * X.L.size e ≤ n * X.L.size e := Nat.mul_le_mul_right _ (by omega)
    rw [Nat.add_mul] at hmul
    rw [List.drop_take, List.take_take, show min (X.L.size e) (n * X.L.size e - k * X.L.size e) = X.L.size e by omega]
    exact hrow E k hk
  have hpush := push_lst (w0 := w) hr (us := z.cells) t hv h0 (tot := n) (by simp) hn (by omega) rfl
  refine LoudR.mk hr (fun _ _ h => h) rfl rfl (fun _ h => .inl h) (u := .pointer (some ⟨w.heap.size, 0, none⟩)) (w' := w.alloc (.cells z.cells t)) ?_ rfl ?_ hpush (alloc_size _) (alloc_old _) (fun bb sh wd tot h => by cases h; exact Nat.le_refl _) rfl rfl rfl
  · simp [Instr.alloc, run_zeroValue hi hz, newVar, newRow]
  · exact .ptr _ _ _ w.heap.size 0 (X.L.size e) n _ (by rw [Env.push_io, if_pos rfl]) (by omega)
theorem aalloc_cells (G : Good P X) (hr : HR X E H w) {t : Nat} (hs : 0 < X.L.size t) (hz : (zeroCells X t).length = X.L.size t) {ob : Option Prop} :
    LoudR P X E H w (Instr.alloc t true (.tuple #[])) ⟨ob, .ptr H.length 0 0, H ++ [.cells (zeroCells X t)]⟩ := by
  obtain ⟨i, z, hi, hsi, _, hz0, hzs, hzv⟩ := zeroCells_sound (E := E) G hs hz
  refine LoudR.mk hr (fun _ _ h => h) rfl rfl (fun _ h => .inl h) (u := .pointer (some ⟨w.heap.size, 0, none⟩)) (w' := w.alloc (.cells z.cells t)) ?_ rfl ?_ (push_cells hr t hzv) (alloc_size _) (alloc_old _) (fun bb sh wd tot h => by cases h; exact Nat.le_refl _) rfl rfl rfl
  · simp [Instr.alloc, run_zeroValue hi hz0, newVar, newRow]
  · exact .ptr _ _ _ w.heap.size 0 0 0 _ (by rw [Env.push_io, if_pos rfl]) (by omega)
theorem abox_sound (hr : HR X E H w) {t : Nat} {x : AV S} {v : Value} (hx : VR X E x v) (hw : whole x = true) {ob : Option Prop} :
    LoudR P X E H w (Instr.box t v) ⟨ob, .ptr H.length 0 0, H ++ [.cells (cellsOf x)]⟩ := by
  refine LoudR.mk hr (fun _ _ h => h) rfl rfl (fun _ h => .inl h) (u := .pointer (some ⟨w.heap.size, 0, none⟩)) (w' := w.alloc (.cells v.cells t)) ?_ rfl ?_ (push_cells hr t (vr_whole hx hw)) (alloc_size _) (alloc_old _) (fun bb sh wd tot h => by cases h; exact Nat.le_refl _) rfl rfl rfl
  · simp [Instr.box, newVar, newRow]
  · exact .ptr _ _ _ w.heap.size 0 0 0 _ (by rw [Env.push_io, if_pos rfl]) (by omega)

/-- an operation that writes or makes memory -/
theorem loud_sound (G : Good P X) {o : Oper} {r : Res S} (h : loud X fr H o.op = some r) (hob : ∀ p, r.ob = some p → p) (hf : FR X E fr a) (hr : HR X E H w) :
    ∃ w' E', ((∃ u, (execOp a.eval o).run P w = .ok (.value u) w' ∧ VR X E' r.v u) ∨ ((execOp a.eval o).run P w = .ok .skip w' ∧ r.v = .top)) ∧ HR X E' r.H w' ∧ (∀ k, k ≤ H.length → Ext k E w E' w') ∧
      (∀ b o, E.im b = some o → E'.im b = some o) ∧ (∀ l p, E.io l = some p → E'.io l = some p) := by
  have lift : ∀ {s : Sem Value}, LoudR P X E H w s r → execOp a.eval o = (do pure (.value (← s)) : Sem Next) → ∃ w' E', ((∃ u, (execOp a.eval o).run P w = .ok (.value u) w' ∧ VR X E' r.v u) ∨ ((execOp a.eval o).run P w = .ok .skip w' ∧ r.v = .top)) ∧ HR X E' r.H w' ∧ (∀ k, k ≤ H.length → Ext k E w E' w') ∧
      (∀ b o, E.im b = some o → E'.im b = some o) ∧ (∀ l p, E.io l = some p → E'.io l = some p) := by
    intro s ⟨w', E', u, h1, h2, h3, h4, h5, h6⟩ he
    exact ⟨w', E', .inl ⟨u, by rw [he]; simp [h1], h2⟩, h3, h4, h5, h6⟩
  unfold loud at h
  split at h
  · rename_i t ho
    split at h
    · rename_i ha
      split at h
      · rename_i n e hd
        injection h with h; subst h
        exact lift (aalloc_arr G hr ha hd) (by simp only [execOp, ho])
      · cases h
    · split at h
      · rename_i hs
        simp only [Bool.and_eq_true, Nat.blt_eq] at hs
        injection h with h; subst h
        exact lift (aalloc_cells G hr hs.1 (Nat.eq_of_beq_eq_true hs.2)) (by simp only [execOp, ho])
      · cases h
  · rename_i t x ho
    split at h
    · rename_i hw
      injection h with h; subst h
      exact lift (abox_sound (t := t) hr (vr_opd hf x) hw) (by simp only [execOp, ho])
    · cases h
  · rename_i t n ps ho
    split at h
    · cases h
    exact lift (abuildSlice_sound G hf hr h hob) (by simp only [execOp, ho])
  · rename_i t x y ho
    obtain ⟨⟨w', E', h1, h2, h3, h4, h5⟩, hv⟩ := astore_sound G hr h hob (vr_opd hf x) (vr_opd hf y)
    exact ⟨w', E', .inr ⟨by simp only [execOp, ho]; simp [h1], hv⟩, h2, h3, h4, h5⟩
  · rename_i t l c ho
    exact lift (amake_sound G hr h hob (vr_opd hf l) (vr_opd hf c)) (by simp only [execOp, ho])
  · rename_i args argTypes ho
    split at h
    · rename_i s x hx
      split at h
      · rename_i t t' ht
        have ha := vrs_map hf args.toList
        rw [hx] at ha
        obtain ⟨u, us, hus, hu, hn⟩ := ha.inv_cons
        obtain ⟨v, us, rfl, hv, hn⟩ := hn.inv_cons
        have e := hn.inv_nil; subst e
        have e1 : args.map a.eval = #[u, v] := Array.toList_inj.1 (by simpa using hus)
        have e2 : argTypes = #[t, t'] := Array.toList_inj.1 (by simpa using ht)
        subst e2
        obtain ⟨w', E', z, h1, h2, h3, h4, h5, h6⟩ := aappend_sound (ty := o.type) G hr h hob hu hv
        exact ⟨w', E', .inl ⟨z, by simp [execOp, ho, resolve, invoke, builtin, e1, h1], h2⟩, h3, h4, h5, h6⟩
      · cases h
    · cases h
  · cases h
end Ev
