/- Other places for places: loops' heads, calls in their own part of the heap. -/
import Derived.Test.YtadmjjogmbhkaaaGreatDoorEv5
namespace Ev
open Go
variable {S : Sig} {P : Program} {X : Ctx S} {E E' E2 : Env} {fr : Fr S} {H H' : AH S} {a : Act} {w w' : World}

theorem vr_noLoc (G : Good P X) {x : AV S} {v : Value} (h : VR X E x v) (hn : noLoc x = true) (him : ∀ b o, E.im b = some o → E'.im b = some o) : VR X E' x v := by
  induction h with
  | imm e xs b off len cap c el fz h1 h2 h3 h4 h5 _ ih =>
    exact .imm _ _ _ _ _ _ _ _ _ (him _ _ h1) h2 h3 h4 h5 fun i j x a u hx ha hu => ih i j x a u hx ha hu (G.enc_noLoc e x a (List.mem_of_getElem? ha))
  | ptr => cases hn
  | ip => cases hn
  | slc => cases hn
  | void0 => cases hn
  | zero => cases hn
  | map => cases hn
  | fn => cases hn
  | fnb => cases hn
  | iface => cases hn
  | agg => cases hn
  | tup => cases hn
  | top => cases hn
  | _ => constructor
theorem vrs_noLoc (G : Good P X) {xs : List (AV S)} {us : List Value} (h : VRs X E xs us) (hn : ∀ x ∈ xs, noLoc x = true) (him : ∀ b o, E.im b = some o → E'.im b = some o) : VRs X E' xs us :=
  ⟨h.1, fun i a u ha hu => vr_noLoc G (h.2 i a u ha hu) (hn a (List.mem_of_getElem? ha)) him⟩

theorem length_renL (g : AV S → AV S) (l : List (AV S)) : (renL g l).length = l.length := by
  induction l with
  | nil => rfl
  | cons a r ih => simp [renL, ih]
theorem renL_get (g : AV S → AV S) : ∀ (l : List (AV S)) (i : Nat), (renL g l)[i]? = (l[i]?).map g
  | [], i => by simp [renL]
  | a :: r, 0 => by simp [renL]
  | a :: r, i + 1 => by simp [renL, renL_get g r i]

/-- the new places lie where the old ones lay -/
def Moves (f : Nat → Option Nat) (E E2 : Env) : Prop := (∀ b o, E.im b = some o → E2.im b = some o) ∧ ∀ l m p, f l = some m → E.io l = some p → E2.io m = some p

theorem vr_ren (G : Good P X) {f : Nat → Option Nat} (hm : Moves f E E2) : ∀ (n : Nat) (x : AV S) (v : Value), VR X E x v → VR X E2 (ren f n x) v
  | 0, x, v, _ => .top v
  | n + 1, x, v, h => by
    have list : ∀ (cs : List (AV S)) (us : List Value), (∀ (i : Nat) a u, cs[i]? = some a → us[i]? = some u → VR X E a u) → ∀ (i : Nat) a u, (renL (ren f n) cs)[i]? = some a → us[i]? = some u → VR X E2 a u := by
      intro cs us hc i a u ha hu
      rw [renL_get] at ha
      obtain ⟨b, hb, rfl⟩ := Option.map_eq_some_iff.1 ha
      exact vr_ren G hm n b u (hc i b u hb hu)
    cases h with
    | ptr l row sub b sh wd tot o hio ho =>
      simp only [ren]
      split
      · rename_i m hf; exact .ptr _ _ _ b sh wd tot _ (hm.2 _ _ _ hf hio) ho
      · exact .top _
    | slc l off len cl b sh wd tot o cap hio ho h3 h4 h5 h6 =>
      simp only [ren]
      split
      · rename_i m hf; exact .slc _ _ _ _ b sh wd tot _ _ (hm.2 _ _ _ hf hio) ho h3 h4 h5 h6
      · exact .top _
    | void0 l off cl hio =>
      simp only [ren]
      split
      · rename_i m hf; exact .void0 _ _ _ (hm.2 _ _ _ hf hio)
      · exact .top _
    | zero l off cl ad p hio =>
      simp only [ren]
      split
      · rename_i m hf; exact .zero _ _ _ _ _ (hm.2 _ _ _ hf hio)
      · exact .top _
    | map l b sh wd tot hio =>
      simp only [ren]
      split
      · rename_i m hf; exact .map _ b sh wd tot (hm.2 _ _ _ hf hio)
      · exact .top _
    | fn g cs ds h1 h2 => exact .fn _ _ _ (by rw [length_renL]; exact h1) (list _ _ h2)
    | ip cs sub b base o c el fz h1 h2 h3 h4 =>
      refine .ip _ _ b base o c el fz (hm.1 _ _ h1) h2 (by rw [length_renL]; exact h3) ?_
      intro j a u ha hu
      rw [renL_get] at ha
      obtain ⟨a', ha', rfl⟩ := Option.map_eq_some_iff.1 ha
      exact vr_ren G hm n a' u (h4 j a' u ha' hu)
    | agg cs ds h1 h2 => exact .agg _ _ (by rw [length_renL]; exact h1) (list _ _ h2)
    | tup cs ds h1 h2 => exact .tup _ _ (by rw [length_renL]; exact h1) (list _ _ h2)
    | iface t x u h1 => exact .iface _ _ _ (vr_ren G hm n x u h1)
    | fnb g x u cs ds h0 h1 h2 => exact .fnb _ _ _ _ _ (vr_ren G hm n x u h0) (by rw [length_renL]; exact h1) (list _ _ h2)
    | imm e xs b off len cap c el fz h1 h2 h3 h4 h5 h6 =>
      exact vr_noLoc G (.imm e xs b off len cap c el fz h1 h2 h3 h4 h5 h6) rfl hm.1
    | imm0 => exact .imm0 _
    | imm1 => exact .imm1 _ _ _
    | _ => constructor
theorem vrs_renL (G : Good P X) {f : Nat → Option Nat} (hm : Moves f E E2) {n : Nat} {cs : List (AV S)} {us : List Value} (h : VRs X E cs us) : VRs X E2 (renL (ren f n) cs) us := by
  refine ⟨by rw [length_renL]; exact h.1, fun i a u ha hu => ?_⟩
  rw [renL_get] at ha
  obtain ⟨b, hb, rfl⟩ := Option.map_eq_some_iff.1 ha
  exact vr_ren G hm n b u (h.2 i b u hb hu)
theorem vrs_map_ren (G : Good P X) {f : Nat → Option Nat} (hm : Moves f E E2) {n : Nat} {cs : List (AV S)} {us : List Value} (h : VRs X E cs us) : VRs X E2 (cs.map (ren f n)) us := by
  refine ⟨by simpa using h.1, fun i a u ha hu => ?_⟩
  rw [List.getElem?_map] at ha
  obtain ⟨b, hb, rfl⟩ := Option.map_eq_some_iff.1 ha
  exact vr_ren G hm n b u (h.2 i b u hb hu)

theorem vr_keyV (G : Good P X) {e : TypeId} {y : S.T e} {v : Value} (h : VR X E (keyV X e y) v) (him : ∀ b o, E.im b = some o → E2.im b = some o) : VR X E2 (keyV X e y) v := by
  unfold keyV at h ⊢
  cases hc : X.enc e y with
  | nil => exact .top _
  | cons a r => rw [hc] at h; exact vr_noLoc G h (G.enc_noLoc e y a (by rw [hc]; simp)) him
theorem vr_valOf (G : Good P X) {e : TypeId} {y : S.T e} {v : Value} (h : VR X E (valOf X e y) v) (him : ∀ b o, E.im b = some o → E2.im b = some o) : VR X E2 (valOf X e y) v := by
  unfold valOf at h ⊢
  split at h
  · obtain ⟨ds, rfl, hds⟩ := vr_agg h
    exact vr_agg_mk (vrs_noLoc G hds (fun a ha => G.enc_noLoc e y a ha) him)
  · exact vr_keyV G h him

theorem br_ren (G : Good P X) {f : Nat → Option Nat} (hm : Moves f E E2) {b : Blk S} {p : Loc} (h : BR X E w b p) (hw : ∀ bb sh wd tot, p = .at bb sh wd tot → w'.heap[bb]? = w.heap[bb]?) : BR X E2 w' (renB f b) p := by
  cases b with
  | dead => trivial
  | cells cs => cases p with
    | void => exact h.elim
    | «at» bb sh wd tot =>
      obtain ⟨c, el, h1, h2, h3⟩ := h
      exact ⟨c, el, (hw _ _ _ _ rfl).trans h1, h2, vrs_renL G hm h3⟩
  | lst e xs => cases p with
    | void => exact h
    | «at» bb sh wd tot =>
      obtain ⟨c, el, h1, h2, h3, h4, h5, h6, h7⟩ := h
      exact ⟨c, el, (hw _ _ _ _ rfl).trans h1, h2, h3, h4, h5, h6, fun i x hx => vrs_noLoc G (h7 i x hx) (fun a ha => G.enc_noLoc e x a ha) hm.1⟩
  | lsto e xs r s v => cases p with
    | void => exact h.elim
    | «at» bb sh wd tot =>
      obtain ⟨c, el, h1, h2, h3, h4, h5, h6, h6a, h6b, h7⟩ := h
      refine ⟨c, el, (hw _ _ _ _ rfl).trans h1, h2, h3, h4, h5, h6, h6a, h6b, fun i x hx => ?_⟩
      have h8 := h7 i x hx
      by_cases hi : i = r
      · rw [if_pos hi] at h8 ⊢
        have hs : s < (X.enc e x).length := by rw [G.enc_len, ← h2]; exact h6b
        refine ⟨?_, fun j a u ha hu => ?_⟩
        · have := h8.1
          simp only [over, List.length_append, List.length_take, List.length_drop, List.length_cons, List.length_nil] at this ⊢
          exact this
        · rw [over_get hs] at ha
          by_cases hj : j = s
          · rw [if_pos hj] at ha; injection ha with ha; subst ha
            exact vr_ren G hm _ _ _ (h8.2 j v u (by rw [over_get hs, if_pos hj]) hu)
          · rw [if_neg hj] at ha
            exact vr_noLoc G (h8.2 j a u (by rw [over_get hs, if_neg hj]; exact ha) hu) (G.enc_noLoc e x a (List.mem_of_getElem? ha)) hm.1
      · rw [if_neg hi] at h8 ⊢
        exact vrs_noLoc G h8 (fun a ha => G.enc_noLoc e x a ha) hm.1
  | mp k e es => cases p with
    | void => exact h.elim
    | «at» bb sh wd tot =>
      obtain ⟨ms, clock, h1, h2, h3⟩ := h
      exact ⟨ms, clock, (hw _ _ _ _ rfl).trans h1, h2, fun i p m hp hmm => ⟨vr_keyV G (h3 i p m hp hmm).1 hm.1, vr_valOf G (h3 i p m hp hmm).2 hm.1⟩⟩

theorem renB_dead {f : Nat → Option Nat} {b : Blk S} : renB f b = .dead ↔ b = .dead := by cases b <;> simp [renB]

theorem memN_eq (l : Nat) : ∀ ls : List Nat, memN l ls = true ↔ l ∈ ls
  | [] => by simp [memN]
  | m :: r => by
    unfold memN
    split
    · rename_i h; have := Nat.eq_of_beq_eq_true h; subst this; simp
    · rename_i h
      have hne : m ≠ l := fun e => by subst e; rw [Nat.beq_refl] at h; cases h
      rw [memN_eq l r, List.mem_cons]
      constructor
      · exact .inr
      · rintro (h | h)
        · exact absurd h.symm hne
        · exact h
theorem idxN_some {l p : Nat} : ∀ (ls : List Nat) (i : Nat), idxN l i ls = some p → i ≤ p ∧ ls[p - i]? = some l
  | [], i, h => by cases h
  | m :: r, i, h => by
    unfold idxN at h
    split at h
    · rename_i hb
      injection h with h; subst h
      have := Nat.eq_of_beq_eq_true hb; subst this
      simp
    · obtain ⟨h1, h2⟩ := idxN_some r (i + 1) h
      refine ⟨by omega, ?_⟩
      rw [show p - i = (p - (i + 1)) + 1 by omega]
      simpa using h2
theorem idxN_none {l : Nat} : ∀ (ls : List Nat) (i : Nat), idxN l i ls = none → l ∉ ls
  | [], i, _ => by simp
  | m :: r, i, h => by
    unfold idxN at h
    split at h
    · cases h
    · rename_i hb
      have hne : m ≠ l := fun e => by subst e; rw [Nat.beq_refl] at hb; cases hb
      have := idxN_none r (i + 1) h
      simp only [List.mem_cons, not_or]
      exact ⟨fun e => hne e.symm, this⟩
theorem idxN_get {l : Nat} : ∀ (ls : List Nat) (i j : Nat), ls.Nodup → ls[j]? = some l → idxN l i ls = some (i + j)
  | [], i, j, _, h => by simp at h
  | m :: r, i, j, hn, h => by
    unfold idxN
    cases j with
    | zero => simp at h; subst h; rw [Nat.beq_refl]; rfl
    | succ j =>
      have hmem : l ∈ r := List.mem_of_getElem? (by simpa using h)
      have hne : m ≠ l := fun e => by subst e; exact (List.nodup_cons.1 hn).1 hmem
      have hb : Nat.beq m l = false := by
        cases hq : Nat.beq m l with
        | false => rfl
        | true => exact absurd (Nat.eq_of_beq_eq_true hq) hne
      rw [hb]
      simp only
      rw [idxN_get r (i + 1) j (List.nodup_cons.1 hn).2 (by simpa using h)]
      congr 1; omega

/-- the places that are met are there, living, each once -/
structure Met (H : AH S) (ls : List Nat) : Prop where
  nodup : ls.Nodup
  live : ∀ l ∈ ls, getB H l ≠ .dead

theorem isDead_eq {b : Blk S} : isDead b = true ↔ b = .dead := by cases b <;> simp [isDead]
theorem reach_met : ∀ (n : Nat) (todo done : List Nat), Met H done → Met H (reach H n todo done)
  | 0, _, _, h => by unfold reach; exact h
  | n + 1, [], _, h => by unfold reach; exact h
  | n + 1, l :: todo, done, h => by
    unfold reach
    split
    · exact reach_met n todo done h
    · rename_i hb
      simp only [Bool.or_eq_false_iff] at hb
      refine reach_met n _ _ ⟨?_, ?_⟩
      · rw [List.nodup_append]
        refine ⟨h.nodup, by simp, fun x hx y hy e => ?_⟩
        simp at hy; subst hy; subst e
        rw [(memN_eq _ _).2 hx] at hb; cases hb.1
      · intro m hm
        rcases List.mem_append.1 hm with hm | hm
        · exact h.live m hm
        · simp at hm; subst hm
          intro e; rw [e] at hb; cases hb.2
theorem met_filter {ls : List Nat} (h : Met H ls) (p : Nat → Bool) : Met H (ls.filter p) :=
  ⟨h.nodup.filter p, fun l hl => h.live l (List.mem_filter.1 hl).1⟩

theorem length_heads (f : Nat → Option Nat) (ls : List Nat) : ∀ (k l : Nat) (H : AH S), (heads f ls k l H).length = min k H.length
  | 0, _, _ => by simp [heads]
  | k + 1, l, [] => by simp [heads]
  | k + 1, l, b :: r => by simp [heads, length_heads f ls k (l + 1) r]
theorem heads_get (f : Nat → Option Nat) (ls : List Nat) : ∀ (k l : Nat) (H : AH S) (i : Nat), i < k → i < H.length → (heads f ls k l H)[i]? = some (match memN (l + i) ls with | true => .dead | false => renB f (getB H i))
  | 0, _, _, i, h, _ => by omega
  | k + 1, l, [], i, _, h => by simp at h
  | k + 1, l, b :: r, 0, _, _ => by simp [heads, getB_cons_zero]; cases memN l ls <;> rfl
  | k + 1, l, b :: r, i + 1, h1, h2 => by
    simp only [heads, List.getElem?_cons_succ]
    rw [heads_get f ls k (l + 1) r i (by omega) (by simpa using h2), getB_cons_succ, show l + 1 + i = l + (i + 1) by omega]

/-- where the blocks of 'canonH' lie -/
def Env.canon (k : Nat) (ls : List Nat) (E : Env) : Env := { E with io := fun p => if p < k then E.io p else (ls[p - k]?).bind E.io }

theorem place_spec {k l p : Nat} {ls : List Nat} (h : place k ls l = some p) : (k ≤ p ∧ ls[p - k]? = some l) ∨ (p < k ∧ p = l ∧ l ∉ ls) := by
  unfold place at h
  split at h
  · rename_i q hq
    injection h with h; subst h
    exact .inl (idxN_some _ _ hq)
  · rename_i hq
    split at h
    · rename_i hb
      injection h with h; subst h
      exact .inr ⟨by simpa [Nat.blt_eq] using hb, rfl, idxN_none _ _ hq⟩
    · cases h
theorem moves_canon {k : Nat} {ls : List Nat} : Moves (place k ls) E (E.canon k ls) := by
  refine ⟨fun _ _ h => h, fun l m p h hio => ?_⟩
  simp only [Env.canon]
  rcases place_spec h with ⟨h1, h2⟩ | ⟨h1, h2, _⟩
  · rw [if_neg (by omega), h2]; exact hio
  · rw [if_pos h1, h2]; exact hio

theorem length_canonH {k : Nat} {ls : List Nat} (hk : k ≤ H.length) : (canonH k ls H).length = k + ls.length := by
  simp only [canonH, List.length_append, length_heads, List.length_map]; omega
theorem canonH_get {k : Nat} {ls : List Nat} (hk : k ≤ H.length) (p : Nat) : getB (canonH k ls H) p = if p < k then (if p ∈ ls then .dead else renB (place k ls) (getB H p)) else
    match ls[p - k]? with | some l => renB (place k ls) (getB H l) | none => .dead := by
  rw [getB_eq, List.getD_eq_getElem?_getD]
  have hl : (heads (place k ls) ls k 0 H).length = k := by rw [length_heads]; omega
  unfold canonH
  rw [List.getElem?_append, hl]
  by_cases hp : p < k
  · rw [if_pos hp, if_pos hp, heads_get _ _ _ _ _ _ hp (by omega), Nat.zero_add]
    simp only [Option.getD_some]
    by_cases hm : p ∈ ls
    · rw [if_pos hm, (memN_eq p ls).2 hm]
    · rw [if_neg hm]
      cases hb : memN p ls with
      | false => rfl
      | true => exact absurd ((memN_eq p ls).1 hb) hm
  · rw [if_neg hp, if_neg hp, List.getElem?_map]
    cases ls[p - k]? with
    | none => rfl
    | some l => rfl

theorem HR.canon (G : Good P X) (hr : HR X E H w) {k : Nat} {ls : List Nat} (hk : k ≤ H.length) (hm : Met H ls) : HR X (E.canon k ls) (canonH k ls H) w := by
  have hmv : Moves (place k ls) E (E.canon k ls) := moves_canon
  have hlen := length_canonH (ls := ls) hk
  -- a living place comes from a living place
  have src : ∀ p b sh wd tot, (E.canon k ls).io p = some (.at b sh wd tot) → getB (canonH k ls H) p ≠ .dead → ∃ q, E.io q = some (.at b sh wd tot) ∧ getB H q ≠ .dead ∧ ((p < k ∧ q = p ∧ p ∉ ls) ∨ (k ≤ p ∧ ls[p - k]? = some q)) := by
    intro p b sh wd tot h1 h2
    rw [canonH_get hk] at h2
    simp only [Env.canon] at h1
    by_cases hp : p < k
    · rw [if_pos hp] at h1 h2
      by_cases hpl : p ∈ ls
      · rw [if_pos hpl] at h2; exact absurd rfl h2
      · rw [if_neg hpl] at h2
        exact ⟨p, h1, fun e => h2 (renB_dead.2 e), .inl ⟨hp, rfl, hpl⟩⟩
    · rw [if_neg hp] at h1 h2
      cases hq : ls[p - k]? with
      | none => rw [hq] at h1; cases h1
      | some q =>
        rw [hq] at h1 h2
        exact ⟨q, h1, fun e => h2 (renB_dead.2 e), .inr ⟨by omega, rfl⟩⟩
  refine ⟨fun l hl => ?_, fun l hl => ?_, fun l m b sh wd tot sh' wd' tot' h1 h2 h3 h4 => ?_, hr.im, fun l b sh wd tot h1 h2 => ?_⟩
  · rw [hlen] at hl
    simp only [Env.canon]
    rw [if_neg (by omega), List.getElem?_eq_none (by omega)]; rfl
  · rw [hlen] at hl
    rw [canonH_get hk]
    simp only [Env.canon]
    by_cases hp : l < k
    · rw [if_pos hp, if_pos hp]
      obtain ⟨q, hq, hb⟩ := hr.blk l (by omega)
      refine ⟨q, hq, ?_⟩
      by_cases hpl : l ∈ ls
      · rw [if_pos hpl]; trivial
      · rw [if_neg hpl]; exact br_ren G hmv hb (fun _ _ _ _ _ => rfl)
    · rw [if_neg hp, if_neg hp, List.getElem?_eq_getElem (by omega)]
      have hmem : ls[l - k] ∈ ls := List.getElem_mem _
      obtain ⟨q, hq, hb⟩ := hr.blk ls[l - k] (getB_lt (hm.live _ hmem))
      exact ⟨q, hq, br_ren G hmv hb (fun _ _ _ _ _ => rfl)⟩
  · obtain ⟨q, q1, q2, q3⟩ := src l _ _ _ _ h1 h3
    obtain ⟨r, r1, r2, r3⟩ := src m _ _ _ _ h2 h4
    have e := hr.inj q r b _ _ _ _ _ _ q1 r1 q2 r2
    subst e
    rcases q3 with ⟨a1, a2, a3⟩ | ⟨a1, a2⟩ <;> rcases r3 with ⟨b1, b2, b3⟩ | ⟨b1, b2⟩
    · omega
    · exact absurd (a2 ▸ List.mem_of_getElem? b2) a3
    · exact absurd (b2 ▸ List.mem_of_getElem? a2) b3
    · have i1 : l - k < ls.length := (List.getElem?_eq_some_iff.1 a2).1
      have := (List.getElem?_inj i1 hm.nodup).1 (a2.trans b2.symm)
      omega
  · cases hg : getB (canonH k ls H) l with
    | dead => rfl
    | _ =>
      obtain ⟨q, q1, q2, _⟩ := src l _ _ _ _ h1 (by rw [hg]; simp)
      exact absurd (hr.sep q b _ _ _ q1 h2) q2

theorem Ext.canon {k : Nat} {ls : List Nat} : Ext k E w (E.canon k ls) w := by
  refine ⟨⟨fun _ _ h => h, fun l hl => ?_⟩, fun b ⟨l, sh, wd, tot, h⟩ => .inl ?_, fun b h => .inl h, Nat.le_refl _, fun _ _ _ => rfl, rfl, rfl, rfl⟩
  · simp only [Env.canon]; rw [if_pos hl]
  · simp only [Env.canon] at h
    split at h
    · exact ⟨l, sh, wd, tot, h⟩
    · cases hq : ls[l - k]? with
      | none => rw [hq] at h; cases h
      | some q => rw [hq] at h; exact ⟨q, sh, wd, tot, h⟩

theorem reAgg_sound {E E' : Env} {v : AV S} {u : Value} {vs : List (AV S)} (hv : VR X E v u) (h : VRs X E' vs u.cells.toList) (ht : v ≠ .top) (htt : ∀ cs, v ≠ .tup cs) (hl : vs.length = (cellsOf v).length) : VR X E' (reAgg v vs) u := by
  cases hv with
  | top => exact absurd rfl ht
  | tup cs => exact absurd rfl (htt cs)
  | agg cs ds h1 h2 => exact vr_agg_mk h
  | _ =>
    obtain ⟨a, r, rfl⟩ : ∃ a r, vs = a :: r := by
      cases vs with
      | nil => simp [cellsOf] at hl
      | cons a r => exact ⟨a, r, rfl⟩
    exact h.head
theorem freezeL_length : ∀ (vs vs' : List (AV S)) (H H' : AH S) (p : Prop), freezeL H vs = some (p, vs', H') → vs'.length = vs.length
  | [], vs', H, H', p, h => by simp only [freezeL, Option.some.injEq, Prod.mk.injEq] at h; obtain ⟨_, rfl, _⟩ := h; rfl
  | v :: vs, vs', H, H', p, h => by
    unfold freezeL at h
    split at h
    · split at h
      · split at h
        · rename_i hq
          simp only [Option.some.injEq, Prod.mk.injEq] at h
          obtain ⟨_, rfl, _⟩ := h
          simp [freezeL_length vs _ _ _ _ hq]
        · cases h
      · cases h
    · split at h
      · rename_i hq
        simp only [Option.some.injEq, Prod.mk.injEq] at h
        obtain ⟨_, rfl, _⟩ := h
        simp [freezeL_length vs _ _ _ _ hq]
      · cases h
/-- an argument, a slot made immutable -/
theorem freezeL_blk : ∀ (vs vs' : List (AV S)) (H H' : AH S) (p : Prop), freezeL H vs = some (p, vs', H') → ∀ l, getB H' l = getB H l ∨ getB H' l = .dead
  | [], vs', H, H', p, h, l => by simp only [freezeL, Option.some.injEq, Prod.mk.injEq] at h; obtain ⟨_, _, rfl⟩ := h; exact .inl rfl
  | v :: vs, vs', H, H', p, h, l => by
    unfold freezeL at h
    split at h
    · rename_i m off len cl
      split at h
      · rename_i e xs hm
        split at h
        · rename_i q r' H'' hq
          simp only [Option.some.injEq, Prod.mk.injEq] at h
          obtain ⟨_, _, rfl⟩ := h
          have hlt : m < H.length := getB_lt (by rw [hm]; simp)
          rcases freezeL_blk vs _ _ _ _ hq l with h1 | h1
          · rw [h1, getB_setB _ _ _ _ hlt]
            split
            · exact .inr rfl
            · exact .inl rfl
          · exact .inr h1
        · cases h
      · cases h
    · split at h
      · rename_i q r' H'' hq
        simp only [Option.some.injEq, Prod.mk.injEq] at h
        obtain ⟨_, _, rfl⟩ := h
        exact freezeL_blk vs _ _ _ _ hq l
      · cases h

theorem frz_sound (G : Good P X) {E : Env} (hr : HR X E H w) {v : AV S} {u : Value} {p : Prop} {vs : List (AV S)} {H' : AH S} (hv : VR X E v u) (h : freezeL H (cellsOf v) = some (p, vs, H')) (hp : p) :
    ∃ E', HR X E' H' w ∧ VR X E' (reAgg v vs) u ∧ (∀ b o, E.im b = some o → E'.im b = some o) ∧ E'.io = E.io ∧ H'.length = H.length ∧ (∀ b, E'.im b ≠ none → E.im b ≠ none ∨ E.own b) := by
  by_cases ht : v = .top
  · subst ht
    have h : freezeL H [(.top : AV S)] = some (p, vs, H') := h
    simp only [freezeL, Option.some.injEq, Prod.mk.injEq] at h
    obtain ⟨_, rfl, rfl⟩ := h
    exact ⟨E, hr, .top _, fun _ _ h => h, rfl, rfl, fun _ h => .inl h⟩
  · by_cases htt : ∃ cs, v = .tup cs
    · obtain ⟨cs, rfl⟩ := htt
      have h : freezeL H [(.tup cs : AV S)] = some (p, vs, H') := h
      simp only [freezeL, Option.some.injEq, Prod.mk.injEq] at h
      obtain ⟨_, rfl, rfl⟩ := h
      exact ⟨E, hr, hv, fun _ _ h => h, rfl, rfl, fun _ h => .inl h⟩
    · have htt' : ∀ cs, v ≠ .tup cs := fun cs e => htt ⟨cs, e⟩
      obtain ⟨E', f1, f2, f3, f4, f5, f6⟩ := freezeL_sound G _ _ _ _ _ _ _ h hp hr (vr_cells hv ht htt')
      exact ⟨E', f1, reAgg_sound hv f2 ht htt' (freezeL_length _ _ _ _ _ h), f3, f4, f5, f6⟩
theorem VRs.same {E : Env} {cs : List (AV S)} {us : List Value} {j : Nat} {v : AV S} {u : Value} (h : VRs X E cs us) (hu : us[j]? = some u) (hv : VR X E v u) : VRs X E (Ev.over cs j [v]) us := by
  have hov := h.over j (VRs.cons hv VRs.nil)
  have hj : j < us.length := (List.getElem?_eq_some_iff.1 hu).1
  have e : us.take j ++ [u] ++ us.drop (j + [u].length) = us := by
    have := List.take_append_drop j us
    conv => rhs; rw [← this]
    rw [List.append_assoc]
    congr 1
    rw [List.drop_eq_getElem_cons hj]
    have : us[j] = u := by rw [List.getElem?_eq_getElem hj] at hu; injection hu
    rw [this]; rfl
  rw [e] at hov; exact hov

theorem matOne_sound (G : Good P X) (m : Mat) {fr : Fr S} {H : AH S} {E : Env} (hf : FR X E fr a) (hr : HR X E H w) (hp : (matOne X fr H m).1) :
    ∃ E', FR X E' (matOne X fr H m).2.1 a ∧ HR X E' (matOne X fr H m).2.2 w ∧ (∀ k, k ≤ H.length → Ext k E w E' w) ∧ H.length ≤ (matOne X fr H m).2.2.length := by
  have stay : ∃ E', FR X E' fr a ∧ HR X E' H w ∧ (∀ k, k ≤ H.length → Ext k E w E' w) ∧ H.length ≤ H.length := ⟨E, hf, hr, fun k _ => Ext.refl k E w, Nat.le_refl _⟩
  have pushv : ∀ (e : Nat), HR X (E.push H.length .void) (H ++ [.lst e []]) w := fun e =>
    hr.push (Nat.le_refl _) (fun _ _ => rfl) (fun _ _ _ _ h => by cases h) (show BR X _ w (.lst e []) .void from rfl)
  have extv : ∀ k, k ≤ H.length → Ext k E w (E.push H.length .void) w := fun k hk => Ext.push hr hk (Nat.le_refl _) (fun _ _ => rfl) (fun _ _ _ _ h => by cases h) rfl rfl rfl
  unfold matOne at hp ⊢
  cases m with
  | slot t e =>
    simp only at hp ⊢
    split
    · rename_i hn
      obtain ⟨k1, k2⟩ := push_keeps hr .void
      have hv : VR X (E.push H.length .void) (.slc H.length 0 0 false : AV S) (a.tmps.getD t undef) := by
        have := hf t
        rw [hn] at this
        generalize a.tmps.getD t undef = u at this ⊢
        cases this
        exact .void0 _ _ _ (by rw [Env.push_io, if_pos rfl])
      exact ⟨_, (hf.mono k1 k2).set hv, pushv e, extv, by simp⟩
    · exact stay
  | cell l j e =>
    simp only at hp ⊢
    split
    · rename_i cs hl
      split
      · rename_i hn
        obtain ⟨k1, k2⟩ := push_keeps hr .void
        have hr2 := pushv e
        have hlt : l < H.length := getB_lt (by rw [hl]; simp)
        obtain ⟨q, hq, hb⟩ := hr.blk l hlt
        rw [hl] at hb
        cases q with
        | void => exact hb.elim
        | «at» b sh wd tot =>
          obtain ⟨c, el, hg, hsh, hv⟩ := hb
          rw [nth_eq] at hn
          obtain ⟨u, hu, hvu⟩ := hv.get hn
          cases hvu
          have hv2 := (hv.mono k1 k2).same hu (v := .slc H.length 0 0 false) (.void0 _ _ _ (by rw [Env.push_io, if_pos rfl]))
          have hd2 : getB (H ++ [Blk.lst e []]) l ≠ .dead := by rw [getB_append, if_neg (by omega), hl]; simp
          refine ⟨_, hf.mono k1 k2, hr2.write (k2 _ _ hq) hd2 rfl (fun _ _ => rfl) ⟨c, el, hg, hsh, hv2⟩, extv, ?_⟩
          rw [length_setB]; simp
      · exact stay
    · exact stay
  | frz t =>
    simp only at hp ⊢
    split
    · rename_i p vs H' hz
      rw [hz] at hp
      obtain ⟨E', f1, f2, f3, f4, f5, f6⟩ := frz_sound G hr (hf t) hz hp
      exact ⟨E', (hf.mono f3 (fun l p h => by rw [f4]; exact h)).set f2, f1, fun k _ => Ext.fix f3 f4 f6 k, by simp only [f5]; exact Nat.le_refl _⟩
    · exact stay
  | frzc l j =>
    simp only at hp ⊢
    split
    · rename_i cs hl
      rw [hl] at hp; simp only at hp
      split
      · rename_i v hn
        rw [hn] at hp; simp only at hp
        split
        · rename_i p vs H' hz
          rw [hz] at hp; simp only at hp
          split
          · rename_i cs' hl'
            rw [hl'] at hp; simp only at hp
            have hlt : l < H.length := getB_lt (by rw [hl]; simp)
            obtain ⟨q, hq, hb⟩ := hr.blk l hlt
            rw [hl] at hb
            cases q with
            | void => exact hb.elim
            | «at» b sh wd tot =>
              obtain ⟨c, el, hg, hsh, hv⟩ := hb
              rw [nth_eq] at hn
              obtain ⟨u, hu, hvu⟩ := hv.get hn
              obtain ⟨E', f1, f2, f3, f4, f5, f6⟩ := freezeL_sound G _ _ _ _ _ _ _ hz hp hr (VRs.cons hvu VRs.nil)
              have hq' : E'.io l = some (.at b sh wd tot) := by rw [f4]; exact hq
              have hb' := f1.blk_at hq'
              rw [hl'] at hb'
              obtain ⟨c', el', hg', hsh', hv'⟩ := hb'
              rw [hg] at hg'; injection hg' with hg'; injection hg' with e1 e2; subst e1
              obtain ⟨v', r, hvs⟩ : ∃ v' r, vs = v' :: r := by
                have := freezeL_length _ _ _ _ _ hz
                cases vs with
                | nil => simp at this
                | cons a r => exact ⟨a, r, rfl⟩
              subst hvs
              have hr0 : r = [] := by have := freezeL_length _ _ _ _ _ hz; simpa using this
              subst hr0
              have hv2 := hv'.same hu f2.head
              refine ⟨E', hf.mono f3 (fun l p h => by rw [f4]; exact h), f1.write hq' (by rw [hl']; simp) rfl (fun _ _ => rfl) ⟨c, el, hg, hsh, hv2⟩, fun k _ => Ext.fix f3 f4 f6 k, ?_⟩
              rw [length_setB]; omega
          · exact stay
        · exact stay
      · exact stay
    · exact stay
  | close l =>
    simp only at hp ⊢
    split
    · rename_i e0 xs0 r0 s0 v hl
      rw [hl] at hp; simp only at hp
      split
      · rename_i p vs H' hz
        rw [hz] at hp; simp only at hp
        split
        · rename_i e xs r s v1 hl'
          rw [hl'] at hp; simp only at hp
          split
          · rename_i y hdec
            rw [hdec] at hp; simp only at hp
            have hsame : getB H' l = getB H l := by
              rcases freezeL_blk _ _ _ _ _ hz l with h | h
              · exact h
              · rw [hl'] at h; cases h
            rw [hl, hl'] at hsame
            cases hsame
            have hlt : l < H.length := getB_lt (by rw [hl]; simp)
            obtain ⟨q, hq, hb⟩ := hr.blk l hlt
            rw [hl] at hb
            cases q with
            | void => exact hb.elim
            | «at» b sh wd tot =>
              obtain ⟨c, el, hg, hwd, hw0, hlen, htot, hsz, hrl, hsl, hrow⟩ := hb
              have hrowr := hrow r0 xs0[r0] (by simp [hrl])
              rw [if_pos rfl] at hrowr
              have hes : s0 < (X.enc e0 xs0[r0]).length := by rw [G.enc_len, ← hwd]; exact hsl
              obtain ⟨u, hu, hvu⟩ := hrowr.get (i := s0) (a := v) (by rw [over_get hes, if_pos rfl])
              obtain ⟨E', f1, f2, f3, f4, f5, f6⟩ := freezeL_sound G _ _ _ _ _ _ _ hz hp hr (VRs.cons hvu VRs.nil)
              have hq' : E'.io l = some (.at b sh wd tot) := by rw [f4]; exact hq
              have hb' := f1.blk_at hq'
              rw [hl'] at hb'
              obtain ⟨c', el', hg', _, _, _, _, _, _, _, hrow'⟩ := hb'
              rw [hg] at hg'; injection hg' with hg'; injection hg' with e1 e2; subst e1
              have hD : xs0.getD r0 (X.zero e0) = xs0[r0] := by simp [List.getD_eq_getElem?_getD, hrl]
              rw [hD] at hdec
              obtain ⟨v', rr, hvs⟩ : ∃ v' r, vs = v' :: r := by
                have := f2.1
                cases vs with
                | nil => simp at this
                | cons a r => exact ⟨a, r, rfl⟩
              subst hvs
              have hr0 : rr = [] := by have := f2.1; simpa using this
              subst hr0
              refine ⟨E', hf.mono f3 (fun l p h => by rw [f4]; exact h), f1.write hq' (by rw [hl']; simp) rfl (fun _ _ => rfl) ⟨c, el, hg, hwd, hw0, by simpa using hlen, htot, hsz, fun i x hx => ?_⟩, fun k _ => Ext.fix f3 f4 f6 k, ?_⟩
              · rw [List.getElem?_set] at hx
                by_cases hi : r0 = i
                · subst hi
                  rw [if_pos rfl, if_pos hrl] at hx
                  injection hx with hx; subst hx
                  have h8 := hrow' r0 xs0[r0] (by simp [hrl])
                  rw [if_pos rfl] at h8
                  refine G.dec e0 _ _ hdec E' _ ⟨?_, fun j a u' ha hu' => ?_⟩
                  · have := h8.1
                    simp only [over, List.length_append, List.length_take, List.length_drop, List.length_cons, List.length_nil] at this ⊢
                    exact this
                  · rw [over_get hes] at ha
                    by_cases hj : j = s0
                    · rw [if_pos hj] at ha; injection ha with ha; subst ha
                      subst hj
                      rw [hu] at hu'; injection hu' with hu'; subst hu'
                      exact f2.head
                    · rw [if_neg hj] at ha
                      exact h8.2 j a u' (by rw [over_get hes, if_neg hj]; exact ha) hu'
                · rw [if_neg hi] at hx
                  have h8 := hrow' i x hx
                  rw [if_neg (fun e => hi e.symm)] at h8
                  exact h8
              · rw [length_setB]; omega
          · exact stay
        · exact stay
      · exact stay
    · exact stay
  | keep => exact stay

theorem mats_sound (G : Good P X) : ∀ (ms : List Mat) (fr : Fr S) (H : AH S) (E : Env), FR X E fr a → HR X E H w → (mats X fr H ms).1 → ∃ E', FR X E' (mats X fr H ms).2.1 a ∧ HR X E' (mats X fr H ms).2.2 w ∧ (∀ k, k ≤ H.length → Ext k E w E' w) ∧ H.length ≤ (mats X fr H ms).2.2.length
  | [], fr, H, E, hf, hr, _ => ⟨E, hf, hr, fun k _ => Ext.refl k E w, Nat.le_refl _⟩
  | m :: ms, fr, H, E, hf, hr, hp => by
    obtain ⟨E1, a1, a2, a3, a4⟩ := matOne_sound G m hf hr hp.1
    obtain ⟨E2, b1, b2, b3, b4⟩ := mats_sound G ms _ _ E1 a1 a2 hp.2
    exact ⟨E2, b1, b2, fun k hk => (a3 k hk).trans (b3 k (by omega)), Nat.le_trans a4 b4⟩

theorem vr_of_dec (G : Good P X) {E : Env} {t : TypeId} {v : AV S} {u : Value} {vs : List (AV S)} {x : S.T t} {E0 : Env} (hal : aggLike X t v = true) (hv : VR X E0 v u) (h : VRs X E vs u.cells.toList) (hd : X.dec t vs = some x) : VR X E (valOf X t x) u := by
  have henc := G.dec t _ _ hd E _ h
  unfold valOf
  unfold aggLike at hal
  split at hal
  · split at hal
    · obtain ⟨ds, rfl, hds⟩ := vr_agg hv
      exact vr_agg_mk henc
    · cases hal
  · have h1 := (vr_one hv hal).2
    cases hc : X.enc t x with
    | nil => exact .top _
    | cons a r =>
      rw [hc, h1] at henc
      exact henc.head

theorem frzArgs_sound (G : Good P X) : ∀ (is : List (Nat × TypeId)) (as as' : List (AV S)) (H H' : AH S) (p : Prop) (E : Env) (us : List Value), frzArgs X is as H = some (p, as', H') → p → HR X E H w → VRs X E as us →
    ∃ E', HR X E' H' w ∧ VRs X E' as' us ∧ (∀ b o, E.im b = some o → E'.im b = some o) ∧ E'.io = E.io ∧ H'.length = H.length ∧ (∀ b, E'.im b ≠ none → E.im b ≠ none ∨ E.own b)
  | [], as, as', H, H', p, E, us, h, hp, hr, hv => by
    simp only [frzArgs, Option.some.injEq, Prod.mk.injEq] at h
    obtain ⟨_, rfl, rfl⟩ := h
    exact ⟨E, hr, hv, fun _ _ h => h, rfl, rfl, fun _ h => .inl h⟩
  | (i, t) :: is, as, as', H, H', p, E, us, h, hp, hr, hv => by
    unfold frzArgs at h
    split at h
    · cases h
    · rename_i v hn
      split at h
      · cases h
      · rename_i hal
        split at h
        · cases h
        · rename_i p1 vs H1 hz
          split at h
          · cases h
          · rename_i x hx
            split at h
            · cases h
            · rename_i q as2 H2 hrec
              simp only [Option.some.injEq, Prod.mk.injEq] at h
              obtain ⟨rfl, rfl, rfl⟩ := h
              rw [nth_eq] at hn
              obtain ⟨u, hu, hvu⟩ := hv.get hn
              have hnt : v ≠ .top := by
                rintro rfl
                unfold aggLike at hal
                split at hal <;> simp [one] at hal
              have hntt : ∀ cs, v ≠ .tup cs := by
                rintro cs rfl
                unfold aggLike at hal
                split at hal <;> simp [one] at hal
              obtain ⟨E1, f1, f2, f3, f4, f5, f6⟩ := freezeL_sound G _ _ _ _ _ _ _ hz hp.1 hr (vr_cells hvu hnt hntt)
              have f2' := vr_of_dec G hal hvu f2 hx
              have hv1 : VRs X E1 (as.set i (valOf X t x)) us := by
                refine ⟨by simp [hv.1], fun k b ub hb hub => ?_⟩
                rw [List.getElem?_set] at hb
                by_cases hk : i = k
                · subst hk
                  rw [if_pos rfl] at hb
                  split at hb
                  · injection hb with hb; subst hb
                    rw [hu] at hub; injection hub with hub; subst hub; exact f2'
                  · cases hb
                · rw [if_neg hk] at hb
                  exact (hv.2 k b ub hb hub).mono f3 (fun l p h => by rw [f4]; exact h)
              obtain ⟨E2, g1, g2, g3, g4, g5, g6⟩ := frzArgs_sound G is _ _ _ _ _ E1 us hrec hp.2 f1 hv1
              refine ⟨E2, g1, g2, fun b o h => g3 b o (f3 b o h), g4.trans f4, g5.trans f5, fun b hb => ?_⟩
              rcases g6 b hb with h1 | ⟨l, sh, wd, tot, h1⟩
              · exact f6 b h1
              · exact .inr ⟨l, sh, wd, tot, by rw [← f4]; exact h1⟩

theorem frameOf_sound (l : List (Nat × AV S)) (h : ∀ p ∈ l, VR X E p.2 (a.tmps.getD p.1 undef)) : FR X E (frameOf l) a := by
  induction l with
  | nil => exact fun t => .top _
  | cons p r ih =>
    obtain ⟨t, v⟩ := p
    exact (ih fun q hq => h q (by simp [hq])).set (h (t, v) (by simp))

/-- a frame and a heap in the form of a loop's head hold where they held -/
theorem canon_sound (G : Good P X) {k : Nat} (hk : k ≤ H.length) (live : List Nat) (ms : List Mat) (hf : FR X E fr a) (hr : HR X E H w) (hp : (mats X fr H ms).1) :
    ∃ E', FR X E' (canon X k live ms fr H).1 a ∧ HR X E' (canon X k live ms fr H).2 w ∧ Ext k E w E' w ∧ k ≤ (canon X k live ms fr H).2.length := by
  obtain ⟨E1, h1, h2, h3, h4⟩ := mats_sound G ms fr H E hf hr hp
  have hm : Met (mats X fr H ms).2.2 (order (keeps ms) k (mats X fr H ms).2.2 (live.map (mats X fr H ms).2.1)) := met_filter (reach_met _ _ _ ⟨List.nodup_nil, fun l hl => by simp at hl⟩) _
  have hk' : k ≤ (mats X fr H ms).2.2.length := by omega
  unfold canon
  rw [forceN_eq]
  refine ⟨_, ?_, h2.canon G hk' hm, (h3 k hk).trans Ext.canon, ?_⟩
  · refine frameOf_sound _ fun p hp => ?_
    obtain ⟨t, ht, rfl⟩ := List.mem_map.1 hp
    exact vr_ren G moves_canon _ _ _ (h1 t)
  · show k ≤ (canonH k _ _).length
    rw [length_canonH hk']; omega
end Ev
