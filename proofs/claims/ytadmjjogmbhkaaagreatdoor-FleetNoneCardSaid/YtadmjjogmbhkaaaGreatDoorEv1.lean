/- What abstract values and heaps stand for in the model's memory. -/
import Derived.Test.YtadmjjogmbhkaaaGreatDoorEv0
import Derived.WalkKit
import Derived.Deep.LoopGhost
namespace Ev
open Go
variable {S : Sig}

/-- Where a place of the abstract heap lies: block, shift, width of an element, how many elements fit; or nowhere (an empty list). -/
inductive Loc
  | at (b sh wd tot : Nat)
  | void

structure Env where
  im : Nat → Option Obj
  io : Nat → Option Loc

variable (X : Ctx S)

inductive VR (E : Env) : AV S → Value → Prop
  | top (v) : VR E .top v
  | tt : VR E .tt (.bool true)
  | ff : VR E .ff (.bool false)
  | bool (b) : VR E (.bool b) (.bool b)
  | int (k n) : VR E (.int k n) (.int k n)
  | str (s) : VR E (.str s) (.string s)
  | nilp : VR E .nilp (.pointer none)
  | ptr (l row sub b sh wd tot o) : E.io l = some (.at b sh wd tot) → o = sh + row * wd + sub → VR E (.ptr l row sub) (.pointer (some ⟨b, o, none⟩))
  | ip (cs sub b base o c el fz) : E.im b = some (.cells c el fz) → o = base + sub → base + cs.length ≤ c.size →
      (∀ (j : Nat) a u, cs[j]? = some a → c.toList[base + j]? = some u → VR E a u) → VR E (.ip cs sub) (.pointer (some ⟨b, o, none⟩))
  | nils : VR E .nils (.slice none 0 0)
  | emp0 : VR E .emp (.slice none 0 0)
  | emp1 (a) : VR E .emp (.slice (some a) 0 0)
  | slc (l off len cl b sh wd tot o cap) : E.io l = some (.at b sh wd tot) → o = sh + off * wd → off + cap ≤ tot → len ≤ cap → cap ≤ maxInt → (cl = true → cap = len) →
      VR E (.slc l off len cl) (.slice (some ⟨b, o, none⟩) len cap)
  | void0 (l off cl) : E.io l = some .void → VR E (.slc l off 0 cl) (.slice none 0 0)
  | zero (l off cl a p) : E.io l = some p → VR E (.slc l off 0 cl) (.slice (some a) 0 0)
  | imm0 (e) : VR E (.imm e []) (.slice none 0 0)
  | imm1 (e a cap) : VR E (.imm e []) (.slice (some a) 0 cap)
  | imm (e xs b off len cap c el fz) : E.im b = some (.cells c el fz) → len = xs.length → len ≤ cap → cap ≤ maxInt → off + len * X.L.size e ≤ c.size →
      (∀ (i j : Nat) x a u, xs[i]? = some x → (X.enc e x)[j]? = some a → c.toList[off + i * X.L.size e + j]? = some u → VR E a u) →
      VR E (.imm e xs) (.slice (some ⟨b, off, none⟩) len cap)
  | nilm : VR E .nilm (.map none)
  | map (l b sh wd tot) : E.io l = some (.at b sh wd tot) → VR E (.map l) (.map (some b))
  | nilf : VR E .nilf .nilFunc
  | fn (f cs ds) : cs.length = Array.size ds → (∀ (i : Nat) a u, cs[i]? = some a → ds.toList[i]? = some u → VR E a u) → VR E (.fn f cs) (.func (.func f) #[] ds)
  | fnb (f x u cs ds) : VR E x u → cs.length = Array.size ds → (∀ (i : Nat) a u, cs[i]? = some a → ds.toList[i]? = some u → VR E a u) → VR E (.fnb f x cs) (.func (.func f) #[u] ds)
  | nili : VR E .nili .nilIface
  | iface (t v u) : VR E v u → VR E (.iface t v) (.iface t u)
  | agg (cs ds) : cs.length = Array.size ds → (∀ (i : Nat) a u, cs[i]? = some a → ds.toList[i]? = some u → VR E a u) → VR E (.agg cs) (.agg ds)
  | tup (cs ds) : cs.length = Array.size ds → (∀ (i : Nat) a u, cs[i]? = some a → ds.toList[i]? = some u → VR E a u) → VR E (.tup cs) (.tuple ds)

def VRs (E : Env) (cs : List (AV S)) (us : List Value) : Prop :=
  cs.length = us.length ∧ ∀ (i : Nat) a u, cs[i]? = some a → us[i]? = some u → VR X E a u

variable {X} {E E' E'' : Env} {w w' w'' : World}

theorem VRs.nil : VRs X E [] [] := ⟨rfl, fun _ _ _ h => by simp at h⟩
theorem VRs.cons {a : AV S} {u : Value} {cs us} (h : VR X E a u) (hr : VRs X E cs us) : VRs X E (a :: cs) (u :: us) := by
  refine ⟨by simp [hr.1], fun i x y hx hy => ?_⟩
  cases i with
  | zero => simp at hx hy; subst hx; subst hy; exact h
  | succ i => exact hr.2 i x y (by simpa using hx) (by simpa using hy)
theorem VRs.head {a : AV S} {u : Value} {cs us} (h : VRs X E (a :: cs) (u :: us)) : VR X E a u := h.2 0 a u rfl rfl
theorem VRs.tail {a : AV S} {u : Value} {cs us} (h : VRs X E (a :: cs) (u :: us)) : VRs X E cs us :=
  ⟨by simpa using h.1, fun i x y hx hy => h.2 (i + 1) x y (by simpa using hx) (by simpa using hy)⟩
theorem VRs.inv_cons {a : AV S} {cs us} (h : VRs X E (a :: cs) us) : ∃ u r, us = u :: r ∧ VR X E a u ∧ VRs X E cs r := by
  cases us with
  | nil => have := h.1; simp at this
  | cons u r => exact ⟨u, r, rfl, h.head, h.tail⟩
theorem VRs.inv_nil {us : List Value} (h : VRs (S := S) X E [] us) : us = [] := by
  exact List.eq_nil_of_length_eq_zero h.1.symm
theorem VRs.append {cs cs' us us'} (h : VRs (S := S) X E cs us) (h' : VRs X E cs' us') : VRs X E (cs ++ cs') (us ++ us') := by
  refine ⟨by simp [h.1, h'.1], fun i a u ha hu => ?_⟩
  rw [List.getElem?_append] at ha hu
  by_cases hi : i < cs.length
  · rw [if_pos hi] at ha; rw [if_pos (by rw [← h.1]; exact hi)] at hu; exact h.2 i a u ha hu
  · rw [if_neg hi] at ha; rw [if_neg (by rw [← h.1]; exact hi)] at hu; rw [← h.1] at hu; exact h'.2 _ a u ha hu
theorem VRs.take {cs us} (n : Nat) (h : VRs (S := S) X E cs us) : VRs X E (cs.take n) (us.take n) := by
  refine ⟨by simp [h.1], fun i a u ha hu => ?_⟩
  rw [List.getElem?_take] at ha hu
  by_cases hi : i < n
  · rw [if_pos hi] at ha hu; exact h.2 i a u ha hu
  · rw [if_neg hi] at ha; cases ha
theorem VRs.drop {cs us} (n : Nat) (h : VRs (S := S) X E cs us) : VRs X E (cs.drop n) (us.drop n) := by
  refine ⟨by simp [h.1], fun i a u ha hu => ?_⟩
  rw [List.getElem?_drop] at ha hu
  exact h.2 _ a u ha hu
theorem VRs.get {cs us} (h : VRs (S := S) X E cs us) {i : Nat} {a : AV S} (ha : cs[i]? = some a) : ∃ u, us[i]? = some u ∧ VR X E a u := by
  have hi : i < cs.length := (List.getElem?_eq_some_iff.1 ha).1
  have hi' : i < us.length := by rw [← h.1]; exact hi
  exact ⟨us[i], by simp [hi'], h.2 i a _ ha (by simp [hi'])⟩
theorem VRs.over {cs us vs ws} (n : Nat) (h : VRs (S := S) X E cs us) (h' : VRs X E vs ws) : VRs X E (over cs n vs) (us.take n ++ ws ++ us.drop (n + ws.length)) := by
  unfold Ev.over
  rw [h'.1]
  exact ((h.take n).append h').append (h.drop _)

theorem vr_agg {cs : List (AV S)} {v : Value} (h : VR X E (.agg cs) v) : ∃ ds : Array Value, v = .agg ds ∧ VRs X E cs ds.toList := by
  cases h with
  | agg _ ds h1 h2 => exact ⟨ds, rfl, by simpa using h1, h2⟩
theorem vr_agg_mk {cs : List (AV S)} {ds : Array Value} (h : VRs X E cs ds.toList) : VR X E (.agg cs) (.agg ds) := .agg _ _ (by simpa using h.1) h.2
theorem vr_tup {cs : List (AV S)} {v : Value} (h : VR X E (.tup cs) v) : ∃ ds : Array Value, v = .tuple ds ∧ VRs X E cs ds.toList := by
  cases h with
  | tup _ ds h1 h2 => exact ⟨ds, rfl, by simpa using h1, h2⟩
theorem vr_tup_mk {cs : List (AV S)} {ds : Array Value} (h : VRs X E cs ds.toList) : VR X E (.tup cs) (.tuple ds) := .tup _ _ (by simpa using h.1) h.2
theorem vr_one {a : AV S} {v : Value} (h : VR X E a v) (ho : one a = true) : v.oneCell' = true ∧ v.cells = #[v] := by
  cases h <;> simp [one] at ho <;> simp [Value.oneCell', Value.cells]
theorem vr_cells {a : AV S} {v : Value} (h : VR X E a v) (ha : a ≠ .top) (ht : ∀ cs, a ≠ .tup cs) : VRs X E (cellsOf a) v.cells.toList := by
  cases h with
  | top => exact absurd rfl ha
  | agg cs ds h1 h2 => exact ⟨by simpa [cellsOf, Value.cells] using h1, h2⟩
  | tup cs => exact absurd rfl (ht cs)
  | _ => (refine VRs.cons ?_ VRs.nil; constructor <;> assumption)

/-- E' goes on from E: what does not change stays, the first k places stay -/
def Env.le (k : Nat) (E E' : Env) : Prop := (∀ b o, E.im b = some o → E'.im b = some o) ∧ ∀ l, l < k → E'.io l = E.io l

theorem VR.mono {a : AV S} {v : Value} (h : VR X E a v) (him : ∀ b o, E.im b = some o → E'.im b = some o) (hio : ∀ l p, E.io l = some p → E'.io l = some p) : VR X E' a v := by
  induction h with
  | ptr l row sub b sh wd tot o h1 h2 => exact .ptr _ _ _ _ _ _ _ _ (hio _ _ h1) h2
  | ip cs sub b base o c el fz h1 h2 h3 _ ih => exact .ip _ _ _ _ _ _ _ _ (him _ _ h1) h2 h3 ih
  | slc l off len cl b sh wd tot o cap h1 h2 h3 h4 h5 h6 => exact .slc _ _ _ _ _ _ _ _ _ _ (hio _ _ h1) h2 h3 h4 h5 h6
  | void0 l off cl h1 => exact .void0 _ _ _ (hio _ _ h1)
  | zero l off cl a p h1 => exact .zero _ _ _ _ p (hio _ _ h1)
  | imm e xs b off len cap c el fz h1 h2 h3 h4 h5 _ ih => exact .imm _ _ _ _ _ _ _ _ _ (him _ _ h1) h2 h3 h4 h5 ih
  | map l b sh wd tot h1 => exact .map _ _ _ _ _ (hio _ _ h1)
  | fn f cs ds h1 _ ih => exact .fn _ _ _ h1 ih
  | fnb f x u cs ds _ h1 _ ih0 ih => exact .fnb _ _ _ _ _ ih0 h1 ih
  | iface t v u _ ih => exact .iface _ _ _ ih
  | agg cs ds h1 _ ih => exact .agg _ _ h1 ih
  | tup cs ds h1 _ ih => exact .tup _ _ h1 ih
  | _ => constructor
theorem VRs.mono {cs us} (h : VRs (S := S) X E cs us) (him : ∀ b o, E.im b = some o → E'.im b = some o) (hio : ∀ l p, E.io l = some p → E'.io l = some p) : VRs X E' cs us :=
  ⟨h.1, fun i a u ha hu => (h.2 i a u ha hu).mono him hio⟩

/-- the blocks that are the call's own -/
def Env.own (E : Env) (b : Nat) : Prop := ∃ l sh wd tot, E.io l = some (.at b sh wd tot)

variable (X E) in
/-- one block of the abstract heap, in memory -/
def BR (w : World) : Blk S → Loc → Prop
  | .dead, _ => True
  | .cells cs, .at b sh wd tot => ∃ c el, w.heap[b]? = some (.cells c el (0, 0)) ∧ sh = 0 ∧ VRs X E cs c.toList
  | .cells _, .void => False
  | .lst e xs, .at b sh wd tot => ∃ c el, w.heap[b]? = some (.cells c el (0, 0)) ∧ wd = X.L.size e ∧ 0 < wd ∧ xs.length ≤ tot ∧ tot ≤ maxInt ∧ sh + tot * wd ≤ c.size ∧
      ∀ (i : Nat) x, xs[i]? = some x → VRs X E (X.enc e x) ((c.toList.drop (sh + i * wd)).take wd)
  | .lst _ xs, .void => xs = []
  | .lsto e xs r s v, .at b sh wd tot => ∃ c el, w.heap[b]? = some (.cells c el (0, 0)) ∧ wd = X.L.size e ∧ 0 < wd ∧ xs.length ≤ tot ∧ tot ≤ maxInt ∧ sh + tot * wd ≤ c.size ∧ r < xs.length ∧ s < wd ∧
      ∀ (i : Nat) x, xs[i]? = some x → VRs X E (if i = r then over (X.enc e x) s [v] else X.enc e x) ((c.toList.drop (sh + i * wd)).take wd)
  | .lsto _ _ _ _ _, .void => False
  | .mp k e es, .at b _ _ _ => ∃ ms clock, w.heap[b]? = some (.map ms clock) ∧ ms.size = es.length ∧
      ∀ (i : Nat) (p : S.T k × S.T e) m, es[i]? = some p → ms.toList[i]? = some m → VR X E (keyV X k p.1) m.key ∧ VR X E (valOf X e p.2) m.val
  | .mp _ _ _, .void => False

/-- the abstract heap, in memory -/
structure HR (X : Ctx S) (E : Env) (H : AH S) (w : World) : Prop where
  io : ∀ l, H.length ≤ l → E.io l = none
  blk : ∀ l, l < H.length → ∃ p, E.io l = some p ∧ BR X E w (getB H l) p
  inj : ∀ l m b sh wd tot sh' wd' tot', E.io l = some (.at b sh wd tot) → E.io m = some (.at b sh' wd' tot') → getB H l ≠ .dead → getB H m ≠ .dead → l = m
  im : ∀ b o, E.im b = some o → w.heap[b]? = some o
  sep : ∀ l b sh wd tot, E.io l = some (.at b sh wd tot) → E.im b ≠ none → getB H l = .dead

def FR (X : Ctx S) (E : Env) (fr : Fr S) (a : Act) : Prop := ∀ t, VR X E (fr t) (a.tmps.getD t undef)

/-- from (E, w) to (E', w'): what became of memory -/
structure Ext (k : Nat) (E : Env) (w : World) (E' : Env) (w' : World) : Prop where
  le : E.le k E'
  own : ∀ b, E'.own b → E.own b ∨ w.heap.size ≤ b
  fixed : ∀ b, E'.im b ≠ none → E.im b ≠ none ∨ E.own b ∨ w.heap.size ≤ b
  size : w.heap.size ≤ w'.heap.size
  frame : ∀ b, b < w.heap.size → ¬ E.own b → w'.heap[b]? = w.heap[b]?
  os : w'.os = w.os
  tape : w'.tape = w.tape
  output : w'.output = w.output

theorem Ext.refl (k : Nat) (E : Env) (w : World) : Ext k E w E w := ⟨⟨fun _ _ h => h, fun _ _ => rfl⟩, fun _ h => .inl h, fun _ h => .inl h, Nat.le_refl _, fun _ _ _ => rfl, rfl, rfl, rfl⟩
theorem Ext.trans {k : Nat} {E E' E'' : Env} {w w' w'' : World} (h : Ext k E w E' w') (h' : Ext k E' w' E'' w'') : Ext k E w E'' w'' := by
  refine ⟨⟨fun b o hb => h'.le.1 b o (h.le.1 b o hb), fun l hl => (h'.le.2 l hl).trans (h.le.2 l hl)⟩, fun b hb => ?_, fun b hb => ?_, Nat.le_trans h.size h'.size, fun b hb ho => ?_, h'.os.trans h.os, h'.tape.trans h.tape, h'.output.trans h.output⟩
  · rcases h'.own b hb with h1 | h1
    · exact h.own b h1
    · exact .inr (Nat.le_trans h.size h1)
  · rcases h'.fixed b hb with h1 | h1 | h1
    · exact h.fixed b h1
    · rcases h.own b h1 with h2 | h2
      · exact .inr (.inl h2)
      · exact .inr (.inr h2)
    · exact .inr (.inr (Nat.le_trans h.size h1))
  · rw [h'.frame b (Nat.lt_of_lt_of_le hb h.size) (fun h1 => by rcases h.own b h1 with h2 | h2; exact ho h2; omega)]
    exact h.frame b hb ho
theorem Ext.mono {k k' : Nat} (h : Ext k E w E' w') (hk : k' ≤ k) : Ext k' E w E' w' := { h with le := ⟨h.le.1, fun l hl => h.le.2 l (Nat.lt_of_lt_of_le hl hk)⟩ }

section lists
variable {H : AH S}
theorem getB_nil (l : Nat) : getB ([] : AH S) l = .dead := rfl
theorem getB_cons_zero (b : Blk S) (H : AH S) : getB (b :: H) 0 = b := rfl
theorem getB_cons_succ (b : Blk S) (H : AH S) (l : Nat) : getB (b :: H) (l + 1) = getB H l := rfl
theorem getB_eq (H : AH S) : ∀ l, getB H l = H.getD l .dead := by
  induction H with
  | nil => intro l; rfl
  | cons b r ih => intro l; cases l with
    | zero => rfl
    | succ l => rw [getB_cons_succ, ih]; simp
theorem getB_lt {l : Nat} (h : getB H l ≠ .dead) : l < H.length := by
  rw [getB_eq] at h
  rcases Nat.lt_or_ge l H.length with h' | h'
  · exact h'
  · rw [List.getD_eq_getElem?_getD, List.getElem?_eq_none h'] at h; exact absurd rfl h
theorem setB_eq (H : AH S) : ∀ l b, setB H l b = H.set l b := by
  induction H with
  | nil => intro l b; rfl
  | cons c r ih => intro l b; cases l with
    | zero => rfl
    | succ l => show c :: setB r l b = _; rw [ih]; rfl
theorem length_setB (H : AH S) (l : Nat) (b : Blk S) : (setB H l b).length = H.length := by rw [setB_eq]; simp
theorem getB_setB (H : AH S) (l m : Nat) (b : Blk S) (hl : l < H.length) : getB (setB H l b) m = if m = l then b else getB H m := by
  rw [setB_eq, getB_eq, getB_eq]
  simp only [List.getD_eq_getElem?_getD, List.getElem?_set]
  by_cases h : m = l
  · subst h; simp [hl]
  · rw [if_neg (Ne.symm h), if_neg h]
theorem getB_append (H : AH S) (b : Blk S) (m : Nat) : getB (H ++ [b]) m = if m = H.length then b else getB H m := by
  rw [getB_eq, getB_eq]
  simp only [List.getD_eq_getElem?_getD, List.getElem?_append]
  by_cases h : m < H.length
  · rw [if_pos h, if_neg (by omega)]
  · rw [if_neg h]
    by_cases h' : m = H.length
    · subst h'; simp
    · rw [if_neg h']
      have : 1 ≤ m - H.length := by omega
      rw [List.getElem?_eq_none (by simpa using this), List.getElem?_eq_none (by omega)]
theorem nth_eq {α : Type} (l : List α) : ∀ i, nth l i = l[i]? := by
  induction l with
  | nil => intro i; rfl
  | cons a r ih => intro i; cases i with
    | zero => rfl
    | succ i => show nth r i = _; rw [ih]; simp
end lists

theorem upd_eq (d : Nat) (v : AV S) (fr : Fr S) (t : Nat) : upd d v fr t = if t = d then v else fr t := by
  unfold upd
  by_cases h : t = d
  · subst h; rw [Nat.beq_refl]; simp
  · have : Nat.beq d t = false := by
      cases hb : Nat.beq d t with
      | false => rfl
      | true => exact absurd (Nat.eq_of_beq_eq_true hb).symm h
    rw [this]; simp [h]
theorem FR.put {E : Env} {fr : Fr S} {a : Act} {d : Nat} {v : AV S} {u : Value} (h : FR X E fr a) (hd : d < a.tmps.size) (hv : VR X E v u) : FR X E (upd d v fr) (a.put (some d) u) := by
  intro t
  rw [upd_eq]
  simp only [Act.put]
  by_cases ht : t = d
  · subst ht; rw [if_pos rfl]; simp [hd]; exact hv
  · rw [if_neg ht]
    have : (a.tmps.setIfInBounds d u).getD t undef = a.tmps.getD t undef := by
      simp only [Array.getD_eq_getD_getElem?, Array.getElem?_setIfInBounds]
      rw [if_neg (fun h => ht h.symm)]
    rw [this]; exact h t
theorem FR.put_top {E : Env} {fr : Fr S} {a : Act} {d : Nat} {u : Value} (h : FR X E fr a) : FR X E (upd d .top fr) (a.put (some d) u) := by
  intro t
  rw [upd_eq]
  by_cases ht : t = d
  · rw [if_pos ht]; exact .top _
  · rw [if_neg ht]
    have : (a.put (some d) u).tmps.getD t undef = a.tmps.getD t undef := by
      simp only [Act.put, Array.getD_eq_getD_getElem?, Array.getElem?_setIfInBounds]
      rw [if_neg (fun h => ht h.symm)]
    rw [this]; exact h t
theorem FR.put_none {E : Env} {fr : Fr S} {a : Act} {u : Value} (h : FR X E fr a) : FR X E fr (a.put none u) := h
theorem FR.mono {fr : Fr S} {a : Act} (h : FR X E fr a) (him : ∀ b o, E.im b = some o → E'.im b = some o) (hio : ∀ l p, E.io l = some p → E'.io l = some p) : FR X E' fr a := fun t => (h t).mono him hio
theorem FR.set {E : Env} {fr : Fr S} {a : Act} {s : Nat} {v : AV S} (h : FR X E fr a) (hv : VR X E v (a.tmps.getD s undef)) : FR X E (upd s v fr) a := by
  intro t
  rw [upd_eq]
  by_cases ht : t = s
  · subst ht; rw [if_pos rfl]; exact hv
  · rw [if_neg ht]; exact h t

theorem vr_ofCell (v : Value) : VR (S := S) X E (ofCell v) v := by
  unfold ofCell
  split <;> constructor
theorem vrs_ofCells (l : List Value) : VRs (S := S) X E (l.map ofCell) l := by
  induction l with
  | nil => exact VRs.nil
  | cons a r ih => exact VRs.cons (vr_ofCell a) ih
theorem vr_ofV (v : Value) : VR (S := S) X E (ofV v) v := by
  unfold ofV
  split
  · exact vr_agg_mk (vrs_ofCells _)
  · exact .top _
  · exact vr_ofCell v
theorem vr_opd {fr : Fr S} {a : Act} (h : FR X E fr a) (x : Operand) : VR X E (opd fr x) (a.eval x) := by
  cases x with
  | tmp t => exact h t
  | const v => exact vr_ofV v
  | global g => exact .top _
  | func f => exact .fn f [] #[] rfl (fun i a u h => by simp at h)
end Ev
