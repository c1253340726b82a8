/- The concrete run: what its memory tells of a slice of numbers, of an empty map; the middle of a sorted list. -/
import Derived.Test.YtadmjjogmbhkaaaGreatDoorCe7
namespace Ev
open Go
variable {P : Program} {X : Ctx S0} {E : Env} {w : World}

def insI (a : Int) : List Int → List Int
  | [] => [a]
  | b :: r => match ltI b a with
    | true => b :: insI a r
    | false => a :: b :: r
def sortI : List Int → List Int
  | [] => []
  | a :: r => insI a (sortI r)
def i64s : List V → Option (List Int)
  | [] => some []
  | .int .i64 n :: r => match i64s r with
    | some ns => some (n :: ns)
    | none => none
  | _ :: _ => none
theorem i64s_len : ∀ {vs : List V} {zs : List Int}, i64s vs = some zs → zs.length = vs.length
  | [], zs, h => by simp [i64s] at h; subst h; rfl
  | v :: r, zs, h => by
    unfold i64s at h
    split at h
    · rename_i e; cases e
    · rename_i n r' e
      injection e with e1 e2; subst e1; subst e2
      split at h
      · rename_i ns hn
        injection h with h; subst h
        simp [i64s_len hn]
      · cases h
    · cases h
theorem i64s_get : ∀ {vs : List V} {zs : List Int}, i64s vs = some zs → ∀ j, j < zs.length → vs[j]? = some (.int .i64 (zs[j]?.getD 0))
  | [], zs, h, j, hj => by simp [i64s] at h; subst h; simp at hj
  | v :: r, zs, h, j, hj => by
    unfold i64s at h
    split at h
    · rename_i e; cases e
    · rename_i n r' e
      injection e with e1 e2; subst e1; subst e2
      split at h
      · rename_i ns hn
        injection h with h; subst h
        cases j with
        | zero => rfl
        | succ j => simpa using i64s_get hn j (by simpa using hj)
      · cases h
    · cases h
theorem ltI_true {a b : Int} : ltI a b = true ↔ a < b := by
  cases h : ltI a b with
  | false => have := ltI_false.1 h; simp; omega
  | true =>
    simp
    refine Classical.byContradiction fun hn => ?_
    have := ltI_false.2 (show b ≤ a by omega)
    rw [h] at this; cases this
theorem insI_perm (a : Int) : ∀ l, (insI a l).Perm (a :: l)
  | [] => .refl _
  | b :: r => by
    unfold insI
    split
    · exact ((insI_perm a r).cons b).trans (.swap a b r)
    · exact .refl _
theorem sortI_perm : ∀ l, (sortI l).Perm l
  | [] => .refl _
  | a :: r => (insI_perm a _).trans ((sortI_perm r).cons a)
theorem insI_sorted (a : Int) : ∀ l, l.Pairwise (· ≤ ·) → (insI a l).Pairwise (· ≤ ·)
  | [], _ => by simp [insI]
  | b :: r, h => by
    unfold insI
    have hb := List.pairwise_cons.1 h
    split
    · rename_i hlt
      have hlt := ltI_true.1 hlt
      refine List.pairwise_cons.2 ⟨fun x hx => ?_, insI_sorted a r hb.2⟩
      rcases List.mem_cons.1 ((insI_perm a r).mem_iff.1 hx) with rfl | hx
      · omega
      · exact hb.1 x hx
    · rename_i hlt
      have hlt := ltI_false.1 hlt
      refine List.pairwise_cons.2 ⟨fun x hx => ?_, h⟩
      rcases List.mem_cons.1 hx with rfl | hx
      · exact hlt
      · exact Int.le_trans hlt (hb.1 x hx)
theorem sortI_sorted : ∀ l, (sortI l).Pairwise (· ≤ ·)
  | [] => .nil
  | a :: r => insI_sorted a _ (sortI_sorted r)
theorem sortI_eq (l : List Int) : l.mergeSort (fun x y => decide (x ≤ y)) = sortI l := by
  refine List.Perm.eq_of_pairwise (le := fun a b => a ≤ b) (fun a b _ _ h1 h2 => Int.le_antisymm h1 h2) ?_ (sortI_sorted l) ((List.mergeSort_perm l _).trans (sortI_perm l).symm)
  have h := List.pairwise_mergeSort (le := fun x y : Int => decide (x ≤ y)) (fun a b c h1 h2 => by simp at *; omega) (fun a b => by simp; omega) l
  exact h.imp (fun h => by simpa using h)

theorem vr_slc_inv {l off len : Nat} {cl : Bool} {u : Value} (hv : VR X E (.slc l off len cl) u) (h0 : 0 < len) :
    ∃ b sh wd tot o cap, u = .slice (some ⟨b, o, none⟩) len cap ∧ E.io l = some (.at b sh wd tot) ∧ o = sh + off * wd ∧ off + cap ≤ tot ∧ len ≤ cap := by
  cases hv with
  | slc l off len cl b sh wd tot o cap h1 h2 h3 h4 h5 h6 => exact ⟨b, sh, wd, tot, o, cap, rfl, h1, h2, h3, h4⟩
  | void0 => exact absurd h0 (Nat.lt_irrefl 0)
  | zero => exact absurd h0 (Nat.lt_irrefl 0)
/-- a slice of numbers, in memory -/
theorem slc_ints {h : Tr CB} (hr : CH X E (hp h) w) {l off len : Nat} {cl : Bool} {u : Value} (hv : VR X E (.slc l off len cl) u) {cs : List V} (hg : h.get .dead l = .arr 1 cs) {zs : List Int}
    (hz : i64s ((cs.drop off).take len) = some zs) (h0 : 0 < len) (hle : off + len ≤ cs.length) :
    ∃ b o cap, u = .slice (some ⟨b, o, none⟩) zs.length cap ∧ zs.length = len ∧ b < w.heap.size ∧ ∀ j, j < zs.length → w.cell? ⟨b, o + j, none⟩ = some (.int .i64 (zs[j]?.getD 0)) := by
  have hlen : zs.length = len := by rw [i64s_len hz]; simp; omega
  have hd : hp h l = .arr 1 cs := hg
  obtain ⟨b, sh, wd, tot, o, cap, rfl, hio, ho, hcap, hlc⟩ := vr_slc_inv hv h0
  obtain ⟨p, hp1, hp2⟩ := hr.blk l (by rw [hd]; intro e; cases e)
  rw [hio] at hp1
  injection hp1 with hp1; subst hp1
  rw [hd] at hp2
  have hlt := hp2.lt (by intro e; cases e)
  obtain ⟨c, el, ⟨fz, hb, hfz⟩, hwd, hct, htm, hsz, hvs⟩ := hp2
  subst hwd
  refine ⟨b, o, cap, by rw [hlen], hlen, hlt, fun j hj => ?_⟩
  have e1 := i64s_get hz j hj
  rw [List.getElem?_take_of_lt (by omega), List.getElem?_drop] at e1
  have hjl : off + j < cs.length := by omega
  have hl2 := hvs.1
  have e2 : ((c.toList.drop sh).take cs.length)[off + j]? = some (((c.toList.drop sh).take cs.length)[off + j]'(by omega)) := List.getElem?_eq_getElem _
  generalize ((c.toList.drop sh).take cs.length)[off + j]'(by omega) = u at e2
  have e3 := hvs.2 (off + j) _ _ e1 e2
  rw [List.getElem?_take_of_lt hjl, List.getElem?_drop] at e2
  cases e3
  simp only [World.cell?, hb]
  have : o + j = sh + (off + j) := by rw [ho]; omega
  rw [this]
  simpa using e2
end Ev
