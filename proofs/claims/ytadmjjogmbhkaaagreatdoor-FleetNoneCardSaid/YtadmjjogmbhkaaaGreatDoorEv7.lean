/- Calls, the machine, bodies: what the machine's run says holds of the model's code. -/
import Derived.Test.YtadmjjogmbhkaaaGreatDoorEv6
import Derived.StillTail
namespace Ev
open Go
variable {S : Sig} {P : Program} {X : Ctx S} {E E' E2 : Env} {fr : Fr S} {H H' : AH S} {a : Act} {w w' : World}

/-- what a function of the program is proved to do -/
def FnOk (P : Program) (X : Ctx S) (f : FuncId) (spec : Spec S) : Prop :=
  ∀ args H K, spec args H K → ∀ (E : Env) (w : World) (us : Array Value), VRs X E args us.toList → HR X E H w →
    ((∀ w, (callFunc f us).run P w = .ok (.enter f us) w) ∧
      Calls P f us w fun e w' => ∃ v u H' E', e = .returned u ∧ K v H' ∧ VR X E' v u ∧ HR X E' H' w' ∧ Ext H.length E w E' w') ∨
    ∃ v u, (callFunc f us).run P w = .ok (.value u) w ∧ K v H ∧ VR X E v u

theorem back_lt {ls : List Nat} {n j : Nat} (h : j < ls.length) : back ls n j = ls[j]? := by
  unfold back
  rw [nth_eq]
  split
  · rename_i l hl; exact hl.symm
  · rename_i hl; rw [List.getElem?_eq_none_iff] at hl; omega
theorem back_ge {ls : List Nat} {n j : Nat} (h : ls.length ≤ j) : back ls n j = some (n + (j - ls.length)) := by
  unfold back
  rw [nth_eq, List.getElem?_eq_none h]

theorem length_putBack (f : Nat → Option Nat) : ∀ (ls : List Nat) (bs H : AH S), (putBack f ls bs H).length = H.length
  | [], bs, H => by simp [putBack]
  | l :: ls, [], H => by simp [putBack]
  | l :: ls, b :: bs, H => by simp only [putBack]; rw [length_putBack f ls bs, length_setB]
theorem putBack_get (f : Nat → Option Nat) : ∀ (ls : List Nat) (bs H : AH S), ls.Nodup → (∀ l ∈ ls, l < H.length) → ls.length ≤ bs.length → ∀ m, getB (putBack f ls bs H) m =
    match idxN m 0 ls with | some i => renB f (getB bs i) | none => getB H m
  | [], bs, H, _, _, _, m => by simp [putBack, idxN]
  | l :: ls, [], H, _, _, h, m => by simp at h
  | l :: ls, b :: bs, H, hn, hl, h, m => by
    simp only [putBack]
    have hnn := List.nodup_cons.1 hn
    rw [putBack_get f ls bs _ hnn.2 (fun x hx => by rw [length_setB]; exact hl x (by simp [hx])) (by simpa using h)]
    by_cases hm : m ∈ ls
    · obtain ⟨j, hj⟩ := List.mem_iff_getElem?.1 hm
      have hne : l ≠ m := fun e => by subst e; exact hnn.1 hm
      rw [idxN_get ls 0 j hnn.2 hj, idxN_get (l :: ls) 0 (j + 1) hn (by simpa using hj)]
      simp only [Nat.zero_add, getB_cons_succ]
    · have e1 : idxN m 0 ls = none := by
        cases hq : idxN m 0 ls with
        | none => rfl
        | some p => exact absurd (List.mem_of_getElem? (idxN_some _ _ hq).2) hm
      rw [e1]
      simp only
      rw [getB_setB _ _ _ _ (hl l (by simp))]
      by_cases hml : m = l
      · subst hml
        rw [if_pos rfl, idxN_get (m :: ls) 0 0 hn (by simp)]
        simp [getB_cons_zero]
      · rw [if_neg hml]
        have e2 : idxN m 0 (l :: ls) = none := by
          cases hq : idxN m 0 (l :: ls) with
          | none => rfl
          | some p =>
            have := List.mem_of_getElem? (idxN_some _ _ hq).2
            rcases List.mem_cons.1 this with h | h
            · exact absurd h hml
            · exact absurd h hm
        rw [e2]

theorem getB_append2 (H K : AH S) (m : Nat) : getB (H ++ K) m = if m < H.length then getB H m else getB K (m - H.length) := by
  rw [getB_eq, getB_eq, getB_eq]
  simp only [List.getD_eq_getElem?_getD, List.getElem?_append]
  by_cases h : m < H.length
  · rw [if_pos h, if_pos h]
  · rw [if_neg h, if_neg h]
theorem getB_drop_map (f : Blk S → Blk S) (hf : f .dead = .dead) (K : AH S) (n m : Nat) : getB ((K.drop n).map f) m = f (getB K (n + m)) := by
  rw [getB_eq, getB_eq]
  simp only [List.getD_eq_getElem?_getD, List.getElem?_map, List.getElem?_drop]
  cases K[n + m]? with
  | none => simp [hf]
  | some b => simp

/-- the environment behind a call -/
def Env.merge (E : Env) (n k : Nat) (E' : Env) : Env := { im := E'.im, io := fun l => if l < n then E.io l else E'.io (l - n + k) }

/-- a function proved in its own part of the heap is proved in any heap -/
theorem apart_sound (G : Good P X) {f : FuncId} {spec : Spec S} (hok : FnOk P X f spec) {args : List (AV S)} {K : AV S → AH S → Prop} (h : apart spec args H K) {us : Array Value} (ha : VRs X E args us.toList) (hr : HR X E H w) :
    ((∀ w, (callFunc f us).run P w = .ok (.enter f us) w) ∧
      Calls P f us w fun e w' => ∃ v u H' E', e = .returned u ∧ K v H' ∧ VR X E' v u ∧ HR X E' H' w' ∧ (∀ k, k ≤ H.length → Ext k E w E' w') ∧ H.length ≤ H'.length ∧
        (∀ b o, E.im b = some o → E'.im b = some o) ∧ (∀ l p, E.io l = some p → E'.io l = some p)) ∨
    ∃ v u H' E', (callFunc f us).run P w = .ok (.value u) w ∧ K v H' ∧ VR X E' v u ∧ HR X E' H' w ∧ (∀ k, k ≤ H.length → Ext k E w E' w) ∧ H.length ≤ H'.length ∧
        (∀ b o, E.im b = some o → E'.im b = some o) ∧ (∀ l p, E.io l = some p → E'.io l = some p) := by
  unfold apart at h
  rw [forceN_eq] at h
  generalize hls : sub H args = ls at h
  have hm : Met H ls := by rw [← hls]; exact reach_met _ _ _ ⟨List.nodup_nil, fun l hl => by simp at hl⟩
  -- the call's own part is a heap
  have hplace : (fun l => idxN l 0 ls) = place 0 ls := by
    funext l
    unfold place
    cases hq : idxN l 0 ls with
    | some p => rfl
    | none => simp [Nat.blt, Nat.ble]
  have hsub : (ls.map fun l => renB (fun l => idxN l 0 ls) (getB H l)) = canonH 0 ls H := by
    rw [hplace]; simp [canonH, heads]
  have hr1 : HR X (E.canon 0 ls) (canonH 0 ls H) w := hr.canon G (Nat.zero_le _) hm
  have ha1 : VRs X (E.canon 0 ls) (args.map (ren (fun l => idxN l 0 ls) deep)) us.toList := by rw [hplace]; exact vrs_map_ren G moves_canon ha
  have hlen1 : (canonH 0 ls H).length = ls.length := by rw [length_canonH (Nat.zero_le _)]; omega
  have hio1 : ∀ i, (E.canon 0 ls).io i = (ls[i]?).bind E.io := fun i => by simp [Env.canon]
  rw [hsub] at h
  -- behind the call
  have merge : ∀ (w' : World) (v : AV S) (u : Value) (H1 : AH S) (E1 : Env), VR X E1 v u → HR X E1 H1 w' → Ext ls.length (E.canon 0 ls) w E1 w' →
      VR X (E.merge H.length ls.length E1) (ren (back ls H.length) deep v) u ∧
      HR X (E.merge H.length ls.length E1) (putBack (back ls H.length) ls H1 H ++ (H1.drop ls.length).map (renB (back ls H.length))) w' ∧
      (∀ k, k ≤ H.length → Ext k E w (E.merge H.length ls.length E1) w') ∧ H.length ≤ (putBack (back ls H.length) ls H1 H ++ (H1.drop ls.length).map (renB (back ls H.length))).length ∧
      (∀ b o, E.im b = some o → (E.merge H.length ls.length E1).im b = some o) ∧ (∀ l p, E.io l = some p → (E.merge H.length ls.length E1).io l = some p) := by
    intro w' v u H1 E1 hv hr' hx
    have hlt : ∀ l ∈ ls, l < H.length := fun l hl => getB_lt (hm.live l hl)
    -- the callee's first places are the caller's
    have hE1 : ∀ i l, ls[i]? = some l → E1.io i = E.io l := by
      intro i l hi
      rw [hx.le.2 i (List.getElem?_eq_some_iff.1 hi).1, hio1, hi]; rfl
    have hlenH1 : ls.length ≤ H1.length := by
      rcases Nat.lt_or_ge H1.length ls.length with hh | hh
      · exfalso
        have hmem : ls[H1.length] ∈ ls := List.getElem_mem _
        obtain ⟨p, hp, _⟩ := hr.blk _ (hlt _ hmem)
        have := hE1 H1.length ls[H1.length] (by simp)
        rw [hp, hr'.io _ (Nat.le_refl _)] at this; cases this
      · exact hh
    have hmv : Moves (back ls H.length) E1 (E.merge H.length ls.length E1) := by
      refine ⟨fun _ _ h => h, fun l m p hb hio => ?_⟩
      simp only [Env.merge]
      rcases Nat.lt_or_ge l ls.length with hl | hl
      · rw [back_lt hl] at hb
        have hml := hlt m (List.mem_of_getElem? hb)
        rw [if_pos hml, ← hE1 l m hb]; exact hio
      · rw [back_ge hl] at hb
        injection hb with hb
        rw [if_neg (by omega), show m - H.length + ls.length = l by omega]; exact hio
    have him : ∀ b o, E.im b = some o → E1.im b = some o := fun b o h => hx.le.1 b o h
    have hio : ∀ l p, E.io l = some p → (E.merge H.length ls.length E1).io l = some p := by
      intro l p h
      simp only [Env.merge]
      rw [if_pos (hr.lt h)]; exact h
    -- the rest of the caller's heap is as it was
    have hown1 : ∀ b, (E.canon 0 ls).own b → ∃ l ∈ ls, ∃ sh wd tot, E.io l = some (.at b sh wd tot) := by
      intro b ⟨i, sh, wd, tot, h⟩
      rw [hio1] at h
      cases hq : ls[i]? with
      | none => rw [hq] at h; cases h
      | some l => rw [hq] at h; exact ⟨l, List.mem_of_getElem? hq, sh, wd, tot, h⟩
    have hrest : ∀ l b sh wd tot, E.io l = some (.at b sh wd tot) → l ∉ ls → getB H l ≠ .dead → ¬ (E.canon 0 ls).own b := by
      intro l b sh wd tot hl hn hd ho
      obtain ⟨m, hmm, sh', wd', tot', hm'⟩ := hown1 b ho
      have := hr.inj l m b _ _ _ _ _ _ hl hm' hd (hm.live m hmm)
      exact hn (this ▸ hmm)
    have hlenP : (putBack (back ls H.length) ls H1 H).length = H.length := length_putBack _ _ _ _
    have hget : ∀ m, getB (putBack (back ls H.length) ls H1 H ++ (H1.drop ls.length).map (renB (back ls H.length))) m =
        if m < H.length then (match idxN m 0 ls with | some i => renB (back ls H.length) (getB H1 i) | none => getB H m) else renB (back ls H.length) (getB H1 (m - H.length + ls.length)) := by
      intro m
      rw [getB_append2, hlenP]
      by_cases hmm : m < H.length
      · rw [if_pos hmm, if_pos hmm, putBack_get _ _ _ _ hm.nodup hlt hlenH1]
        
      · rw [if_neg hmm, if_neg hmm, getB_drop_map _ rfl, Nat.add_comm]
    have src : ∀ m b sh wd tot, (E.merge H.length ls.length E1).io m = some (.at b sh wd tot) → getB (putBack (back ls H.length) ls H1 H ++ (H1.drop ls.length).map (renB (back ls H.length))) m ≠ .dead →
        (m < H.length ∧ m ∉ ls ∧ E.io m = some (.at b sh wd tot) ∧ getB H m ≠ .dead) ∨
        (∃ j, back ls H.length j = some m ∧ E1.io j = some (.at b sh wd tot) ∧ getB H1 j ≠ .dead) := by
      intro m b sh wd tot h1 h2
      rw [hget] at h2
      simp only [Env.merge] at h1
      by_cases hmm : m < H.length
      · rw [if_pos hmm] at h1 h2
        cases hq : idxN m 0 ls with
        | none =>
          rw [hq] at h2
          exact .inl ⟨hmm, idxN_none _ _ hq, h1, h2⟩
        | some i =>
          rw [hq] at h2
          have hi := (idxN_some _ _ hq).2
          rw [Nat.sub_zero] at hi
          refine .inr ⟨i, ?_, ?_, fun e => h2 (renB_dead.2 e)⟩
          · rw [back_lt (List.getElem?_eq_some_iff.1 hi).1]; exact hi
          · rw [hE1 i m hi]; exact h1
      · rw [if_neg hmm] at h1 h2
        refine .inr ⟨m - H.length + ls.length, ?_, h1, fun e => h2 (renB_dead.2 e)⟩
        rw [back_ge (by omega)]; congr 1; omega
    refine ⟨vr_ren G hmv _ _ _ hv, ⟨fun l hl => ?_, fun l hl => ?_, fun l m b sh wd tot sh' wd' tot' h1 h2 h3 h4 => ?_, hr'.im, fun l b sh wd tot h1 h2 => ?_⟩, fun k hk => ?_, ?_, him, hio⟩
    · simp only [List.length_append, hlenP, List.length_map, List.length_drop] at hl
      simp only [Env.merge]
      rw [if_neg (by omega)]
      exact hr'.io _ (by omega)
    · simp only [List.length_append, hlenP, List.length_map, List.length_drop] at hl
      rw [hget]
      simp only [Env.merge]
      by_cases hll : l < H.length
      · rw [if_pos hll, if_pos hll]
        cases hq : idxN l 0 ls with
        | some i =>
          have hi := (idxN_some _ _ hq).2
          rw [Nat.sub_zero] at hi
          obtain ⟨p, hp, hb⟩ := hr'.blk i (by have := (List.getElem?_eq_some_iff.1 hi).1; omega)
          refine ⟨p, by rw [← hE1 i l hi]; exact hp, br_ren G hmv hb (fun _ _ _ _ _ => rfl)⟩
        | none =>
          obtain ⟨p, hp, hb⟩ := hr.blk l hll
          by_cases hd : getB H l = .dead
          · simp only [hd]; exact ⟨p, hp, trivial⟩
          · refine ⟨p, hp, hb.mono him hio fun b sh wd tot e => ?_⟩
            subst e
            exact hx.frame b (hb.lt hd) (hrest l b sh wd tot hp (idxN_none _ _ hq) hd)
      · rw [if_neg hll, if_neg hll]
        obtain ⟨p, hp, hb⟩ := hr'.blk (l - H.length + ls.length) (by omega)
        exact ⟨p, hp, br_ren G hmv hb (fun _ _ _ _ _ => rfl)⟩
    · have cross : ∀ l j b sh wd tot sh' wd' tot', E.io l = some (.at b sh wd tot) → getB H l ≠ .dead → l ∉ ls → E1.io j = some (.at b sh' wd' tot') → False := by
        intro l j b sh wd tot sh' wd' tot' h1 h2 h3 h4
        rcases hx.own b ⟨j, _, _, _, h4⟩ with ho | ho
        · exact hrest l b _ _ _ h1 h3 h2 ho
        · have := (hr.blk_at h1).lt h2; omega
      rcases src l _ _ _ _ h1 h3 with ⟨a1, a2, a3, a4⟩ | ⟨j, a1, a2, a3⟩ <;> rcases src m _ _ _ _ h2 h4 with ⟨b1, b2, b3, b4⟩ | ⟨i, b1, b2, b3⟩
      · exact hr.inj l m b _ _ _ _ _ _ a3 b3 a4 b4
      · exact (cross l i b _ _ _ _ _ _ a3 a4 a2 b2).elim
      · exact (cross m j b _ _ _ _ _ _ b3 b4 b2 a2).elim
      · have e := hr'.inj j i b _ _ _ _ _ _ a2 b2 a3 b3
        subst e
        rw [a1] at b1; injection b1
    · cases hg : getB (putBack (back ls H.length) ls H1 H ++ (H1.drop ls.length).map (renB (back ls H.length))) l with
      | dead => rfl
      | _ =>
        rcases src l _ _ _ _ h1 (by rw [hg]; simp) with ⟨a1, a2, a3, a4⟩ | ⟨j, a1, a2, a3⟩
        · exfalso
          rcases hx.fixed b h2 with h5 | h5 | h5
          · exact a4 (hr.sep l b _ _ _ a3 h5)
          · exact hrest l b _ _ _ a3 a2 a4 h5
          · have := (hr.blk_at a3).lt a4; omega
        · exact absurd (hr'.sep j b _ _ _ a2 h2) a3
    · refine ⟨⟨him, fun l hl => ?_⟩, fun b ⟨l, sh, wd, tot, h⟩ => ?_, fun b hb => ?_, hx.size, fun b hb hn => hx.frame b hb fun ho => ?_, hx.os, hx.tape, hx.output⟩
      · simp only [Env.merge]; rw [if_pos (by omega)]
      · simp only [Env.merge] at h
        split at h
        · exact .inl ⟨l, sh, wd, tot, h⟩
        · rcases hx.own b ⟨_, sh, wd, tot, h⟩ with ho | ho
          · obtain ⟨m, _, sh', wd', tot', hm'⟩ := hown1 b ho
            exact .inl ⟨m, sh', wd', tot', hm'⟩
          · exact .inr ho
      · rcases hx.fixed b hb with h5 | h5 | h5
        · exact .inl h5
        · obtain ⟨m, _, sh', wd', tot', hm'⟩ := hown1 b h5
          exact .inr (.inl ⟨m, sh', wd', tot', hm'⟩)
        · exact .inr (.inr h5)
      · obtain ⟨m, _, sh', wd', tot', hm'⟩ := hown1 b ho
        exact hn ⟨m, sh', wd', tot', hm'⟩
    · simp only [List.length_append, hlenP]; omega
  rcases hok _ _ _ h (E.canon 0 ls) w us ha1 hr1 with ⟨hc, hcalls⟩ | ⟨v, u, hrun, hk, hv⟩
  · refine .inl ⟨hc, hcalls.mono ?_⟩
    rintro e w' ⟨v, u, H1, E1, rfl, hk, hv, hr', hx⟩
    rw [hlen1] at hx
    obtain ⟨m1, m2, m3, m4, m5, m6⟩ := merge w' v u H1 E1 hv hr' hx
    exact ⟨_, u, _, _, rfl, hk, m1, m2, m3, m4, m5, m6⟩
  · obtain ⟨m1, m2, m3, m4, m5, m6⟩ := merge w v u _ _ hv hr1 (Ext.refl _ _ _)
    exact .inr ⟨_, u, _, _, hrun, hk, m1, m2, m3, m4, m5, m6⟩
end Ev
