/- The concrete run: slices.Delete of the first of a row whose elements have six cells (four numbers, a list, a text). -/
import Derived.Test.YtadmjjogmbhkaaaGreatDoorCe12
namespace Ev
open Go
variable {P : Program} {X : Ctx S0}

/-- the zero element -/
def zl6 : List Value := [.int .i64 0, .int .i64 0, .int .i64 0, .int .i64 0, .slice none 0 0, .string ⟨#[]⟩]
def zv6 : List V := [.int .i64 0, .int .i64 0, .int .i64 0, .int .i64 0, .nils, .str ⟨⟨[]⟩⟩]
theorem zv6_vr {E : Env} : VRs X E zv6 zl6 :=
  VRs.cons (.int _ _) (VRs.cons (.int _ _) (VRs.cons (.int _ _) (VRs.cons (.int _ _) (VRs.cons .nils (VRs.cons (.str _) VRs.nil)))))
/-- what a row holds behind it: k cells lie ahead -/
def delRow {α : Type} (z : List α) (c : List α) (k n : Nat) : List α := c.take k ++ (c.drop (k + 6)).take ((n - 1) * 6) ++ z ++ c.drop (k + n * 6)
theorem delRow_mid {α : Type} (z p L q : List α) (k n : Nat) (hn : 1 ≤ n) (h : k + n * 6 ≤ L.length) : delRow z (p ++ L ++ q) (p.length + k) n = p ++ delRow z L k n ++ q := by
  unfold delRow
  have e1 : (p ++ L ++ q).take (p.length + k) = p ++ L.take k := by
    rw [List.append_assoc, List.take_length_add_append, List.take_append_of_le_length (by omega)]
  have e2 : (p ++ L ++ q).drop (p.length + k + 6) = L.drop (k + 6) ++ q := by
    rw [List.append_assoc, Nat.add_assoc, List.drop_length_add_append, List.drop_append_of_le_length (by omega)]
  have e3 : (p ++ L ++ q).drop (p.length + k + n * 6) = L.drop (k + n * 6) ++ q := by
    rw [List.append_assoc, Nat.add_assoc, List.drop_length_add_append, List.drop_append_of_le_length (by omega)]
  rw [e1, e2, e3, List.take_append_of_le_length (by simp; omega)]
  simp
theorem delRow_len {α : Type} (z c : List α) (k n : Nat) (hz : z.length = 6) (hn : 1 ≤ n) (h : k + n * 6 ≤ c.length) : (delRow z c k n).length = c.length := by
  unfold delRow
  simp [hz]
  omega
theorem delRow_vr {E : Env} {cs : List V} {us : List Value} (h : VRs X E cs us) (k n : Nat) : VRs X E (delRow zv6 cs k n) (delRow zl6 us k n) :=
  (((h.take k).append ((h.drop (k + 6)).take ((n - 1) * 6))).append zv6_vr).append (h.drop (k + n * 6))

/-- what the function is to do -/
def DelDoes (P : Program) (f : FuncId) : Prop := ∀ (b o cap n : Nat) (c : Array Value) (el : TypeId) (fz : Nat × Nat) (w : World), w.heap[b]? = some (.cells c el fz) → okFz fz c.size → (∀ u ∈ (c.toList.drop (o + 6)).take ((n - 1) * 6), u.oneCell' = true) →
  1 ≤ n → n ≤ cap → cap ≤ maxInt → o + cap * 6 ≤ c.size →
  Calls P f #[.slice (some ⟨b, o, none⟩) n cap, .int .i64 0, .int .i64 1] w fun e w' => e = .returned (.slice (some ⟨b, o, none⟩) (n - 1) cap) ∧ w'.heap.size = w.heap.size ∧ (∀ k, k ≠ b → w'.heap[k]? = w.heap[k]?) ∧
    w'.heap[b]? = some (.cells (delRow zl6 c.toList o n).toArray el fz) ∧ w'.os = w.os ∧ w'.tape = w.tape ∧ w'.output = w.output

noncomputable def delO (f0 : FuncId) : FuncId → List V → Tr CB → Nat → Option Cr := fun f xs h n => match Nat.beq f f0 with
  | true => match xs with
    | [.slc l off len _, .int .i64 i, .int .i64 j] => match h.get .dead l with
      | .arr wd cs => match Nat.beq wd 6 && Nat.blt 0 len && Nat.ble (off * 6 + len * 6) cs.length && eqI i 0 && eqI j 1 && Nat.blt l 4294967296 && ((cs.drop (off * 6 + 6)).take ((len - 1) * 6)).all one with
        | true => some (fVs (delRow zv6 cs (off * 6) len) fun cs' => Tr.put .dead (.arr 6 cs') 64 h l fun h' => fV (.slc l off (Nat.sub len 1) false) fun v => .ok v h' n)
        | false => none
      | _ => none
    | _ => none
  | false => none
theorem delO_ok {f0 : FuncId} (hen : ∀ args w, (callFunc f0 args).run P w = .ok (.enter f0 args) w) (hdo : DelDoes P f0) : OrcOk P X (delO f0) := by
  intro f xs h n v h' n' hc E w us hv hr hfresh
  replace hc : (match delO f0 f xs h n with
    | some r => r
    | none => .bad (.s "")) = .ok v h' n' := hc
  split at hc
  · rename_i r hq
    subst hc
    unfold delO at hq
    split at hq
    · rename_i hf
      have hf := Nat.eq_of_beq_eq_true hf
      subst hf
      split at hq
      · rename_i l off len cl i j
        split at hq
        · rename_i wd cs hg
          split at hq
          · rename_i hcond
            simp only [Bool.and_eq_true, List.all_eq_true] at hcond
            obtain ⟨⟨⟨⟨⟨⟨c1, c2⟩, c3⟩, c4⟩, c5⟩, c6⟩, c7⟩ := hcond
            have c1 := Nat.eq_of_beq_eq_true c1
            have c2 := bltT.1 c2
            have c3 := Nat.le_of_ble_eq_true c3
            have c4 := eqI_iff.1 c4
            have c5 := eqI_iff.1 c5
            subst c1; subst c4; subst c5
            injection hq with hq
            rw [fVs_eq, Tr.put_eq, fV_eq] at hq
            injection hq with e1 e2 e3
            subst e1; subst e2; subst e3
            obtain ⟨u1, r1, q1, h1, hr1⟩ := hv.inv_cons
            obtain ⟨u2, r2, q2, h2, hr2⟩ := hr1.inv_cons
            obtain ⟨u3, r3, q3, h3, hr3⟩ := hr2.inv_cons
            have q4 := hr3.inv_nil
            subst q4; subst q3; subst q2
            cases h2; cases h3
            have inv : ∃ b sh wd' tot o cap, u1 = .slice (some ⟨b, o, none⟩) len cap ∧ E.io l = some (.at b sh wd' tot) ∧ o = sh + off * wd' ∧ off + cap ≤ tot ∧ len ≤ cap ∧ cap ≤ maxInt := by
              cases h1 with
              | slc l off len cl b sh wd tot o cap k1 k2 k3 k4 k5 k6 => exact ⟨b, sh, wd, tot, o, cap, rfl, k1, k2, k3, k4, k5⟩
              | void0 => exact absurd c2 (Nat.lt_irrefl 0)
              | zero => exact absurd c2 (Nat.lt_irrefl 0)
            obtain ⟨b, sh, wd', tot, o, cap, rfl, hio, ho, hcap, hlc, hmx⟩ := inv
            have hd : hp h l = .arr 6 cs := hg
            have hne : hp h l ≠ .dead := by rw [hd]; intro e; cases e
            obtain ⟨p, hp1, hp2⟩ := hr.blk l hne
            rw [hio] at hp1
            injection hp1 with hp1; subst hp1
            rw [hd] at hp2
            have hlt := hp2.lt (by intro e; cases e)
            obtain ⟨c, el, ⟨fz, hb, hfz⟩, hwd, hct, htm, hsz, hvs⟩ := hp2
            subst hwd
            -- the row, cut
            have hcl : c.toList = c.toList.take sh ++ (c.toList.drop sh).take cs.length ++ (c.toList.drop sh).drop cs.length := by
              rw [List.append_assoc, List.take_append_drop, List.take_append_drop]
            have hshl : (c.toList.take sh).length = sh := by simp; omega
            have hLl : ((c.toList.drop sh).take cs.length).length = cs.length := by simp; omega
            generalize hL : (c.toList.drop sh).take cs.length = L at hcl hLl hvs
            generalize hp' : c.toList.take sh = p at hcl hshl
            generalize hq' : (c.toList.drop sh).drop cs.length = q at hcl
            have hone : ∀ u ∈ (c.toList.drop (o + 6)).take ((len - 1) * 6), u.oneCell' = true := by
              intro u hu
              have e : (c.toList.drop (o + 6)).take ((len - 1) * 6) = (L.drop (off * 6 + 6)).take ((len - 1) * 6) := by
                rw [hcl, ho, ← hshl, List.append_assoc, Nat.add_assoc, List.drop_length_add_append, List.drop_append_of_le_length (by omega), List.take_append_of_le_length (by simp; omega)]
              rw [e] at hu
              have hvd := (hvs.drop (off * 6 + 6)).take ((len - 1) * 6)
              obtain ⟨k, hk⟩ := List.mem_iff_getElem?.1 hu
              have hkl : k < ((cs.drop (off * 6 + 6)).take ((len - 1) * 6)).length := by rw [hvd.1]; exact (List.getElem?_eq_some_iff.1 hk).1
              have hx := hvd.2 k _ u (List.getElem?_eq_getElem hkl) hk
              exact (vr_one hx (c7 _ (List.getElem_mem hkl))).1
            have hu : us = #[.slice (some ⟨b, o, none⟩) len cap, .int .i64 0, .int .i64 1] := Array.toList_inj.1 q1
            subst hu
            refine .inl ⟨fun w => hen _ w, (hdo b o cap len c el fz w hb hfz hone c2 hlc hmx (by omega)).mono ?_⟩
            rintro e w' ⟨he, hs1, hs2, hs3, s4, s5, s6⟩
            have hrow : delRow zl6 c.toList o len = p ++ delRow zl6 L (off * 6) len ++ q := by
              rw [hcl, ho, ← hshl]
              exact delRow_mid zl6 p L q (off * 6) len c2 (by omega)
            have hlen : (delRow zv6 cs (off * 6) len).length = cs.length := delRow_len _ _ _ _ rfl c2 (by omega)
            have hlenL : (delRow zl6 L (off * 6) len).length = L.length := delRow_len _ _ _ _ rfl c2 (by omega)
            have hclen : c.toList.length = p.length + L.length + q.length := by rw [hcl]; simp; omega
            have hB : CBR X E w' (.arr 6 (delRow zv6 cs (off * 6) len)) (.at b sh 6 tot) := by
              refine ⟨_, el, ⟨fz, hs3, ?_⟩, rfl, by omega, htm, ?_, ?_⟩
              · have : (delRow zl6 c.toList o len).toArray.size = c.size := by
                  rw [List.size_toArray, hrow]
                  simp only [List.length_append, hlenL]
                  simp at hclen
                  omega
                rw [this]; exact hfz
              · rw [List.size_toArray, hrow]
                simp only [List.length_append, hlenL]
                simp at hclen
                omega
              · have : ((delRow zl6 c.toList o len).toArray.toList.drop sh).take (delRow zv6 cs (off * 6) len).length = delRow zl6 L (off * 6) len := by
                  rw [List.toList_toArray, hrow, hlen, List.append_assoc, ← hshl, List.drop_left, List.take_append_of_le_length (by omega), List.take_of_length_le (by omega)]
                rw [this]
                exact delRow_vr hvs (off * 6) len
            obtain ⟨m1, m2⟩ := hr.write hio hne hs1 hs2 hB s4 s5 s6
            have hfun : (fun m => if m = l then CB.arr 6 (delRow zv6 cs (off * 6) len) else hp h m) = hp (Tr.ins .dead (.arr 6 (delRow zv6 cs (off * 6) len)) 64 h l) := (hp_ins h l _ c6).symm
            rw [hfun] at m1 m2
            refine ⟨_, E, he, .slc l off _ false b sh 6 tot o cap hio ho hcap (by have : Nat.sub len 1 = len - 1 := rfl; omega) hmx (fun e => by cases e), m1, fun m hm => ⟨(hfresh m hm).1, ?_⟩, m2.mono fun _ _ => trivial, Nat.le_refl _⟩
            rw [← hfun]
            show (if m = l then _ else _) = _
            rw [if_neg (fun e => by subst e; exact hne (hfresh m hm).2)]
            exact (hfresh m hm).2
          · cases hq
        · cases hq
      · cases hq
    · cases hq
  · cases hc
end Ev
