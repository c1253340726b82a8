/- The concrete run: code, deferred calls, functions hold of the model. -/
import Derived.Test.YtadmjjogmbhkaaaGreatDoorCe6
namespace Ev
open Go
variable {P : Program} {X : Ctx S0} {nt : Nat} {call : FuncId → List V → Tr CB → Nat → Cr}

/-- CODE -/
theorem exF_sound (G : Good P X) (C : GoodC P X) (hm : P.follows .mixedOrders = true) (hcall : CallOk P X call) (hnt : nt < 4294967296) (fu : Nat) : ∀ (c : Code) (fr : Tr V) (h : Tr CB) (n : Nat) (ds : DS) (E : Env) (a : Act) (w : World) {x fr' h' n' ds'},
    (exF X call nt fu c).run fr h n ds = .ok x fr' h' n' ds' → St X nt E fr h n ds a w → c.wp P (Post0 X nt E h n w x fr' h' n' ds') a w := by
  have here : ∀ {fr : Tr V} {h : Tr CB} {n : Nat} {ds : DS} {E : Env} {a : Act} {w : World} {x fr' h' n' ds' y}, St X nt E fr h n ds a w → Ro.ok y fr h n ds = .ok x fr' h' n' ds' → Post0 X nt E h n w x fr' h' n' ds' (exOf y) a w := by
    intro fr h n ds E a w x fr' h' n' ds' y hs hy
    injection hy with c1 c2 c3 c4 c5; subst c1; subst c2; subst c3; subst c4; subst c5
    exact ⟨rfl, Nat.le_refl _, E, hs, CX.refl _ _ _ _⟩
  have then2 : ∀ {h : Tr CB} {n : Nat} {E : Env} {w : World} {y fr1 h1 n1 ds1 e a' w'}, Post0 X nt E h n w y fr1 h1 n1 ds1 e a' w' → ∃ E1, St X nt E1 fr1 h1 n1 ds1 a' w' ∧ e = exOf y ∧ ∀ {z fr2 h2 n2 ds2 e2 a2 w2}, Post0 X nt E1 h1 n1 w' z fr2 h2 n2 ds2 e2 a2 w2 → Post0 X nt E h n w z fr2 h2 n2 ds2 e2 a2 w2 := by
    rintro h n E w y fr1 h1 n1 ds1 e a' w' ⟨p1, p2, E1, p3, p4⟩
    refine ⟨E1, p3, p1, ?_⟩
    rintro z fr2 h2 n2 ds2 e2 a2 w2 ⟨q1, q2, E2, q3, q4⟩
    exact ⟨q1, by omega, E2, q3, CX.below p4 q4 p2⟩
  intro c
  induction c with
  | skip => intro fr h n ds E a w x fr' h' n' ds' hc hs; exact wp_skip (here (y := .nrm) hs hc)
  | label id => intro fr h n ds E a w x fr' h' n' ds' hc hs; exact wp_label (here (y := .nrm) hs hc)
  | exit id => intro fr h n ds E a w x fr' h' n' ds' hc hs; exact wp_exit (here (y := .ext id) hs hc)
  | ret => intro fr h n ds E a w x fr' h' n' ds' hc hs; exact wp_ret (here (y := .ret) hs hc)
  | region id ops draw =>
    intro fr h n ds E a w x fr' h' n' ds' hc hs
    refine regC_sound G C hm hcall hnt ?_ hs
    cases draw with
    | false =>
      have hc' : (opsF X call nt ops.toList ops.toList).run fr h n ds = .ok x fr' h' n' ds' := hc
      rw [opsF_eq] at hc'; exact hc'
    | true => exact hc
  | seq c1 c2 ih1 ih2 =>
    intro fr h n ds E a w x fr' h' n' ds' hc hs
    replace hc : (match (exF X call nt fu c1).run fr h n ds with
      | .ok .nrm fr h n ds => (exF X call nt fu c2).run fr h n ds
      | r => r) = .ok x fr' h' n' ds' := hc
    split at hc
    · rename_i fr1 h1 n1 ds1 h1c
      refine wp_seq (wp_mono (ih1 fr h n ds E a w h1c hs) fun e a' w' q => ?_)
      obtain ⟨E1, s1, e1, comp⟩ := then2 q
      subst e1
      show c2.wp P _ a' w'
      exact wp_mono (ih2 fr1 h1 n1 ds1 E1 a' w' hc s1) fun e a2 w2 q2 => comp q2
    · rename_i r hr
      refine wp_seq (wp_mono (ih1 fr h n ds E a w hc hs) fun e a' w' q => ?_)
      obtain ⟨E1, s1, e1, comp⟩ := then2 q
      subst e1
      cases x with
      | nrm => exact absurd hc (hr _ _ _ _)
      | ext id => exact q
      | ret => exact q
  | cond x0 c1 c2 ih1 ih2 =>
    intro fr h n ds E a w x fr' h' n' ds' hc hs
    replace hc : (match oB (copd fr x0) with
      | some true => (exF X call nt fu c1).run fr h n ds
      | some false => (exF X call nt fu c2).run fr h n ds
      | none => .bad "cond") = .ok x fr' h' n' ds' := hc
    have hv : VR X E (copd fr x0) (a.eval x0) := by rw [← opd_fn]; exact vr_opd hs.fr x0
    split at hc
    · rename_i hb
      have hb := oB_spec hb
      have e := vr_isB hv hb.1
      rw [hb.2] at e
      exact wp_cond_true e (ih1 fr h n ds E a w hc hs)
    · rename_i hb
      have hb := oB_spec hb
      have e := vr_isB hv hb.1
      rw [hb.2] at e
      exact wp_cond_false e (ih2 fr h n ds E a w hc hs)
    · cases hc
  | block id c1 ih =>
    intro fr h n ds E a w x fr' h' n' ds' hc hs
    replace hc : (match (exF X call nt fu c1).run fr h n ds with
      | .ok (.ext j) fr h n ds => match Nat.beq j id with
        | true => Ro.ok .nrm fr h n ds
        | false => Ro.ok (.ext j) fr h n ds
      | r => r) = Ro.ok x fr' h' n' ds' := hc
    split at hc
    · rename_i j fr1 h1 n1 ds1 h1c
      refine wp_block (wp_mono (ih fr h n ds E a w h1c hs) fun e a' w' q => ?_)
      obtain ⟨p1, p2, E1, p3, p4⟩ := q
      subst p1
      split at hc
      · rename_i hj
        have hj := Nat.eq_of_beq_eq_true hj; subst hj
        injection hc with c1 c2 c3 c4 c5; subst c1; subst c2; subst c3; subst c4; subst c5
        have : Post0 X nt E h n w .nrm fr1 h1 n1 ds1 .normal a' w' := ⟨rfl, p2, E1, p3, p4⟩
        simpa [exOf, Exit.inBlock] using this
      · rename_i hj
        have hj : j ≠ id := fun e => by subst e; rw [Nat.beq_refl] at hj; cases hj
        injection hc with c1 c2 c3 c4 c5; subst c1; subst c2; subst c3; subst c4; subst c5
        have : Post0 X nt E h n w (.ext j) fr1 h1 n1 ds1 (.exit j) a' w' := ⟨rfl, p2, E1, p3, p4⟩
        simpa [exOf, Exit.inBlock, hj] using this
    · rename_i r hr
      refine wp_block (wp_mono (ih fr h n ds E a w hc hs) fun e a' w' q => ?_)
      obtain ⟨p1, p2, E1, p3, p4⟩ := q
      subst p1
      cases x with
      | nrm => exact ⟨rfl, p2, E1, p3, p4⟩
      | ext j => exact absurd hc (hr _ _ _ _ _)
      | ret => exact ⟨rfl, p2, E1, p3, p4⟩
  | loop c1 ih =>
    intro fr h n ds E a w x fr' h' n' ds' hc hs
    refine wp_loop_ghost (fun k a' w' => ∃ fr1 h1 n1 ds1 E1, loopF (exF X call nt fu c1) k fr1 h1 n1 ds1 = .ok x fr' h' n' ds' ∧ St X nt E1 fr1 h1 n1 ds1 a' w' ∧ n ≤ n1 ∧ CX (· < n) E (hp h) w E1 (hp h1) w') fu
      ⟨fr, h, n, ds, E, hc, hs, Nat.le_refl _, CX.refl _ _ _ _⟩ ?_
    rintro k a1 w1 ⟨fr1, h1, n1, ds1, E1, hc1, s1, hn1, hx1⟩
    cases k with
    | zero => cases hc1
    | succ k =>
    replace hc1 : (match (exF X call nt fu c1).run fr1 h1 n1 ds1 with
      | .ok .nrm fr h n ds => loopF (exF X call nt fu c1) k fr h n ds
      | r => r) = .ok x fr' h' n' ds' := hc1
    split at hc1
    · rename_i fr2 h2 n2 ds2 h2c
      refine wp_mono (ih fr1 h1 n1 ds1 E1 a1 w1 h2c s1) fun e a2 w2 q => ?_
      obtain ⟨p1, p2, E2, p3, p4⟩ := q
      subst p1
      exact ⟨k, Nat.lt_succ_self k, fr2, h2, n2, ds2, E2, hc1, p3, by omega, CX.below hx1 p4 hn1⟩
    · rename_i r hr
      refine wp_mono (ih fr1 h1 n1 ds1 E1 a1 w1 hc1 s1) fun e a2 w2 q => ?_
      obtain ⟨p1, p2, E2, p3, p4⟩ := q
      subst p1
      cases x with
      | nrm => exact absurd hc1 (hr _ _ _ _)
      | ext j => exact ⟨rfl, by omega, E2, p3, CX.below hx1 p4 hn1⟩
      | ret => exact ⟨rfl, by omega, E2, p3, CX.below hx1 p4 hn1⟩
  | _ => intro fr h n ds E a w x fr' h' n' ds' hc hs; cases hc

/-- what is handed back -/
theorem resC_sound (G : Good P X) {E : Env} {fr : Tr V} {h : Tr CB} {a : Act} {w : World} (hf : FR X E (fn fr) a) (hr : CH X E (hp h) w) {f : Func} {vs : List V} (hc : resC X fr h f.results.toList = some vs) :
    ∃ u, (results f a.tmps).run P w = .ok u w ∧ VR X E (tupled vs) u := by
  have key : ∀ (rs : List ResultVar) (vs : List V), resC X fr h rs = some vs → ∃ us, (rs.mapM fun (r : ResultVar) => (match r with | .tmp t => pure (a.tmps.getD t undef) | .cell c t => do loadVar t (← asAddr (a.tmps.getD c undef)) : Sem Value)).run P w = (.ok us w : Result (List Value)) ∧ VRs X E vs us := by
    intro rs
    induction rs with
    | nil => intro vs h; injection h with h; subst h; exact ⟨[], rfl, VRs.nil⟩
    | cons r rs ih =>
      intro vs h
      cases r with
      | tmp t =>
        unfold resC at h
        split at h
        · rename_i vs' hv
          injection h with h; subst h
          obtain ⟨us, h1, h2⟩ := ih vs' hv
          exact ⟨a.tmps.getD t undef :: us, by simp only [List.mapM_cons, Sem.run_bind, Sem.run_pure, Result.andThen_ok, h1], VRs.cons (hf t) h2⟩
        · cases h
      | cell b t =>
        unfold resC at h
        split at h
        · rename_i v hv
          split at h
          · rename_i vs' hvs
            injection h with h; subst h
            obtain ⟨us, h1, h2⟩ := ih vs' hvs
            have hb := hf b
            obtain ⟨u, hu, hvu⟩ := cload_sound (P := P) G hr hv hb
            have hptr : ∃ ad, a.tmps.getD b undef = .pointer (some ad) := by
              have e : fn fr b = fr.get .top b := rfl
              unfold cload at hv
              split at hv
              · rename_i l row sb hfb
                rw [e, hfb] at hb
                generalize a.tmps.getD b undef = u at hb ⊢
                cases hb; exact ⟨_, rfl⟩
              · cases hv
            obtain ⟨ad, had⟩ := hptr
            rw [had] at hu
            refine ⟨u :: us, ?_, VRs.cons hvu h2⟩
            simp only [Instr.loadAt, Instr.sureAddr, Sem.run_bind, Sem.run_pure, Result.andThen_ok] at hu
            have e2 : (asAddr (a.tmps.getD b undef)).run P w = .ok ad w := by rw [had]; rfl
            simp only [List.mapM_cons, Sem.run_bind, e2, Sem.run_pure, Result.andThen_ok, hu, h1]
          · cases h
        · cases h
  obtain ⟨us', h1, h2⟩ := key _ _ hc
  have hmm := array_mapM_run _ f.results us' h1
  have hl' := h2.1
  have key : (results f a.tmps).run P w = .ok (if h : us'.toArray.size = 1 then us'.toArray[0] else .tuple us'.toArray) w := by
    unfold results
    rw [Sem.run_bind]
    exact congrArg (fun r => Result.andThen r fun (vs : Array Value) w => Sem.run P (pure (if h : vs.size = 1 then vs[0] else .tuple vs)) w) hmm
  rw [key]
  by_cases hone : vs.length = 1
  · obtain ⟨v, rfl⟩ : ∃ v, vs = [v] := by
      match vs, hone with
      | [v], _ => exact ⟨v, rfl⟩
    obtain ⟨u, us'', rfl, hvu, hn⟩ := h2.inv_cons
    have := hn.inv_nil; subst this
    exact ⟨u, by simp, hvu⟩
  · refine ⟨.tuple us'.toArray, ?_, ?_⟩
    · have : ¬ us'.length = 1 := by omega
      simp [this]
    · have : tupled vs = .tup vs := by
        match vs, hone with
        | [], _ => rfl
        | _ :: _ :: _, _ => rfl
      rw [this]
      exact vr_tup_mk (by simpa using h2)

/-- the frame in which a body begins -/
theorem frm_eq : ∀ (as : List V) (i : Nat) (fr : Tr V), i + as.length ≤ 4294967296 → ∃ fr', (∀ (R : Type) (K : Tr V → R), frm as i fr K = K fr') ∧ ∀ t, fr'.get .top t = if i ≤ t ∧ t < i + as.length then as.getD (t - i) .top else fr.get .top t
  | [], i, fr, _ => ⟨fr, fun _ _ => rfl, fun t => by rw [if_neg (fun h => absurd h.2 (by simp only [List.length_nil]; have := h.1; omega))]⟩
  | v :: r, i, fr, hl => by
    simp only [List.length_cons] at hl
    obtain ⟨fr', h1, h2⟩ := frm_eq r (Nat.succ i) (Tr.ins .top v 64 fr i) (by simp only [Nat.succ_eq_add_one]; omega)
    refine ⟨fr', ?_, fun t => ?_⟩
    · intro R K
      show Tr.put .top v 64 fr i (fun fr => frm r (Nat.succ i) fr K) = _
      rw [Tr.put_eq]; exact h1 R K
    · rw [h2, Tr.get_ins .top v 64 fr i (by omega)]
      simp only [Nat.succ_eq_add_one, List.length_cons]
      by_cases e : t = i
      · subst e
        rw [if_neg (by omega), if_pos rfl, if_pos (by omega), Nat.sub_self]; rfl
      · by_cases e2 : i + 1 ≤ t ∧ t < i + 1 + r.length
        · rw [if_pos e2, if_pos (by omega), show t - i = (t - (i + 1)) + 1 by omega]; rfl
        · rw [if_neg e2, if_neg e, if_neg (by omega)]
theorem frm_fr {E : Env} {as : List V} {us : Array Value} (hv : VRs X E as us.toList) (n : Nat) {fr' : Tr V} (h2 : ∀ t, fr'.get .top t = if 0 ≤ t ∧ t < 0 + as.length then as.getD (t - 0) .top else (Tr.lf : Tr V).get .top t) :
    FR X E (fn fr') { tmps := us ++ Array.replicate (n - us.size) undef, defers := [] } := by
  have hl : as.length = us.size := by simpa using hv.1
  intro t
  have e : fn fr' t = fr'.get .top t := rfl
  rw [e, h2]
  by_cases ht : t < as.length
  · rw [if_pos (by omega), Nat.sub_zero]
    have ha : as[t]? = some as[t] := List.getElem?_eq_getElem ht
    have hu : us.toList[t]? = some us[t] := by simp [show t < us.size by omega]
    have := hv.2 t _ _ ha hu
    rw [List.getD_eq_getElem?_getD, ha]
    have e2 : (us ++ Array.replicate (n - us.size) undef).getD t undef = us[t] := by
      simp only [Array.getD_eq_getD_getElem?]
      rw [Array.getElem?_append_left (by omega)]
      simp [show t < us.size by omega]
    simp only [e2]
    exact this
  · rw [if_neg (by omega)]
    exact .top _

theorem recoverD_returning {c₀ : Frame} {cs : List Frame} (h : c₀.mode = .returning) : recoverD (c₀ :: cs) = none := by
  simp [recoverD, h]

/-- a deferred call that finds no panic -/
theorem opsD_sound (G : Good P X) (C : GoodC P X) (hnt : nt < 4294967296) {E : Env} {h : Tr CB} {w : World} {cs : List Frame} (hr : CH X E (hp h) w) (hcs : recoverD cs = none) {all : List Oper} {Q : Exit → Act → List Frame → World → Prop} :
    ∀ (r : List Oper) (k : Nat) (fr : Tr V) (a : Act) {K : Tr V → Option (Ex × Tr V)} {x : Ex} {fr' : Tr V}, (∀ j, r[j]? = all[k + j]?) → opsD X nt all r fr h K = some (x, fr') → FR X E (fn fr) a → a.tmps.size = nt →
      (∀ fr1 a1, K fr1 = some (x, fr') → FR X E (fn fr1) a1 → a1.tmps.size = nt → a1.defers = a.defers → Q .normal a1 cs w) → wpOpsS P all.toArray Q (List.range' k r.length) a cs w
  | [], k, fr, a, K, x, fr', _, hc, hf, hs, hQ => hQ fr a hc hf hs rfl
  | o :: r, k, fr, a, K, x, fr', hj, hc, hf, hs, hQ => by
    have ho : all.toArray[k]? = some o := by have := hj 0; simpa using this.symm
    have hj' : ∀ j, r[j]? = all[k + 1 + j]? := fun j => by have := hj (j + 1); rw [show k + 1 + j = k + (j + 1) by omega, ← this]; simp
    have land : ∀ {v : V} {u : Value} {K' : Tr V → Option (Ex × Tr V)}, VR X E v u → landK nt o.dst v fr K' none = some (x, fr') → ∃ fr1, K' fr1 = some (x, fr') ∧ FR X E (fn fr1) (a.put o.dst u) ∧ (a.put o.dst u).tmps.size = nt ∧ (a.put o.dst u).defers = a.defers := by
      intro v u K' hv hk
      unfold landK at hk
      generalize o.dst = dd at hk ⊢
      cases dd with
      | some d =>
        simp only at hk
        split at hk
        · rename_i hb
          have hlt := bltT.1 hb
          rw [Tr.put_eq] at hk
          refine ⟨_, hk, ?_, by simp [Act.put, hs], by simp [Act.put]⟩
          rw [fn_ins fr d v (bltT.2 (by omega))]
          exact hf.put (by rw [hs]; exact hlt) hv
        · cases hk
      | none => exact ⟨fr, hk, hf, hs, rfl⟩
    show wpOpsS P all.toArray Q (List.range' k (r.length + 1)) a cs w
    rw [List.range'_succ]
    unfold opsD at hc
    simp only [wpOpsS, ho]
    split at hc
    · rename_i hg
      rw [if_pos (gd_sound hg hf)]
      split at hc
      · rename_i hrec
        obtain ⟨fr1, k1, k2, k3, k4⟩ := land (u := .nilIface) .nili hc
        have hrun : (execOp a.eval o).run P w = .ok .recover w := by
          cases hop : o.op with
          | call c =>
            obtain ⟨callee, args, ats⟩ := c
            cases callee with
            | builtin b =>
              cases b <;> simp [isRecover, hop] at hrec
              simp [execOp, hop, resolve, invoke, builtin]
            | _ => simp [isRecover, hop] at hrec
          | _ => simp [isRecover, hop] at hrec
        rw [hrun]
        simp only [hcs]
        exact opsD_sound G C hnt hr hcs r (k + 1) fr1 _ hj' k1 k2 k3 fun fr2 a2 q1 q2 q3 q4 => hQ fr2 a2 q1 q2 q3 (q4.trans k4)
      · split at hc
        · rename_i v hv
          rw [fV_eq] at hc
          obtain ⟨u, hrun, hvu⟩ := cq_sound G C hv hf hr
          obtain ⟨fr1, k1, k2, k3, k4⟩ := land hvu hc
          rw [hrun]
          simp only [Oper.upon]
          exact opsD_sound G C hnt hr hcs r (k + 1) fr1 _ hj' k1 k2 k3 fun fr2 a2 q1 q2 q3 q4 => hQ fr2 a2 q1 q2 q3 (q4.trans k4)
        · cases hc
    · rename_i hg
      rw [if_neg (by rw [gd_sound hg hf]; simp)]
      obtain ⟨fr1, k1, k2, k3, k4⟩ := land (u := undef) (vr_tup_mk (ds := #[]) VRs.nil) hc
      exact opsD_sound G C hnt hr hcs r (k + 1) fr1 _ hj' k1 k2 k3 fun fr2 a2 q1 q2 q3 q4 => hQ fr2 a2 q1 q2 q3 (q4.trans k4)
    · cases hc
theorem execD_sound (G : Good P X) (C : GoodC P X) (hnt : nt < 4294967296) {E : Env} {h : Tr CB} {w : World} {cs : List Frame} (hr : CH X E (hp h) w) (hcs : recoverD cs = none) :
    ∀ (f : Nat) (c : Code) (fr : Tr V) (a : Act) {x : Ex} {fr' : Tr V}, execD X nt f c fr h = some (x, fr') → FR X E (fn fr) a → a.tmps.size = nt →
      c.wpS P (fun e a' cs' w' => e = exOf x ∧ cs' = cs ∧ w' = w ∧ FR X E (fn fr') a' ∧ a'.tmps.size = nt ∧ a'.defers = a.defers) a cs w
  | 0, c, fr, a, x, fr', hc, _, _ => by unfold execD at hc; cases hc
  | f + 1, c, fr, a, x, fr', hc, hf, hs => by
    unfold execD at hc
    split at hc
    · injection hc with hc; injection hc with h1 h2; subst h1; subst h2
      exact wpS_of_wp (wp_skip ⟨rfl, rfl, rfl, hf, hs, rfl⟩)
    · rename_i id ops draw
      split at hc
      · refine wpS_region ?_
        have := opsD_sound (Q := fun e a' cs' w' => e = exOf x ∧ cs' = cs ∧ w' = w ∧ FR X E (fn fr') a' ∧ a'.tmps.size = nt ∧ a'.defers = a.defers) G C hnt hr hcs ops.toList 0 fr a (fun j => by simp) hc hf hs fun fr1 a1 q1 q2 q3 q4 => by
          injection q1 with q1; injection q1 with q1 q5; subst q1; subst q5
          exact ⟨rfl, rfl, rfl, q2, q3, q4⟩
        rw [List.range_eq_range']
        simpa using this
      · cases hc
    · rename_i c1 c2
      split at hc
      · rename_i fr1 h1
        refine wpS_seq (wpS_mono (execD_sound G C hnt hr hcs f c1 fr a h1 hf hs) ?_)
        rintro e a1 cs1 w1 ⟨rfl, rfl, rfl, q1, q2, q3⟩
        show c2.wpS P _ a1 cs1 w1
        refine wpS_mono (execD_sound G C hnt hr hcs f c2 fr1 a1 hc q1 q2) ?_
        rintro e a2 cs2 w2 ⟨rfl, rfl, rfl, r1, r2, r3⟩
        exact ⟨rfl, rfl, rfl, r1, r2, r3.trans q3⟩
      · rename_i hr'
        refine wpS_seq (wpS_mono (execD_sound G C hnt hr hcs f c1 fr a hc hf hs) ?_)
        rintro e a1 cs1 w1 ⟨rfl, q⟩
        cases x with
        | nrm => exact absurd hc (hr' _)
        | ext id => exact ⟨rfl, q⟩
        | ret => exact ⟨rfl, q⟩
    · rename_i x0 c1 c2
      have hv : VR X E (copd fr x0) (a.eval x0) := by rw [← opd_fn]; exact vr_opd hf x0
      split at hc
      · rename_i hb
        have hb := oB_spec hb
        have e := vr_isB hv hb.1
        rw [hb.2] at e
        exact wpS_cond e (execD_sound G C hnt hr hcs f c1 fr a hc hf hs)
      · rename_i hb
        have hb := oB_spec hb
        have e := vr_isB hv hb.1
        rw [hb.2] at e
        exact wpS_cond e (execD_sound G C hnt hr hcs f c2 fr a hc hf hs)
      · cases hc
    · injection hc with hc; injection hc with h1 h2; subst h1; subst h2
      exact wpS_of_wp (wp_ret ⟨rfl, rfl, rfl, hf, hs, rfl⟩)
    · cases hc
where
  wpS_mono {P : Program} {c : Code} {Q Q' : Exit → Act → List Frame → World → Prop} {a : Act} {cs : List Frame} {w : World} (h : c.wpS P Q a cs w) (hq : ∀ e a cs w, Q e a cs w → Q' e a cs w) : c.wpS P Q' a cs w :=
    fun b k hb hr => let ⟨e, a', cs', w', q, r⟩ := h b k hb hr; ⟨e, a', cs', w', hq _ _ _ _ q, r⟩

theorem callFunc_enter {f : FuncId} {fn : Func} {c : Code} (hf : P.funcs[f]? = some fn) (hb : fn.body = some c) (hname : (fn.name == "runtime.NumGoroutine") = false) (us : Array Value) (w : World) : (callFunc f us).run P w = .ok (.enter f us) w := by
  have hp : (program).run P w = .ok P w := rfl
  simp only [callFunc, Sem.run_bind, hp, Result.andThen_ok, hf, hname, hb, Option.isNone_some, Bool.false_eq_true, if_false, Sem.run_pure]

theorem dfr_sound (G : Good P X) (C : GoodC P X) {fn0 : Func} {tmps : Array Value} {R : Ending → World → Prop} {E : Env} {h : Tr CB} {w : World} (hr : CH X E (hp h) w) (hR : ∃ v, (results fn0 tmps).run P w = .ok v w ∧ R (.returned v) w) :
    ∀ (ds : DS) (es : List Deferred), dfr X P ds h = true → DR X E ds es → Leaves P fn0 tmps R es .returning w
  | [], [], _, _ => hR
  | [], _ :: _, _, hd => hd.elim
  | _ :: _, [], _, hd => hd.elim
  | (f, as) :: r, d :: ds, hc, hd => by
    obtain ⟨⟨caps, ht, hv⟩, hd'⟩ := hd
    unfold dfr at hc
    split at hc
    · cases hc
    · rename_i f0 hf
      split at hc
      · cases hc
      · rename_i c hb
        split at hc
        · cases hc
        · rename_i hcond
          simp only [Bool.and_eq_true, Bool.not_eq_true'] at hcond
          obtain ⟨⟨c1, c2⟩, c3⟩ := hcond
          have c1 := Nat.le_of_ble_eq_true c1
          have c2 := bltT.1 c2
          obtain ⟨fr', q1, q2⟩ := frm_eq as 0 .lf (by omega)
          rw [q1] at hc
          have hl : as.length = (d.args ++ caps).size := by simpa using hv.1
          have hfr := frm_fr hv f0.ntmps q2
          have hsz : ((d.args ++ caps) ++ Array.replicate (f0.ntmps - (d.args ++ caps).size) undef).size = f0.ntmps := by rw [Array.size_append, Array.size_replicate]; omega
          obtain ⟨targ, dargs⟩ := d
          simp only at ht hv hl hfr hsz
          subst ht
          refine leaves_cons (by simp) (by simp only [invoke]; exact callFunc_enter hf hb c3 _ w) (callsD_of_wpS hf hb fun c₀ cs hmode => ?_)
          have fin : ∀ {x : Ex} {fr2 : Tr V}, execD X f0.ntmps 1000 c fr' h = some (x, fr2) → (x = .nrm ∨ x = .ret) → (∃ vs, resC X fr2 h f0.results.toList = some vs) → dfr X P r h = true →
              c.wpS P (bodyPostS P f0 c₀ cs fun | .returned _, u', w' => Leaves P fn0 tmps R ds (settle u') w' | .panicked chain, u', w' => Leaves P fn0 tmps R ds (raised u' chain) w' | .outgrown, _, w' => R .outgrown w') { tmps := (dargs ++ caps) ++ Array.replicate (f0.ntmps - (dargs ++ caps).size) undef, defers := [] } (c₀ :: cs) w := by
            intro x fr2 hx hcase ⟨vs, hvs⟩ hrest
            refine execD_sound.wpS_mono (execD_sound (x := x) G C c2 hr (recoverD_returning hmode) 1000 c fr' _ hx hfr hsz) ?_
            rintro e a' cs' w' ⟨rfl, rfl, rfl, r1, r2, r3⟩
            obtain ⟨u, hu, _⟩ := resC_sound (P := P) G r1 hr hvs
            have hbase : a'.defers = [] ∧ ∃ u', c₀ :: cs = { c₀ with mode := u' } :: cs ∧ ∃ v, (results f0 a'.tmps).run P w' = .ok v w' ∧ Leaves P fn0 tmps R ds (settle u') w' := by
              refine ⟨r3, .returning, ?_, u, hu, dfr_sound G C hr hR r ds hrest hd'⟩
              have : ({ c₀ with mode := .returning } : Frame) = c₀ := by rw [← hmode]
              rw [this]
            rcases hcase with rfl | rfl
            · exact hbase
            · exact hbase
          split at hc
          · rename_i fr2 hx
            split at hc
            · rename_i vs hvs
              exact fin hx (.inl rfl) ⟨vs, hvs⟩ hc
            · cases hc
          · rename_i fr2 hx
            split at hc
            · rename_i vs hvs
              exact fin hx (.inr rfl) ⟨vs, hvs⟩ hc
            · cases hc
          · cases hc

/-- functions whose answer is known -/
def OrcOk (P : Program) (X : Ctx S0) (orc : FuncId → List V → Tr CB → Nat → Option Cr) : Prop :=
  CallOk P X fun f as h n => match orc f as h n with
    | some r => r
    | none => .bad (.s "")
theorem CH.later {E : Env} {g : Nat → CB} {w w' : World} (hr : CH X E g w) (hsize : w.heap.size ≤ w'.heap.size) (hold : ∀ b, b < w.heap.size → w'.heap[b]? = w.heap[b]?) : CH X E g w' :=
  ⟨hr.im, hr.nv, fun l hl => by
    obtain ⟨p, hp, hb⟩ := hr.blk l hl
    exact ⟨p, hp, hb.mono hr.im (fun _ _ h => h) fun bb sh wd tot hd he => hold bb (by subst he; exact hb.lt hd)⟩, hr.inj⟩
/-- functions that leave what was there -/
def OrcV (P : Program) (X : Ctx S0) (o : FuncId → List V → Tr CB → Option V) : Prop :=
  ∀ f as h v, o f as h = some v → ∀ (E : Env) (w : World) (us : Array Value), VRs X E as us.toList → CH X E (hp h) w →
    (∀ w, (callFunc f us).run P w = .ok (.enter f us) w) ∧ Calls P f us w fun e w' => ∃ u, e = .returned u ∧ VR X E v u ∧ w.heap.size ≤ w'.heap.size ∧ (∀ b, b < w.heap.size → w'.heap[b]? = w.heap[b]?) ∧ w'.os = w.os ∧ w'.tape = w.tape ∧ w'.output = w.output
noncomputable def pureO (o : FuncId → List V → Tr CB → Option V) : FuncId → List V → Tr CB → Nat → Option Cr := fun f as h n => match o f as h with
  | some v => some (fV v fun v => .ok v h n)
  | none => none
theorem pureO_ok {o : FuncId → List V → Tr CB → Option V} (ho : OrcV P X o) : OrcOk P X (pureO o) := by
  intro f as h n v h' n' hc E w us hv hr hfresh
  unfold pureO at hc
  cases hq : o f as h with
  | none => simp only [hq] at hc; cases hc
  | some v0 =>
    simp only [hq, fV_eq] at hc
    injection hc with e1 e2 e3; subst e1; subst e2; subst e3
    left
    obtain ⟨h1, h2⟩ := ho f as h v0 hq E w us hv hr
    refine ⟨h1, h2.mono ?_⟩
    rintro e w' ⟨u, he, hvu, q1, q2, q3, q4, q5⟩
    exact ⟨u, E, he, hvu, hr.later q1 q2, hfresh, ⟨fun _ _ h => h, fun _ _ h => h, fun _ _ h => h, fun _ h => .inl h, q1, fun b hb _ => q2 b hb, q3, q4, q5⟩, Nat.le_refl _⟩
/-- one behind the other -/
noncomputable def elseO (o1 o2 : FuncId → List V → Tr CB → Nat → Option Cr) : FuncId → List V → Tr CB → Nat → Option Cr := fun f as h n => match o1 f as h n with
  | some r => some r
  | none => o2 f as h n
theorem elseO_ok {o1 o2 : FuncId → List V → Tr CB → Nat → Option Cr} (h1 : OrcOk P X o1) (h2 : OrcOk P X o2) : OrcOk P X (elseO o1 o2) := by
  intro f as h n v h' n' hc
  unfold elseO at hc
  cases hq : o1 f as h n with
  | none => simp only [hq] at hc; exact h2 f as h n v h' n' hc
  | some r => simp only [hq] at hc; subst hc; exact h1 f as h n v h' n' (by simp only [hq])
/-- FUNCTIONS -/
theorem runF_sound (G : Good P X) (C : GoodC P X) (hm : P.follows .mixedOrders = true) {xt : FuncId → List V → Option V} {orc : FuncId → List V → Tr CB → Nat → Option Cr} {fuel : Nat} (horc : OrcOk P X orc)
    (hxt : ∀ f as v, xt f as = some v → ∀ (E : Env) (w : World) (us : Array Value), VRs X E as us.toList → ∃ u, (callFunc f us).run P w = .ok (.value u) w ∧ VR X E v u) : ∀ d, CallOk P X (runF X P xt orc fuel d)
  | 0 => fun f as h n v h' n' hc => by unfold runF at hc; cases hc
  | d + 1 => by
    have ih := runF_sound G C hm (fuel := fuel) horc hxt d
    intro f as h n v h' n' hc E w us hv hr hfresh
    unfold runF at hc
    split at hc
    · cases hc
    · rename_i f0 hf
      split at hc
      · rename_i hb
        split at hc
        · rename_i v0 hx
          rw [fV_eq] at hc
          injection hc with e1 e2 e3; subst e1; subst e2; subst e3
          obtain ⟨u, h1, h2⟩ := hxt f as v0 hx E w us hv
          exact .inr ⟨u, h1, h2, rfl, rfl⟩
        · cases hc
      · rename_i c hb
        split at hc
        · rename_i r ho
          exact horc f as h n v h' n' (by simp only [ho]; exact hc) E w us hv hr hfresh
        split at hc
        · cases hc
        · rename_i hcond
          simp only [Bool.and_eq_true, Bool.not_eq_true'] at hcond
          obtain ⟨⟨c1, c2⟩, c3⟩ := hcond
          have c1 := Nat.le_of_ble_eq_true c1
          have c2 := bltT.1 c2
          left
          refine ⟨fun w => callFunc_enter hf hb c3 us w, ?_⟩
          obtain ⟨fr', q1, q2⟩ := frm_eq as 0 .lf (by omega)
          rw [q1] at hc
          have hl : as.length = us.size := by simpa using hv.1
          have hsz : (us ++ Array.replicate (f0.ntmps - us.size) undef).size = f0.ntmps := by rw [Array.size_append, Array.size_replicate]; omega
          have hst : St X f0.ntmps E fr' h n [] { tmps := us ++ Array.replicate (f0.ntmps - us.size) undef, defers := [] } w := ⟨frm_fr hv f0.ntmps q2, hr, hfresh, hsz, trivial⟩
          refine calls_of_wp_defers hf hb ?_
          have fin : ∀ {x : Ex} {fr2 : Tr V} {h2 : Tr CB} {n2 : Nat} {ds2 : DS}, (exF X (runF X P xt orc fuel d) f0.ntmps fuel c).run fr' h n [] = .ok x fr2 h2 n2 ds2 → (x = .nrm ∨ x = .ret) →
              (match dfr X P ds2 h2 with
              | true => match resC X fr2 h2 f0.results.toList with
                | some vs => fV (tupled vs) fun v => Cr.ok v h2 n2
                | none => .bad "results"
              | false => .bad "deferred") = .ok v h' n' →
              c.wp P (bodyPostD P f0 fun e w' => ∃ u E', e = .returned u ∧ VR X E' v u ∧ CH X E' (hp h') w' ∧ Fresh n' E' (hp h') ∧ CX (· < n) E (hp h) w E' (hp h') w' ∧ n ≤ n') { tmps := us ++ Array.replicate (f0.ntmps - us.size) undef, defers := [] } w := by
            intro x fr2 h2 n2 ds2 hx hcase hc
            split at hc
            · rename_i hd
              split at hc
              · rename_i vs hvs
                rw [fV_eq] at hc
                injection hc with e1 e2 e3; subst e1; subst e2; subst e3
                refine wp_mono (exF_sound G C hm ih c2 fuel c fr' h n [] E _ w hx hst) ?_
                rintro e a' w' ⟨p1, p2, E1, p3, p4⟩
                obtain ⟨u, hu, hvu⟩ := resC_sound (P := P) G p3.fr p3.ch hvs
                have hlv : Leaves P f0 a'.tmps (fun e w' => ∃ u E', e = .returned u ∧ VR X E' (tupled vs) u ∧ CH X E' (hp h2) w' ∧ Fresh n2 E' (hp h2) ∧ CX (· < n) E (hp h) w E' (hp h2) w' ∧ n ≤ n2) a'.defers .returning w' :=
                  dfr_sound G C p3.ch ⟨u, hu, u, E1, rfl, hvu, p3.ch, p3.fresh, p4, p2⟩ ds2 a'.defers hd p3.df
                rcases hcase with rfl | rfl
                · subst p1; exact hlv
                · subst p1; exact hlv
              · cases hc
            · cases hc
          split at hc
          · cases hc
          · cases hc
          · rename_i x fr2 h2 n2 ds2 hne hx
            cases x with
            | nrm => exact fin hx (.inl rfl) hc
            | ret => exact fin hx (.inr rfl) hc
            | ext id => exact absurd rfl (hne _)

/-- a call without arguments that comes to 'true' -/
theorem closed_true (G : Good P X) (C : GoodC P X) (hm : P.follows .mixedOrders = true) {xt : FuncId → List V → Option V} {orc : FuncId → List V → Tr CB → Nat → Option Cr} {fuel d f : Nat} (horc : OrcOk P X orc)
    (hxt : ∀ f as v, xt f as = some v → ∀ (E : Env) (w : World) (us : Array Value), VRs X E as us.toList → ∃ u, (callFunc f us).run P w = .ok (.value u) w ∧ VR X E v u)
    (hc : (match runF X P xt orc fuel d f [] .lf 0 with | .ok (.bool true) _ _ => true | .ok .tt _ _ => true | _ => false) = true) (w : World) :
    ((∀ w, (callFunc f #[]).run P w = .ok (.enter f #[]) w) ∧ Calls P f #[] w fun e w' => e = .returned (.bool true) ∧ w.heap.size ≤ w'.heap.size ∧ (∀ b, b < w.heap.size → w'.heap[b]? = w.heap[b]?) ∧ w'.os = w.os ∧ w'.tape = w.tape ∧ w'.output = w.output) ∨
    (callFunc f #[]).run P w = .ok (.value (.bool true)) w := by
  have hch : CH X ⟨fun _ => none, fun _ => none⟩ (hp .lf) w := ⟨fun _ => rfl, fun _ => by simp, fun l hl => absurd rfl hl, fun l m b sh wd tot sh' wd' tot' h => by cases h⟩
  have hfr : Fresh 0 ⟨fun _ => none, fun _ => none⟩ (hp .lf) := fun l _ => ⟨rfl, rfl⟩
  refine Classical.byContradiction fun hno => ?_
  have go : ∀ {v h' n'}, runF X P xt orc fuel d f [] .lf 0 = .ok v h' n' → isB v = true → valB v = true → False := fun {v h' n'} hrun hB hT => by
    refine hno ?_
    rcases runF_sound G C hm (fuel := fuel) horc hxt d f [] .lf 0 v h' n' hrun ⟨fun _ => none, fun _ => none⟩ w #[] VRs.nil hch hfr with ⟨h1, h2⟩ | ⟨u, h1, h2, _⟩
    · refine Or.inl ⟨h1, h2.mono ?_⟩
      rintro e w' ⟨u, E', rfl, hv, hr, _, hx, _⟩
      have := vr_isB hv hB
      rw [hT] at this
      subst this
      exact ⟨rfl, hx.size, fun b hb => hx.frame b hb (fun ⟨l, _, _, _, h, _⟩ => h rfl), hx.os, hx.tape, hx.output⟩
    · have := vr_isB h2 hB
      rw [hT] at this
      subst this
      exact Or.inr h1
  split at hc
  · rename_i h' n' hrun
    exact go hrun rfl rfl
  · rename_i h' n' hrun
    exact go hrun rfl rfl
  · cases hc
end Ev
