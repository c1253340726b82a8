/- The concrete run: a region that draws its order, all of it. -/
import Derived.Test.YtadmjjogmbhkaaaGreatDoorCe5
namespace Ev
open Go
variable {P : Program} {X : Ctx S0} {E E' : Env} {g g' g1 : Nat → CB} {w w' : World} {fr F : Tr V} {h : Tr CB} {a : Act} {R : Type} {nt : Nat} {call : FuncId → List V → Tr CB → Nat → Cr} {all : List Oper} {n0 : Nat}

abbrev DS := List (FuncId × List V)
/-- a step, whatever follows -/
def Steps1 (X : Ctx S0) (call : FuncId → List V → Tr CB → Nat → Cr) (F : Tr V) (h : Tr CB) (l n' n : Nat) (ds : DS) (op : Op) (v : V) (h1 : Tr CB) (n1 : Nat) (ds1 : DS) : Prop :=
  ∀ (R : Type) (K : V → Tr CB → Nat → DS → R) (bad : Why → R), stepC X call F h l n' n ds op K bad = K v h1 n1 ds1
theorem stepC_uniform (X : Ctx S0) (call : FuncId → List V → Tr CB → Nat → Cr) (F : Tr V) (h : Tr CB) (l n' n : Nat) (ds : DS) (op : Op) :
    (∃ s, ∀ (R : Type) (K : V → Tr CB → Nat → DS → R) (bad : Why → R), stepC X call F h l n' n ds op K bad = bad s) ∨ ∃ v h1 n1 ds1, Steps1 X call F h l n' n ds op v h1 n1 ds1 := by
  cases hq : cq X F h op with
  | some v => exact .inr ⟨v, h, n, ds, fun R K bad => by unfold stepC; rw [hq]; simp only [fV_eq]⟩
  | none =>
    cases hL : isLoud X op with
    | true =>
      cases hb : Nat.blt l 4294967296 with
      | false => exact .inl ⟨"room", fun R K bad => by unfold stepC; rw [hq]; simp only [hL, hb]⟩
      | true =>
        cases hc : cl X F h l op (fun v h => some (v, h)) none with
        | none => exact .inl ⟨"op", fun R K bad => by unfold stepC; rw [hq]; simp only [hL, hb, hc]⟩
        | some p => exact .inr ⟨p.1, p.2, n', ds, fun R K bad => by unfold stepC; rw [hq]; simp only [hL, hb, hc]⟩
    | false =>
      cases op with
      | call c =>
        cases hc : ccall F c with
        | none => exact .inl ⟨"op", fun R K bad => by unfold stepC; rw [hq]; simp only [hL, hc]⟩
        | some fa =>
          cases hk : call fa.1 fa.2 h n with
          | bad w => exact .inl ⟨w, fun R K bad => by unfold stepC; rw [hq]; simp only [hL, hc, fVs_eq, hk]⟩
          | ok v h1 n1 => exact .inr ⟨v, h1, n1, ds, fun R K bad => by unfold stepC; rw [hq]; simp only [hL, hc, fVs_eq, hk]⟩
      | defer c =>
        cases hc : ccall F c with
        | none => exact .inl ⟨"defer", fun R K bad => by unfold stepC; rw [hq]; simp only [hL, hc]⟩
        | some fa => exact .inr ⟨.top, h, n, fa :: ds, fun R K bad => by unfold stepC; rw [hq]; simp only [hL, hc, fVs_eq]⟩
      | _ => exact .inl ⟨"op", fun R K bad => by unfold stepC; rw [hq]; simp only [hL]⟩

abbrev DD (all : List Oper) : List Nat := downM all []
abbrev KK (X : Ctx S0) (all : List Oper) : List Nat := all.map fun o => kindC X o.op
theorem KK_get {i : Nat} {o : Oper} (ho : all[i]? = some o) : (KK X all).getD i 0 = kindC X o.op := by
  rw [List.getD_eq_getElem?_getD, List.getElem?_map, ho]; rfl

/-- what was read at j is still so -/
def Rd (X : Ctx S0) (all : List Oper) (F : Tr V) (h : Tr CB) (j : Nat) : Prop :=
  ∀ o, all[j]? = some o → gd all o F = some true → ∃ v, cq X F h o.op = some v ∧ ∀ d, o.dst = some d → F.get .top d = v

/-- what the value of an operation that computes or reads is -/
def Pend0 (X : Ctx S0) (nt : Nat) (all : List Oper) (F : Tr V) (j : Nat) : Prop :=
  ∀ o, all[j]? = some o → (gd all o F = some true ∧ ∃ hx v, cq X F hx (effOp (DD all) all j o) = some v ∧ ∀ d, o.dst = some d → F.get .top d = v ∧ d < nt) ∨ (gd all o F = some false ∧ ∀ d, o.dst = some d → F.get .top d = .tup [] ∧ d < nt)

/-- the run in the one order, by the frame at its end -/
def Tra (X : Ctx S0) (call : FuncId → List V → Tr CB → Nat → Cr) (nt : Nat) (all : List Oper) (F : Tr V) (n0 : Nat) : List (Nat × List Nat) → Nat → Tr CB → Nat → DS → Tr CB → Nat → DS → Prop
  | [], _, h, n, ds, h', n', ds' => h' = h ∧ n' = n ∧ ds' = ds
  | (i, _) :: r, pl, h, n, ds, h', n', ds' => ∃ o, all[i]? = some o ∧
      ((gd all o F = some true ∧ ∃ v h1 n1 ds1, Steps1 X call F h (n0 + i) n n ds (effOp (DD all) all i o) v h1 n1 ds1 ∧ (∀ d, o.dst = some d → F.get .top d = v ∧ d < nt) ∧
          (3 ≤ (KK X all).getD i 0 → ∀ j, (KK X all).getD j 0 = 1 → bit pl j = true → bit ((DD all).getD i 0) j = false → Rd X all F h1 j) ∧ Tra X call nt all F n0 r (Nat.lor pl (Nat.shiftLeft 1 i)) h1 n1 ds1 h' n' ds') ∨
       (gd all o F = some false ∧ (∀ d, o.dst = some d → F.get .top d = .tup [] ∧ d < nt) ∧
          (3 ≤ (KK X all).getD i 0 → ∀ j, (KK X all).getD j 0 = 1 → bit pl j = true → bit ((DD all).getD i 0) j = false → Rd X all F h j) ∧ Tra X call nt all F n0 r (Nat.lor pl (Nat.shiftLeft 1 i)) h n ds h' n' ds'))

theorem eqV1_sound {a b : V} (hc : eqV1 a b = true) : a = b := by
  unfold eqV1 at hc
  split at hc
  · rfl
  · simp only [Bool.and_eq_true, decide_eq_true_eq, eqI_iff] at hc; rw [hc.1, hc.2]
  · rw [eqS_iff.1 hc]
  · rw [beq_iff_eq.1 hc]
  · rfl
  · rfl
  · rfl
  · simp only [Bool.and_eq_true] at hc
    rw [Nat.eq_of_beq_eq_true hc.1.1, Nat.eq_of_beq_eq_true hc.1.2, Nat.eq_of_beq_eq_true hc.2]
  · rfl
  · simp only [Bool.and_eq_true, beq_iff_eq] at hc
    rw [Nat.eq_of_beq_eq_true hc.1.1.1, Nat.eq_of_beq_eq_true hc.1.1.2, Nat.eq_of_beq_eq_true hc.1.2, hc.2]
  · rfl
  · rw [Nat.eq_of_beq_eq_true hc]
  · rfl
  · rfl
  · cases hc
theorem eqVs_sound : ∀ {a b : List V}, eqVs a b = true → a = b
  | [], [], _ => rfl
  | [], _ :: _, h => by simp [eqVs] at h
  | _ :: _, [], h => by simp [eqVs] at h
  | a :: r, b :: s, h => by
    unfold eqVs at h
    split at h
    · rename_i h1; rw [eqV1_sound h1, eqVs_sound h]
    · cases h
theorem eqV_sound {a b : V} (hc : eqV a b = true) : a = b := by
  unfold eqV at hc
  split at hc
  · rw [eqVs_sound hc]
  · rw [eqVs_sound hc]
  · simp only [Bool.and_eq_true] at hc
    rw [Nat.eq_of_beq_eq_true hc.1, eqVs_sound hc.2]
  · exact eqV1_sound hc

theorem againC_spec {h : Tr CB} : ∀ (chk : List Nat), againC X all chk fr h = true → ∀ j ∈ chk, ∃ o, all[j]? = some o ∧ (gd all o fr = some false ∨ (gd all o fr = some true ∧ ∃ v, cq X fr h o.op = some v ∧ ∀ d, o.dst = some d → fr.get .top d = v))
  | [], _, j, hj => by simp at hj
  | i :: r, hc, j, hj => by
    unfold againC at hc
    split at hc
    · cases hc
    · rename_i o ho
      have tail : againC X all r fr h = true → j ∈ r → ∃ o, all[j]? = some o ∧ (gd all o fr = some false ∨ (gd all o fr = some true ∧ ∃ v, cq X fr h o.op = some v ∧ ∀ d, o.dst = some d → fr.get .top d = v)) := fun hc hj => againC_spec r hc j hj
      split at hc
      · cases hc
      · rename_i hg
        rcases List.mem_cons.1 hj with rfl | hj
        · exact ⟨o, ho, .inl hg⟩
        · exact tail hc hj
      · rename_i hg
        split at hc
        · rename_i v hv
          split at hc
          · rename_i hd
            rcases List.mem_cons.1 hj with rfl | hj
            · exact ⟨o, ho, .inr ⟨hg, v, hv, fun d h => (by rw [hd] at h; cases h)⟩⟩
            · exact tail hc hj
          · rename_i d hd
            split at hc
            · rename_i he
              rcases List.mem_cons.1 hj with rfl | hj
              · exact ⟨o, ho, .inr ⟨hg, v, hv, fun d' h => by rw [hd] at h; injection h with h; subst h; exact (eqV_sound he).symm⟩⟩
              · exact tail hc hj
            · cases hc
        · cases hc

theorem steps_quiet {F : Tr V} {l n' n : Nat} {ds : DS} {op : Op} {v : V} {h1 : Tr CB} {n1 : Nat} {ds1 : DS} (hk : kindC X op < 2) (hst : Steps1 X call F h l n' n ds op v h1 n1 ds1) : cq X F h op = some v ∧ h1 = h ∧ n1 = n ∧ ds1 = ds := by
  obtain ⟨kq1, kq2, kq3⟩ := kind_quiet (fr := F) hk
  have := hst (Option (V × Tr CB × Nat × DS)) (fun v h n ds => some (v, h, n, ds)) (fun _ => none)
  unfold stepC at this
  cases hq : cq X F h op with
  | some v' =>
    rw [hq] at this
    simp only [fV_eq, Option.some.injEq, Prod.mk.injEq] at this
    obtain ⟨e1, e2, e3, e4⟩ := this
    exact ⟨by rw [e1], e2.symm, e3.symm, e4.symm⟩
  | none =>
    rw [hq] at this
    simp only [kq1] at this
    cases op with
    | call c => simp only [kq2 c rfl] at this; cases this
    | defer c => exact absurd rfl (kq3 c)
    | _ => cases this
theorem gd_early {D : List Nat} {i : Nat} {o : Oper} (he : early D all i o = true) (F : Tr V) : gd all o F = some true := by
  obtain ⟨t, d, _, hg, _⟩ := early_spec he
  unfold gd; rw [hg]
/-- early operations: what they take is what they hold at the end -/
def Ear (all : List Oper) (F fr : Tr V) (P : Nat → Prop) : Prop :=
  ∀ i o t d, all[i]? = some o → P i → early (DD all) all i o = true → o.op = .move (.tmp t) → o.dst = some d → F.get .top d = fr.get .top t
/-- slots that placed operations look at are written by placed ones -/
def HP (all : List Oper) (pl : Nat) : Prop := ∀ j, bit pl j = true → ∀ oj, all[j]? = some oj → early (DD all) all j oj = false → ∀ p op d, all[p]? = some op → op.dst = some d → d ∈ looksC all oj → bit pl p = true
theorem HP.next {pl lm fm fd i : Nat} {o : Oper} {chk : List Nat} (hp : HP all pl) (hh : Here all (DD all) (KK X all) i o chk pl lm fm fd) : HP all (Nat.lor pl (Nat.shiftLeft 1 i)) := by
  intro j hj oj hoj he p op d h1 h2 h3
  rw [bit_or, Bool.or_eq_true, bit_one, decide_eq_true_eq] at hj ⊢
  rcases hj with hj | rfl
  · exact .inl (hp j hj oj hoj he p op d h1 h2 h3)
  · rw [hh.get] at hoj; injection hoj with hoj; subst hoj
    exact .inl (hh.down p (hh.slots he p op d h1 h2 h3))

theorem runPi_tra (hdst : dstsOk [] all = true) (hnt : nt < 4294967296) : ∀ (r : List (Nat × List Nat)) (pl lm fm fd : Nat) (fr : Tr V) (h : Tr CB) (n : Nat) (ds : DS) {x F h' n' ds'}, okPi all (DD all) (KK X all) r pl lm fm fd = true → HP all pl →
    runPi X call nt all n0 r fr h n ds = .ok x F h' n' ds' →
    x = .nrm ∧ (∀ t, (∀ p ∈ r, ∀ o, all[p.1]? = some o → o.dst ≠ some t) → F.get .top t = fr.get .top t) ∧ Tra X call nt all F n0 r pl h n ds h' n' ds' ∧ Ear all F fr (fun i => ∃ p ∈ r, p.1 = i)
  | [], pl, lm, fm, fd, fr, h, n, ds, x, F, h', n', ds', hc, hpl, hr => by
    injection hr with c1 c2 c3 c4 c5; subst c1; subst c2; subst c3; subst c4; subst c5
    exact ⟨rfl, fun t _ => rfl, ⟨rfl, rfl, rfl⟩, fun i o t d _ ⟨p, hp, _⟩ => by simp at hp⟩
  | (i, chk) :: r, pl, lm, fm, fd, fr, h, n, ds, x, F, h', n', ds', hc, hpl, hr => by
    obtain ⟨o, hh, hc'⟩ := okPi_cons hc
    have hpl' := hpl.next hh
    have hlater := okPi_later r _ _ _ _ hc'
    have hdist := (dstsOk_spec all [] hdst).2
    -- slots of placed operations do not turn any more
    have keepL : ∀ {F fr1 : Tr V}, (∀ t, (∀ p ∈ r, ∀ o, all[p.1]? = some o → o.dst ≠ some t) → F.get .top t = fr1.get .top t) →
        ∀ j oj, bit (Nat.lor pl (Nat.shiftLeft 1 i)) j = true → all[j]? = some oj → (early (DD all) all j oj = false → ∀ t ∈ looksC all oj, F.get .top t = fr1.get .top t) ∧ ∀ d, oj.dst = some d → F.get .top d = fr1.get .top d := by
      intro F fr1 hF j oj hj hoj
      refine ⟨fun he t ht => hF t fun p hp op hop hd => ?_, fun d hd => hF d fun p hp op hop hd' => ?_⟩
      · have := hpl' j hj oj hoj he p.1 op t hop hd ht
        rw [hlater p hp] at this; cases this
      · have e := hdist j p.1 oj op d hoj hop hd hd'
        have := hlater p hp
        rw [← e, hj] at this; cases this
    have bi : bit (Nat.lor pl (Nat.shiftLeft 1 i)) i = true := by rw [bit_or, bit_one]; simp
    unfold runPi at hr
    rw [hh.get] at hr
    simp only at hr
    -- the operation's own slots
    have ownL : early (DD all) all i o = false → ∀ {F fr1 : Tr V}, (∀ t, o.dst ≠ some t → fr1.get .top t = fr.get .top t) → (∀ t, (∀ p ∈ r, ∀ o, all[p.1]? = some o → o.dst ≠ some t) → F.get .top t = fr1.get .top t) → ∀ t ∈ looksC all o, F.get .top t = fr.get .top t := by
      intro he F fr1 h1 h2 t ht
      rw [(keepL h2 i o bi hh.get).1 he t ht]
      refine h1 t fun hd => ?_
      have := hh.down i (hh.slots he i o t hh.get hd ht)
      rw [hh.new] at this; cases this
    have land : ∀ {v : V} {K : Tr V → Ro} {bad : Why}, landK nt o.dst v fr K (.bad bad) = .ok x F h' n' ds' → ∃ fr1, K fr1 = .ok x F h' n' ds' ∧ (∀ t, o.dst ≠ some t → fr1.get .top t = fr.get .top t) ∧ ∀ d, o.dst = some d → d < nt ∧ fr1.get .top d = v := by
      intro v K bad hk
      unfold landK at hk
      split at hk
      · rename_i d hd
        split at hk
        · rename_i hb
          have hlt := bltT.1 hb
          rw [Tr.put_eq] at hk
          refine ⟨_, hk, fun t ht => ?_, fun d' hd' => ?_⟩
          · rw [Tr.get_ins .top v 64 fr d (by omega), if_neg (fun e => ht (by rw [hd, e]))]
          · rw [hd] at hd'; injection hd' with hd'; subst hd'
            exact ⟨hlt, by rw [Tr.get_ins .top v 64 fr d (by omega), if_pos rfl]⟩
        · cases hk
      · rename_i hd
        exact ⟨fr, hk, fun t _ => rfl, fun d hd' => by rw [hd] at hd'; cases hd'⟩
    have ear : ∀ {F fr1 : Tr V}, (∀ t, o.dst ≠ some t → fr1.get .top t = fr.get .top t) → Ear all F fr1 (fun k => ∃ p ∈ r, p.1 = k) → (∀ o', all[i]? = some o' → early (DD all) all i o' = true → ∀ t d, o'.op = .move (.tmp t) → o'.dst = some d → F.get .top d = fr.get .top t) →
        Ear all F fr (fun k => ∃ p ∈ (i, chk) :: r, p.1 = k) := by
      rintro F fr1 l1 e4 hi k ok t d hok ⟨p, hp, rfl⟩ he hop hd
      rcases List.mem_cons.1 hp with rfl | hp
      · exact hi ok hok he t d hop hd
      · rw [e4 p.1 ok t d hok ⟨p, hp, rfl⟩ he hop hd]
        refine l1 t fun hdd => ?_
        obtain ⟨t', d', hop', _, _, hall⟩ := early_spec he
        rw [hop] at hop'; injection hop' with hop'; injection hop' with hop'; subst hop'
        have := hh.down _ (hall i o hh.get hdd)
        have h2 := hlater p hp
        rw [bit_or, this] at h2; cases h2
    have again : ∀ {F fr1 : Tr V} {h1 : Tr CB}, (∀ t, (∀ p ∈ r, ∀ o, all[p.1]? = some o → o.dst ≠ some t) → F.get .top t = fr1.get .top t) → againC X all chk fr1 h1 = true →
        3 ≤ (KK X all).getD i 0 → ∀ j, (KK X all).getD j 0 = 1 → bit pl j = true → bit ((DD all).getD i 0) j = false → Rd X all F h1 j := by
      intro F fr1 h1 e2 hag h3 j q1 q2 q3 oj hoj hgj
      obtain ⟨oj', hoj', hcase⟩ := againC_spec chk hag j (hh.recs h3 j q1 q2 q3)
      rw [hoj] at hoj'; injection hoj' with hoj'; subst hoj'
      obtain ⟨k1', k2⟩ := keepL e2 j oj (by rw [bit_or, q2]; rfl) hoj
      have k1 := k1' (early_kind (X := X) (by rw [← KK_get (X := X) hoj, q1]; omega))
      rcases hcase with hf | ⟨_, v', hv', hdv⟩
      · rw [← gd_congr k1, hgj] at hf; cases hf
      · exact ⟨v', by rw [cq_congr h1 (fun t ht => k1 t (looks_op t ht))]; exact hv', fun d hd => by rw [k2 d hd]; exact hdv d hd⟩
    split at hr
    · rename_i hg
      rcases stepC_uniform X call fr h (n0 + i) n n ds o.op with ⟨s, hb⟩ | ⟨v, h1, n1, ds1, hst⟩
      · rw [hb] at hr; cases hr
      · rw [hst] at hr
        obtain ⟨fr1, hr1, l1, l2⟩ := land hr
        split at hr1
        · rename_i hag
          obtain ⟨e1, e2, e3, e4⟩ := runPi_tra hdst hnt r _ _ _ _ fr1 h1 n1 ds1 hc' hpl' hr1
          have hdv : ∀ d, o.dst = some d → F.get .top d = v ∧ d < nt := fun d hd => by
            obtain ⟨m1, m2⟩ := l2 d hd
            exact ⟨by rw [(keepL e2 i o bi hh.get).2 d hd, m2], m1⟩
          have hkeep : ∀ t, (∀ p ∈ (i, chk) :: r, ∀ o, all[p.1]? = some o → o.dst ≠ some t) → F.get .top t = fr.get .top t := fun t ht => by
            rw [e2 t fun p hp => ht p (by simp [hp])]
            exact l1 t (ht (i, chk) (by simp) o hh.get)
          cases he : early (DD all) all i o with
          | false =>
            have own := ownL he l1 e2
            refine ⟨e1, hkeep, ⟨o, hh.get, .inl ⟨by rw [gd_congr own]; exact hg, v, h1, n1, ds1, fun R K bad => by rw [effOp_not he, stepC_congr h (n0 + i) n n ds (fun t ht => own t (looks_op t ht))]; exact hst R K bad, hdv, again e2 hag, e3⟩⟩, ?_⟩
            exact ear l1 e4 fun o' ho' he' => by rw [hh.get] at ho'; injection ho' with ho'; subst ho'; rw [he] at he'; cases he'
          | true =>
            obtain ⟨t, d, hop, _, hd, _⟩ := early_spec he
            obtain ⟨z1, z2, z3, z4⟩ := steps_quiet (by rw [hop]; show 0 < 2; omega) hst
            subst z2; subst z3; subst z4
            rw [hop] at z1
            have z1 : fr.get .top t = v := by injection z1
            refine ⟨e1, hkeep, ⟨o, hh.get, .inl ⟨gd_early he F, v, h1, n1, ds1, fun R K bad => ?_, hdv, again e2 hag, e3⟩⟩, ?_⟩
            · rw [effOp_early he hd]
              show fV (F.get .top d) (fun v => K v h1 n1 ds1) = _
              rw [fV_eq, (hdv d hd).1]
            · refine ear l1 e4 fun o' ho' _ t' d' hop' hd' => ?_
              rw [hh.get] at ho'; injection ho' with ho'; subst ho'
              rw [hop] at hop'; injection hop' with hop'; injection hop' with hop'; subst hop'
              rw [(hdv d' hd').1, z1]
        · cases hr1
    · rename_i hg
      obtain ⟨fr1, hr1, l1, l2⟩ := land hr
      split at hr1
      · rename_i hag
        obtain ⟨e1, e2, e3, e4⟩ := runPi_tra hdst hnt r _ _ _ _ fr1 h n ds hc' hpl' hr1
        have he : early (DD all) all i o = false := by
          cases he : early (DD all) all i o with
          | false => rfl
          | true => rw [gd_early he] at hg; cases hg
        have own := ownL he l1 e2
        refine ⟨e1, fun t ht => ?_, ⟨o, hh.get, .inr ⟨by rw [gd_congr own]; exact hg, fun d hd => ?_, again e2 hag, e3⟩⟩, ?_⟩
        · rw [e2 t fun p hp => ht p (by simp [hp])]
          exact l1 t (ht (i, chk) (by simp) o hh.get)
        · obtain ⟨m1, m2⟩ := l2 d hd
          exact ⟨by rw [(keepL e2 i o bi hh.get).2 d hd, m2], m1⟩
        · exact ear l1 e4 fun o' ho' he' => by rw [hh.get] at ho'; injection ho' with ho'; subst ho'; rw [he] at he'; cases he'
      · cases hr1
    · cases hr

open Classical in
/-- what is not touched stays beside what a step did to a part -/
theorem CH.merge (hr : CH X E g w) {gp : Nat → CB} {S : Nat → Prop} (hpart : ∀ l, gp l ≠ .dead → gp l = g l) (hr' : CH X E' g1 w') (hx : CX S E gp w E' g1 w') :
    CH X E' (fun l => if gp l = .dead ∧ g l ≠ .dead then g l else g1 l) w' ∧ CX S E g w E' (fun l => if gp l = .dead ∧ g l ≠ .dead then g l else g1 l) w' := by
  have apartP : ∀ l b sh wd tot, gp l = .dead → g l ≠ .dead → E.io l = some (.at b sh wd tot) → ¬ owns E gp b := by
    rintro l b sh wd tot h1 h2 h3 ⟨l', sh', wd', tot', h4, h5⟩
    have := hr.inj l l' b _ _ _ _ _ _ h3 h5 h2 (by rw [← hpart l' h4]; exact h4)
    subst this; exact h4 h1
  have sub : ∀ b, owns E gp b → owns E g b := fun b ⟨l, sh, wd, tot, h1, h2⟩ => ⟨l, sh, wd, tot, by rw [← hpart l h1]; exact h1, h2⟩
  -- where a block is kept
  have src : ∀ l b sh wd tot, E'.io l = some (.at b sh wd tot) → (if gp l = .dead ∧ g l ≠ .dead then g l else g1 l) ≠ .dead → (gp l = .dead ∧ g l ≠ .dead ∧ E.io l = some (.at b sh wd tot)) ∨ (¬ (gp l = .dead ∧ g l ≠ .dead) ∧ g1 l ≠ .dead) := by
    intro l b sh wd tot h1 h2
    by_cases hc : gp l = .dead ∧ g l ≠ .dead
    · obtain ⟨p, hp, _⟩ := hr.blk l hc.2
      have := hx.io l p hp
      rw [h1] at this; injection this with this; subst this
      exact .inl ⟨hc.1, hc.2, hp⟩
    · rw [if_neg hc] at h2; exact .inr ⟨hc, h2⟩
  have cross : ∀ l m b sh wd tot sh' wd' tot', gp l = .dead → g l ≠ .dead → E.io l = some (.at b sh wd tot) → g1 m ≠ .dead → E'.io m = some (.at b sh' wd' tot') → False := by
    intro l m b sh wd tot sh' wd' tot' h1 h2 h3 h4 h5
    rcases hx.own b ⟨m, _, _, _, h4, h5⟩ with ho | ho
    · exact apartP l b _ _ _ h1 h2 h3 ho
    · have := (hr.at h3 h2).lt h2; omega
  refine ⟨⟨hr'.im, hr'.nv, fun l hl => ?_, fun l m b sh wd tot sh' wd' tot' h1 h2 h3 h4 => ?_⟩, ⟨hx.io, hx.free, fun l hl hd => ?_, fun b ⟨l, sh, wd, tot, h1, h2⟩ => ?_, hx.size, fun b hb hn => hx.frame b hb fun ho => hn (sub b ho), hx.os, hx.tape, hx.output⟩⟩
  · by_cases hc : gp l = .dead ∧ g l ≠ .dead
    · simp only [if_pos hc] at hl ⊢
      obtain ⟨p, hp, hb⟩ := hr.blk l hc.2
      refine ⟨p, hx.io l p hp, hb.mono hr.im hx.io fun bb sh wd tot hd e => ?_⟩
      subst e
      exact hx.frame bb (hb.lt hd) (apartP l bb _ _ _ hc.1 hc.2 hp)
    · simp only [if_neg hc] at hl ⊢
      exact hr'.blk l hl
  · rcases src l _ _ _ _ h1 h3 with ⟨a1, a2, a3⟩ | ⟨a1, a2⟩ <;> rcases src m _ _ _ _ h2 h4 with ⟨b1, b2, b3⟩ | ⟨b1, b2⟩
    · exact hr.inj l m b _ _ _ _ _ _ a3 b3 a2 b2
    · exact (cross l m b _ _ _ _ _ _ a1 a2 a3 b2 h2).elim
    · exact (cross m l b _ _ _ _ _ _ b1 b2 b3 a2 h1).elim
    · exact hr'.inj l m b _ _ _ _ _ _ h1 h2 a2 b2
  · rw [if_neg (fun h => h.2 hd)]
    refine hx.dead l hl ?_
    cases hq : gp l with
    | dead => rfl
    | _ => have := hpart l (by rw [hq]; simp); rw [hd, hq] at this; cases this
  · rcases src l _ _ _ _ h2 h1 with ⟨a1, a2, a3⟩ | ⟨a1, a2⟩
    · exact .inl ⟨l, _, _, _, a2, a3⟩
    · rcases hx.own b ⟨l, _, _, _, a2, h2⟩ with ho | ho
      · exact .inl (sub b ho)
      · exact .inr ho

/-- the frame on the way: slots that are written hold what they hold at the end; what early operations will take is there -/
def Frs (X : Ctx S0) (all : List Oper) (F : Tr V) (Dn : List Nat) (E : Env) (a : Act) : Prop :=
  ∃ fs : Tr V, FR X E (fn fs) a ∧ (∀ t, (∀ i o, all[i]? = some o → i ∉ Dn → o.dst ≠ some t) → fs.get .top t = F.get .top t) ∧ Ear all F fs (fun i => i ∉ Dn)
/-- a region under way, in whatever order -/
structure SI (X : Ctx S0) (call : FuncId → List V → Tr CB → Nat → Cr) (nt : Nat) (all : List Oper) (n0 : Nat) (F : Tr V) (E0 : Env) (g0 : Nat → CB) (w0 : World) (hF : Tr CB) (nF : Nat) (dF : DS)
    (Dn : List Nat) (E : Env) (g : Nat → CB) (a : Act) (w : World) (rest : List (Nat × List Nat)) (pl lm fm fd : Nat) (h : Tr CB) (n : Nat) (ds : DS) : Prop where
  ok : okPi all (DD all) (KK X all) rest pl lm fm fd = true
  tra : Tra X call nt all F n0 rest pl h n ds hF nF dF
  cls : ∀ i ∈ Dn, ∀ o, all[i]? = some o → ∀ d ∈ aft o, d ∈ Dn
  loud : ∀ i, i < all.length → 3 ≤ (KK X all).getD i 0 → (i ∈ Dn ↔ bit pl i = true)
  lmB : ∀ i, bit pl i = true → 3 ≤ (KK X all).getD i 0 → bit lm i = true
  fmB : ∀ i, bit pl i = true → (KK X all).getD i 0 = 2 → bit fm i = true
  fin : ∀ k, bit fm k = true → k ∈ Dn
  fdn : ∀ k, bit fd k = true → k ∈ Dn
  rd : ∀ j, bit pl j = true → (KK X all).getD j 0 = 1 → j ∉ Dn → Rd X all F h j
  pend : ∀ j, bit pl j = true → (KK X all).getD j 0 < 2 → j ∉ Dn → Pend0 X nt all F j
  ch : CH X E g w
  g1 : ∀ l, hp h l ≠ .dead → hp h l = g l
  g3 : ∀ i ∈ Dn, bit pl i = false → (KK X all).getD i 0 = 2 → ∀ o, all[i]? = some o → gd all o F = some true → ∀ v blk, (∀ (R : Type) (h : Tr CB) (K : V → Tr CB → R) (bad : R), cl X F h (n0 + i) o.op K bad = K v (Tr.ins .dead blk 64 h (n0 + i))) → g (n0 + i) = blk
  dd : ∀ i, i < all.length → bit pl i = false → hp h (n0 + i) = .dead
  fe : ∀ i, i < all.length → i ∉ Dn → E.io (n0 + i) = none
  fresh : Fresh n E (hp h)
  nn : n0 + all.length ≤ n
  frs : Frs X all F Dn E a
  sz : a.tmps.size = nt
  df : DR X E ds a.defers
  cx : CX (· < n0) E0 g0 w0 E g w

theorem steps_fresh {F : Tr V} {l n' n : Nat} {ds : DS} {op : Op} {v : V} {h1 : Tr CB} {n1 : Nat} {ds1 : DS} (hk : kindC X op = 2) (hl : Nat.blt l 4294967296 = true) (hst : Steps1 X call F h l n' n ds op v h1 n1 ds1) :
    n1 = n' ∧ ds1 = ds ∧ ∃ blk, blk ≠ CB.dead ∧ h1 = Tr.ins .dead blk 64 h l ∧ ∀ (R : Type) (h : Tr CB) (K : V → Tr CB → R) (bad : R), cl X F h l op K bad = K v (Tr.ins .dead blk 64 h l) := by
  obtain ⟨kq1, kq2⟩ := kind_fresh (X := X) (fr := F) hk h
  have := hst (Option (V × Tr CB × Nat × DS)) (fun v h n ds => some (v, h, n, ds)) (fun _ => none)
  unfold stepC at this
  rw [kq1] at this
  simp only [kq2] at this
  rw [hl] at this
  simp only at this
  rcases cl_fresh (X := X) (fr := F) hk l with hbad | ⟨v', blk, hne, hall⟩
  · rw [hbad] at this; cases this
  · rw [hall] at this
    simp only [Option.some.injEq, Prod.mk.injEq] at this
    obtain ⟨e1, e2, e3, e4⟩ := this
    subst e1
    exact ⟨e3.symm, e4.symm, blk, hne, e2.symm, hall⟩

/-- the one order goes on, as far as nothing is written: to an operation's place -/
theorem advance {F : Tr V} {hF : Tr CB} {nF : Nat} {dF : DS} : ∀ (rest : List (Nat × List Nat)) (pl lm fm fd : Nat) (h : Tr CB) (n : Nat) (ds : DS) (i : Nat), okPi all (DD all) (KK X all) rest pl lm fm fd = true → Tra X call nt all F n0 rest pl h n ds hF nF dF →
    n0 + all.length ≤ 4294967296 → (bit pl i = false) → (∃ chk, (i, chk) ∈ rest) →
    ∃ chk r pl' lm' fm' fd' h' n' ds', okPi all (DD all) (KK X all) ((i, chk) :: r) pl' lm' fm' fd' = true ∧ Tra X call nt all F n0 ((i, chk) :: r) pl' h' n' ds' hF nF dF ∧
      (∀ k, bit pl k = true → bit pl' k = true) ∧ (∀ k, bit lm k = true → bit lm' k = true) ∧ (∀ k, bit fm k = true → bit fm' k = true) ∧ (∀ k, bit pl' k = true → bit pl k = false → (3 ≤ (KK X all).getD k 0 → bit lm' k = true) ∧ ((KK X all).getD k 0 = 2 → bit fm' k = true)) ∧ (∀ k, bit pl' k = true → k < all.length ∨ bit pl k = true) ∧ (∀ k, bit pl' k = true → bit pl k = false → (KK X all).getD k 0 < 2 → Pend0 X nt all F k) ∧
      ((∀ k, bit pl' k = true → bit pl k = false → ¬ 3 ≤ (KK X all).getD k 0) → n' = n ∧ ds' = ds ∧ lm' = lm ∧ fd' = fd ∧
        (∀ k, bit fm' k = true → bit fm k = true ∨ (bit pl' k = true ∧ bit pl k = false)) ∧
        ∀ l, hp h' l ≠ .dead → hp h' l = hp h l ∨ ∃ k o v blk, l = n0 + k ∧ bit pl' k = true ∧ bit pl k = false ∧ (KK X all).getD k 0 = 2 ∧ all[k]? = some o ∧ gd all o F = some true ∧ hp h' l = blk ∧
          (∀ (R : Type) (h : Tr CB) (K : V → Tr CB → R) (bad : R), cl X F h (n0 + k) o.op K bad = K v (Tr.ins .dead blk 64 h (n0 + k))))
  | [], pl, lm, fm, fd, h, n, ds, i, hc, ht, hb, hi, ⟨chk, hm⟩ => by simp at hm
  | (j, chk) :: r, pl, lm, fm, fd, h, n, ds, i, hc, ht, hb, hi, ⟨chk', hm⟩ => by
    by_cases e : j = i
    · subst e
      exact ⟨chk, r, pl, lm, fm, fd, h, n, ds, hc, ht, fun _ h => h, fun _ h => h, fun _ h => h, fun k h1 h2 => (by rw [h1] at h2; cases h2), fun k h => .inr h, fun k h1 h2 => (by rw [h1] at h2; cases h2), fun _ => ⟨rfl, rfl, rfl, rfl, fun k hk => .inl hk, fun l _ => .inl rfl⟩⟩
    · obtain ⟨o, hh, hc'⟩ := okPi_cons hc
      obtain ⟨o', ho', hcase⟩ := ht
      rw [hh.get] at ho'; injection ho' with ho'; subst ho'
      have hjlt : j < all.length := (List.getElem?_eq_some_iff.1 hh.get).1
      have hm' : ∃ chk, (i, chk) ∈ r := by
        rcases List.mem_cons.1 hm with hm | hm
        · injection hm with h1 h2; exact absurd h1.symm e
        · exact ⟨chk', hm⟩
      have bj : ∀ k, bit (Nat.lor pl (Nat.shiftLeft 1 j)) k = true ↔ bit pl k = true ∨ k = j := fun k => by rw [bit_or, Bool.or_eq_true, bit_one, decide_eq_true_eq]
      have bjf : ∀ k, bit (Nat.lor pl (Nat.shiftLeft 1 j)) k = false ↔ bit pl k = false ∧ k ≠ j := fun k => by rw [bit_or, Bool.or_eq_false_iff, bit_one, decide_eq_false_iff_not]
      -- behind this operation
      refine Classical.byContradiction fun hno => ?_
      have go : ∀ (h1 : Tr CB) (n1 : Nat) (ds1 : DS), Tra X call nt all F n0 r (Nat.lor pl (Nat.shiftLeft 1 j)) h1 n1 ds1 hF nF dF → ((KK X all).getD j 0 < 2 → Pend0 X nt all F j) →
          (¬ 3 ≤ (KK X all).getD j 0 → n1 = n ∧ ds1 = ds ∧ ∀ l, hp h1 l ≠ .dead → hp h1 l = hp h l ∨ ∃ v blk, l = n0 + j ∧ (KK X all).getD j 0 = 2 ∧ gd all o F = some true ∧ hp h1 l = blk ∧
            (∀ (R : Type) (h : Tr CB) (K : V → Tr CB → R) (bad : R), cl X F h (n0 + j) o.op K bad = K v (Tr.ins .dead blk 64 h (n0 + j)))) → False := by
        intro h1 n1 ds1 ht1 hpj hq
        refine hno ?_
        obtain ⟨c, r', pl', lm', fm', fd', h', n', ds', q1, q2, q3, q4, q5, q6, q7, q9, q8⟩ := advance r _ _ _ _ h1 n1 ds1 i hc' ht1 hb ((bjf i).2 ⟨hi, fun e' => e e'.symm⟩) hm'
        have pj : bit pl' j = true := q3 j ((bj j).2 (.inr rfl))
        refine ⟨c, r', pl', lm', fm', fd', h', n', ds', q1, q2, fun k hk => q3 k ((bj k).2 (.inl hk)), fun k hk => q4 k ?_, fun k hk => q5 k ?_, fun k k1 k2 => ?_, fun k hk => ?_, fun k k1 k2 k3 => ?_, fun hno => ?_⟩
        · unfold nextL; split
          · rw [bit_or, hk]; rfl
          · exact hk
        · unfold nextF; split
          · rw [bit_or, hk]; rfl
          · exact hk
        · by_cases ek : k = j
          · subst ek
            refine ⟨fun h3 => q4 k ?_, fun h2 => q5 k ?_⟩
            · unfold nextL; rw [if_pos h3, bit_or, bit_one]; simp
            · unfold nextF; rw [if_pos h2, bit_or, bit_one]; simp
          · exact q6 k k1 ((bjf k).2 ⟨k2, ek⟩)
        · rcases q7 k hk with h | h
          · exact .inl h
          · rcases (bj k).1 h with h | rfl
            · exact .inr h
            · exact .inl hjlt
        · by_cases ek : k = j
          · subst ek; exact hpj k3
          · exact q9 k k1 ((bjf k).2 ⟨k2, ek⟩) k3
        · have hnj : ¬ 3 ≤ (KK X all).getD j 0 := hno j pj hh.new
          obtain ⟨a1, a2, a3, a4, a5, a6⟩ := q8 fun k k1 k2 => hno k k1 ((bjf k).1 k2).1
          obtain ⟨b1, b2, b3⟩ := hq hnj
          refine ⟨a1.trans b1, a2.trans b2, by rw [a3]; unfold nextL; rw [if_neg hnj], by rw [a4]; unfold nextD; rw [if_neg hnj], fun k hk => ?_, fun l hl => ?_⟩
          · rcases a5 k hk with h | ⟨h1, h2⟩
            · unfold nextF at h
              split at h
              · rw [bit_or, Bool.or_eq_true, bit_one, decide_eq_true_eq] at h
                rcases h with h | rfl
                · exact .inl h
                · exact .inr ⟨pj, hh.new⟩
              · exact .inl h
            · exact .inr ⟨h1, ((bjf k).1 h2).1⟩
          · rcases a6 l hl with h | ⟨k, ok, v, blk, c1, c2, c3, c4, c5, c6, c7, c8⟩
            · rw [h] at hl
              rcases b3 l hl with h2 | ⟨v, blk, c1, c2, c3, c4, c5⟩
              · exact .inl (h.trans h2)
              · exact .inr ⟨j, o, v, blk, c1, pj, hh.new, c2, hh.get, c3, h.trans c4, c5⟩
            · exact .inr ⟨k, ok, v, blk, c1, c2, ((bjf k).1 c3).1, c4, c5, c6, c7, c8⟩
      rcases hcase with ⟨hg, v, h1, n1, ds1, hst, hdv, _, ht1⟩ | ⟨hg, hdv, _, ht1⟩
      · refine go h1 n1 ds1 ht1 (fun hk2 o' ho' => ?_) fun hnj => ?_
        · rw [hh.get] at ho'; injection ho' with ho'; subst ho'
          rw [KK_get hh.get] at hk2
          exact .inl ⟨hg, h, v, steps_quiet (by rw [effOp_kind]; exact hk2) hst |>.1, hdv⟩
        have hkj := KK_get (X := X) hh.get
        rw [hkj] at hnj
        rcases Nat.lt_or_ge (kindC X o.op) 2 with hk2 | hk2
        · obtain ⟨_, e2, e3, e4⟩ := steps_quiet (by rw [effOp_kind]; exact hk2) hst
          subst e2; subst e3; subst e4
          exact ⟨rfl, rfl, fun l _ => .inl rfl⟩
        · have hk : kindC X o.op = 2 := by omega
          have hlt : Nat.blt (n0 + j) 4294967296 = true := bltT.2 (by omega)
          rw [effOp_not (early_kind (X := X) (by omega))] at hst
          obtain ⟨e3, e4, blk, _, e2, hall⟩ := steps_fresh hk hlt hst
          subst e2
          refine ⟨e3, e4, fun l hl => ?_⟩
          rw [hp_ins h (n0 + j) blk hlt]
          by_cases el : l = n0 + j
          · right; exact ⟨v, blk, el, by rw [hkj]; exact hk, hg, by simp only [if_pos el], hall⟩
          · left; simp only [if_neg el]
      · refine go h n ds ht1 (fun hk2 o' ho' => ?_) fun _ => ⟨rfl, rfl, fun l _ => .inl rfl⟩
        rw [hh.get] at ho'; injection ho' with ho'; subst ho'
        exact .inr ⟨hg, hdv⟩

/-- the one order, to its end -/
theorem advance_end {F : Tr V} {hF : Tr CB} {nF : Nat} {dF : DS} : ∀ (rest : List (Nat × List Nat)) (pl lm fm fd : Nat) (h : Tr CB) (n : Nat) (ds : DS), okPi all (DD all) (KK X all) rest pl lm fm fd = true → Tra X call nt all F n0 rest pl h n ds hF nF dF →
    n0 + all.length ≤ 4294967296 → (∀ p ∈ rest, ¬ 3 ≤ (KK X all).getD p.1 0) → nF = n ∧ dF = ds ∧
        ∀ l, hp hF l ≠ .dead → hp hF l = hp h l ∨ ∃ k o v blk, l = n0 + k ∧ bit pl k = false ∧ (KK X all).getD k 0 = 2 ∧ all[k]? = some o ∧ gd all o F = some true ∧ hp hF l = blk ∧
          (∀ (R : Type) (h : Tr CB) (K : V → Tr CB → R) (bad : R), cl X F h (n0 + k) o.op K bad = K v (Tr.ins .dead blk 64 h (n0 + k)))
  | [], pl, lm, fm, fd, h, n, ds, hc, ⟨h1, h2, h3⟩, hb, hno => ⟨h2, h3, fun l _ => .inl (by rw [h1])⟩
  | (j, chk) :: r, pl, lm, fm, fd, h, n, ds, hc, ht, hb, hno => by
    obtain ⟨o, hh, hc'⟩ := okPi_cons hc
    obtain ⟨o', ho', hcase⟩ := ht
    rw [hh.get] at ho'; injection ho' with ho'; subst ho'
    have hjlt : j < all.length := (List.getElem?_eq_some_iff.1 hh.get).1
    have bjf : ∀ k, bit (Nat.lor pl (Nat.shiftLeft 1 j)) k = false → bit pl k = false := fun k hk => by rw [bit_or, Bool.or_eq_false_iff] at hk; exact hk.1
    have hnj : ¬ 3 ≤ (KK X all).getD j 0 := hno (j, chk) (by simp)
    have hkj := KK_get (X := X) hh.get
    rcases hcase with ⟨hg, v, h1, n1, ds1, hst, hdv, _, ht1⟩ | ⟨hg, hdv, _, ht1⟩
    · obtain ⟨a1, a2, a3⟩ := advance_end r _ _ _ _ h1 n1 ds1 hc' ht1 hb fun p hp => hno p (by simp [hp])
      rw [hkj] at hnj
      rcases Nat.lt_or_ge (kindC X o.op) 2 with hk2 | hk2
      · obtain ⟨_, e2, e3, e4⟩ := steps_quiet (by rw [effOp_kind]; exact hk2) hst
        subst e2; subst e3; subst e4
        refine ⟨a1, a2, fun l hl => ?_⟩
        rcases a3 l hl with h | ⟨k, ok, v, blk, c1, c3, c4, c5, c6, c7, c8⟩
        · exact .inl h
        · exact .inr ⟨k, ok, v, blk, c1, bjf k c3, c4, c5, c6, c7, c8⟩
      · have hk : kindC X o.op = 2 := by omega
        have hlt : Nat.blt (n0 + j) 4294967296 = true := bltT.2 (by omega)
        rw [effOp_not (early_kind (X := X) (by omega))] at hst
        obtain ⟨e3, e4, blk, _, e2, hall⟩ := steps_fresh hk hlt hst
        subst e2; subst e3; subst e4
        refine ⟨a1, a2, fun l hl => ?_⟩
        rcases a3 l hl with h2 | ⟨k, ok, v, blk, c1, c3, c4, c5, c6, c7, c8⟩
        · rw [hp_ins h (n0 + j) blk hlt] at h2
          by_cases el : l = n0 + j
          · simp only [if_pos el] at h2
            exact .inr ⟨j, o, v, blk, el, hh.new, by rw [hkj]; exact hk, hh.get, hg, h2, hall⟩
          · simp only [if_neg el] at h2
            exact .inl h2
        · exact .inr ⟨k, ok, v, blk, c1, bjf k c3, c4, c5, c6, c7, c8⟩
    · obtain ⟨a1, a2, a3⟩ := advance_end r _ _ _ _ h n ds hc' ht1 hb fun p hp => hno p (by simp [hp])
      refine ⟨a1, a2, fun l hl => ?_⟩
      rcases a3 l hl with h | ⟨k, ok, v, blk, c1, c3, c4, c5, c6, c7, c8⟩
      · exact .inl h
      · exact .inr ⟨k, ok, v, blk, c1, bjf k c3, c4, c5, c6, c7, c8⟩

section sig
variable {E0 : Env} {g0 : Nat → CB} {w0 : World} {hF : Tr CB} {nF : Nat} {dF : DS} {Dn : List Nat} {rest : List (Nat × List Nat)} {pl lm fm fd n : Nat} {ds : DS}

/-- the frame behind an operation -/
theorem frs_put {fs : Tr V} {i : Nat} {o : Oper} {b : Act} {v : V} {u : Value} (hnt : nt < 4294967296) (ho : all[i]? = some o) (hfr : FR X E (fn fs) b) (hsz : b.tmps.size = nt) (hag : ∀ t, (∀ i o, all[i]? = some o → i ∉ Dn → o.dst ≠ some t) → fs.get .top t = F.get .top t)
    (hea : Ear all F fs (fun i => i ∉ Dn)) (hDi : ∀ k, bit ((DD all).getD i 0) k = true → k ∈ Dn) (hv : VR X E v u) (hd : ∀ d, o.dst = some d → F.get .top d = v ∧ d < nt) :
    Frs X all F (i :: Dn) E (b.put o.dst u) ∧ (b.put o.dst u).tmps.size = nt ∧ (b.put o.dst u).defers = b.defers := by
  cases hdst : o.dst with
  | none =>
    refine ⟨⟨fs, hfr, fun t ht => hag t fun j oj hj hjD hjd => ?_, fun k ok t d hok hk => hea k ok t d hok fun h => hk (List.mem_cons_of_mem _ h)⟩, hsz, rfl⟩
    by_cases e : j = i
    · subst e; rw [ho] at hj; injection hj with hj; subst hj; rw [hdst] at hjd; cases hjd
    · exact ht j oj hj (by simp [e, hjD]) hjd
  | some d =>
    obtain ⟨h1, h2⟩ := hd d hdst
    refine ⟨⟨Tr.ins .top v 64 fs d, ?_, fun t ht => ?_, fun k ok t d' hok hk he hop hd' => ?_⟩, by simp [Act.put, hsz], by simp [Act.put]⟩
    · rw [fn_ins fs d v (bltT.2 (Nat.lt_trans h2 hnt))]
      exact hfr.put (by rw [hsz]; exact h2) hv
    · have hd32 : d < 4294967296 := Nat.lt_trans h2 hnt
      have hd64 : d + 2 ≤ 2 ^ 64 := Nat.le_trans (Nat.succ_le_succ hd32) (by decide)
      rw [Tr.get_ins .top v 64 fs d hd64]
      by_cases e : t = d
      · subst e; rw [if_pos rfl, h1]
      · rw [if_neg e]
        refine hag t fun j oj hj hjD hjd => ?_
        by_cases e2 : j = i
        · subst e2; rw [ho] at hj; injection hj with hj; subst hj; rw [hdst] at hjd; injection hjd with hjd; exact e hjd.symm
        · exact ht j oj hj (by simp [e2, hjD]) hjd
    · have hd32 : d < 4294967296 := Nat.lt_trans h2 hnt
      have hd64 : d + 2 ≤ 2 ^ 64 := Nat.le_trans (Nat.succ_le_succ hd32) (by decide)
      have hk2 : k ∉ Dn := fun h => hk (List.mem_cons_of_mem _ h)
      rw [Tr.get_ins .top v 64 fs d hd64, if_neg]
      · exact hea k ok t d' hok hk2 he hop hd'
      · intro e
        subst e
        obtain ⟨t', _, hop', _, _, hall⟩ := early_spec he
        rw [hop] at hop'; injection hop' with hop'; injection hop' with hop'; subst hop'
        exact hk2 (hDi k (hall i o ho hdst))

/-- AN OPERATION THAT COMES UP, IN WHATEVER ORDER -/
theorem SI.step (G : Good P X) (C : GoodC P X) (hcall : CallOk P X call) (hnt : nt < 4294967296) (hb : n0 + all.length ≤ 4294967296) (hSL : ∀ i o, all[i]? = some o → early (DD all) all i o = false → ∀ j p d, all[j]? = some p → p.dst = some d → d ∈ looksC all o → bit ((DD all).getD i 0) j = true)
    (S : SI X call nt all n0 F E0 g0 w0 hF nF dF Dn E g a w rest pl lm fm fd h n ds) {i : Nat} {o : Oper} (ho : all[i]? = some o) (hi : i ∉ Dn) (haft : ∀ d ∈ aft o, d ∈ Dn) {K : Act → World → Prop} {Q : Exit → Act → World → Prop}
    (hK : ∀ E' g' a' w' rest' pl' lm' fm' fd' h' n' ds', SI X call nt all n0 F E0 g0 w0 hF nF dF (i :: Dn) E' g' a' w' rest' pl' lm' fm' fd' h' n' ds' → K a' w') :
    if Region.wanted o (yielded all.toArray a.tmps) then o.wp P a w K Q else K (a.put o.dst undef) w := by
  have hilt : i < all.length := (List.getElem?_eq_some_iff.1 ho).1
  have hDi : ∀ k, bit ((DD all).getD i 0) k = true → k ∈ Dn := downs_in S.cls i o ho haft
  have hkk := KK_get (X := X) ho
  obtain ⟨fs, hfs, hag, hea⟩ := S.frs
  -- the operation's slots are what they are at the end
  have own : early (DD all) all i o = false → ∀ t ∈ looksC all o, fs.get .top t = F.get .top t := fun he t ht => hag t fun j oj hj hjD hjd => hjD (hDi j (hSL i o ho he j oj t hj hjd ht))
  have gdE : gd all o fs = gd all o F := by
    cases he : early (DD all) all i o with
    | false => exact gd_congr (own he)
    | true => rw [gd_early he, gd_early he]
  have hgd : ∀ {b : Bool}, gd all o F = some b → Region.wanted o (yielded all.toArray a.tmps) = b := fun hb => gd_sound (by rw [gdE]; exact hb) hfs
  have cls' : ∀ j ∈ i :: Dn, ∀ oj, all[j]? = some oj → ∀ d ∈ aft oj, d ∈ i :: Dn := by
    intro j hj oj hoj d hd
    rcases List.mem_cons.1 hj with rfl | hj
    · rw [ho] at hoj; injection hoj with hoj; subst hoj; exact List.mem_cons_of_mem _ (haft d hd)
    · exact List.mem_cons_of_mem _ (S.cls j hj oj hoj d hd)
  have notin : ∀ {j}, j ∉ i :: Dn → j ≠ i ∧ j ∉ Dn := fun hj => by simpa using hj
  -- nothing but the slot turns, the place in the one order stays
  have stay : ∀ {b : Act} {v : V} {u : Value}, ¬ 3 ≤ kindC X o.op → (kindC X o.op = 2 → gd all o F ≠ some true) → b.tmps = a.tmps → b.defers = a.defers → VR X E v u → (∀ d, o.dst = some d → F.get .top d = v ∧ d < nt) → K (b.put o.dst u) w := by
    intro b v u hk3 hk2 hbt hbd hv hd
    obtain ⟨p1, p2, p3⟩ := frs_put (b := b) hnt ho (fun t => by have := hfs t; rw [hbt]; exact this) (by rw [hbt]; exact S.sz) hag hea hDi hv hd
    refine hK E g _ w rest pl lm fm fd h n ds { S with cls := cls', loud := fun j hj h3 => ?_, fin := fun k hk => List.mem_cons_of_mem _ (S.fin k hk), fdn := fun k hk => List.mem_cons_of_mem _ (S.fdn k hk), rd := fun j h1 h2 h3 => S.rd j h1 h2 (notin h3).2, pend := fun j h1 h2 h3 => S.pend j h1 h2 (notin h3).2, g3 := fun j hj h1 h2 oj hoj hg => ?_, fe := fun j hj hn => S.fe j hj (notin hn).2, frs := p1, sz := p2, df := by rw [p3, hbd]; exact S.df }
    · rw [List.mem_cons]
      have : j ≠ i := fun e => by subst e; rw [hkk] at h3; exact hk3 h3
      rw [← S.loud j hj h3]
      exact ⟨fun h => h.resolve_left this, .inr⟩
    · rcases List.mem_cons.1 hj with rfl | hj
      · rw [ho] at hoj; injection hoj with hoj; subst hoj
        rw [hkk] at h2; exact absurd hg (hk2 h2)
      · exact S.g3 j hj h1 h2 oj hoj hg
  -- it computes or reads, in a part of memory
  have quiet : ∀ {hq : Tr CB} {v : V}, gd all o F = some true → kindC X o.op < 2 → (∀ l, hp hq l ≠ .dead → hp hq l = g l) → cq X F hq (effOp (DD all) all i o) = some v → (∀ d, o.dst = some d → F.get .top d = v ∧ d < nt) → o.wp P a w K Q := by
    intro hq v hg hk2 hpart hv hd
    have hv' : cq X fs hq o.op = some v := by
      cases he : early (DD all) all i o with
      | false => rw [effOp_not he] at hv; rw [cq_congr hq (fun t ht => own he t (looks_op t ht))]; exact hv
      | true =>
        obtain ⟨t, d, hop, _, hdd, _⟩ := early_spec he
        rw [hop]
        show some (fs.get .top t) = some v
        rw [← hea i o t d ho hi he hop hdd, (hd d hdd).1]
    obtain ⟨u, hrun, hvu⟩ := cq_sound (fr := fs) (a := a) G C hv' hfs (S.ch.part hpart)
    unfold Oper.wp
    rw [hrun]
    exact stay (by omega) (by omega) rfl rfl hvu hd
  have skip : gd all o F = some false → ¬ 3 ≤ kindC X o.op → (∀ d, o.dst = some d → F.get .top d = .tup [] ∧ d < nt) → if Region.wanted o (yielded all.toArray a.tmps) then o.wp P a w K Q else K (a.put o.dst undef) w := by
    intro hg hk hd
    rw [hgd hg, if_neg (by simp)]
    exact stay hk (fun _ h => by rw [hg] at h; cases h) rfl rfl (vr_tup_mk (ds := #[]) VRs.nil) hd
  by_cases hpi : bit pl i = true
  · -- the one order has been here
    have hk2 : kindC X o.op < 2 := by
      rcases Nat.lt_or_ge (kindC X o.op) 2 with h | h
      · exact h
      · exfalso
        rcases Nat.lt_or_ge (kindC X o.op) 3 with h3 | h3
        · exact hi (S.fin i (S.fmB i hpi (by rw [hkk]; omega)))
        · exact hi ((S.loud i hilt (by rw [hkk]; exact h3)).2 hpi)
    rcases S.pend i hpi (by rw [hkk]; exact hk2) hi o ho with ⟨hg, hx, v, hv, hd⟩ | ⟨hg, hd⟩
    · rw [hgd hg, if_pos rfl]
      rcases Nat.lt_or_ge (kindC X o.op) 1 with h0 | h1
      · exact quiet (hq := h) hg hk2 S.g1 (by rw [cq_pure (by rw [effOp_kind]; omega) h hx]; exact hv) hd
      · obtain ⟨v', hv', hd'⟩ := S.rd i hpi (by rw [hkk]; omega) hi o ho hg
        exact quiet (hq := h) hg hk2 S.g1 (by rw [effOp_not (early_kind (X := X) (by omega))]; exact hv') fun d hdd => ⟨hd' d hdd, (hd d hdd).2⟩
    · exact skip hg (by omega) hd
  · have hpi : bit pl i = false := by simpa using hpi
    have hin : ∃ chk, (i, chk) ∈ rest := (okPi_all rest _ _ _ _ S.ok i hilt).resolve_left (by rw [hpi]; simp)
    obtain ⟨chk, r, pl', lm', fm', fd', h', n', ds', q1, q2, q3, q4, q5, q6, q7, q9, q8⟩ := advance rest _ _ _ _ h n ds i S.ok S.tra hb hpi hin
    obtain ⟨o1, hh, hc'⟩ := okPi_cons q1
    have e1 : o1 = o := Option.some.inj (hh.get.symm.trans ho)
    subst e1
    obtain ⟨o2, ho2, hcase⟩ := q2
    have e2 : o2 = o1 := Option.some.inj (ho2.symm.trans ho)
    subst e2
    have hpi' : bit pl' i = false := hh.new
    have plf : ∀ j, bit pl' j = false → bit pl j = false := by
      intro j hj
      cases hq : bit pl j with
      | false => rfl
      | true => rw [q3 j hq] at hj; cases hj
    -- between: nothing writes, where the operation reads or writes
    have noloud : (kindC X o2.op = 1 ∨ 3 ≤ kindC X o2.op) → ∀ k, bit pl' k = true → bit pl k = false → ¬ 3 ≤ (KK X all).getD k 0 := by
      intro hk k k1 k2 k3
      have hkl : k < all.length := (q7 k k1).resolve_right (by rw [k2]; simp)
      have hrd := (hh.rd (by rw [hkk]; exact hk)).1 k ((q6 k k1 k2).1 k3)
      have := (S.loud k hkl k3).1 (hDi k hrd)
      rw [k2] at this; cases this
    have freshIn : (kindC X o2.op = 1 ∨ 3 ≤ kindC X o2.op) → ∀ k, bit fm' k = true → k ∈ Dn := by
      intro hk k hkf
      obtain ⟨_, _, _, a4, _, _⟩ := q8 (noloud hk)
      rcases (hh.rd (by rw [hkk]; exact hk)).2 k hkf with h | h
      · exact hDi k h
      · rw [a4] at h; exact S.fdn k h
    have part' : (kindC X o2.op = 1 ∨ 3 ≤ kindC X o2.op) → ∀ l, hp h' l ≠ .dead → hp h' l = g l := by
      intro hk l hl
      obtain ⟨_, _, _, _, _, a6⟩ := q8 (noloud hk)
      rcases a6 l hl with h1 | ⟨k, ok, v, blk, c1, c2, c3, c4, c5, c6, c7, c8⟩
      · rw [h1]; exact S.g1 l (by rw [← h1]; exact hl)
      · rw [c7, c1]; exact (S.g3 k (freshIn hk k ((q6 k c2 c3).2 c4)) c3 c4 ok c5 c6 v blk c8).symm
    have dead' : (kindC X o2.op = 1 ∨ 3 ≤ kindC X o2.op) → ∀ j, j < all.length → bit pl' j = false → hp h' (n0 + j) = .dead := by
      intro hk j hj hjb
      by_cases hne : hp h' (n0 + j) = .dead
      · exact hne
      · exfalso
        obtain ⟨_, _, _, _, _, a6⟩ := q8 (noloud hk)
        rcases a6 _ hne with h1 | ⟨k, ok, v, blk, c1, c2, c3, c4, c5, c6, c7, c8⟩
        · rw [h1] at hne; exact hne (S.dd j hj (plf j hjb))
        · have : k = j := by omega
          subst this; rw [c2] at hjb; cases hjb
    have fresh' : (kindC X o2.op = 1 ∨ 3 ≤ kindC X o2.op) → Fresh n E (hp h') := by
      intro hk l hl
      refine ⟨(S.fresh l hl).1, ?_⟩
      by_cases hne : hp h' l = .dead
      · exact hne
      · exfalso
        obtain ⟨_, _, _, _, _, a6⟩ := q8 (noloud hk)
        rcases a6 _ hne with h1 | ⟨k, ok, v, blk, c1, c2, c3, c4, c5, c6, c7, c8⟩
        · rw [h1] at hne; exact hne (S.fresh l hl).2
        · have := (List.getElem?_eq_some_iff.1 c5).1
          have := S.nn
          omega
    -- it makes or writes
    have exec : 2 ≤ kindC X o2.op → ∀ {hq : Tr CB} {v : V} {h1 : Tr CB} {n1 : Nat} {ds1 : DS}, (∀ l, hp hq l ≠ .dead → hp hq l = g l) → Fresh n E (hp hq) → hp hq (n0 + i) = .dead → Steps1 X call F hq (n0 + i) n n ds o2.op v h1 n1 ds1 → (∀ d, o2.dst = some d → F.get .top d = v ∧ d < nt) →
        (∀ E' g' a' w', CH X E' g' w' → (∀ l, hp h1 l ≠ .dead → hp h1 l = g' l) → (∀ l, hp hq l = .dead → l ≠ n0 + i → l < n → g' l = g l) → Fresh n1 E' (hp h1) → n ≤ n1 →
          Frs X all F (i :: Dn) E' a' → a'.tmps.size = nt → DR X E' ds1 a'.defers → CX (· < n0) E0 g0 w0 E' g' w' →
          (∀ l, l ≠ n0 + i → l < n → E.io l = none → E'.io l = none) → (∀ l, l ≠ n0 + i → l < n → hp hq l = .dead → hp h1 l = .dead) → K a' w') → o2.wp P a w K Q := by
      intro hk2 hq v h1 n1 ds1 hpart hfr hdq hst hd hcont
      have own := own (early_kind (X := X) (by omega))
      have hst0 : St X nt E fs hq n ds a w := ⟨hfs, S.ch.part hpart, hfr, S.sz, S.df⟩
      have hfree := S.fe i hilt hi
      have hst' := hst Ro (fun v h n ds => .ok .nrm (.nd .lf v .lf) h n ds) .bad
      rw [← stepC_congr (fr := fs) hq (n0 + i) n n ds (fun t ht => own t (looks_op t ht))] at hst'
      rcases stepC_sound (n' := n) G C hcall hst0 hfree hdq (fun m hm => ⟨hm, by have := S.nn; omega⟩) (Nat.le_refl n) (fun v h n ds => .ok .nrm (.nd .lf v .lf) h n ds) .bad with ⟨s, hb⟩ | ⟨v', h1', n1', ds1', hk, hle, hwp⟩
      · rw [hst'] at hb; cases hb
      · rw [hst'] at hk
        injection hk with _ k1 k2 k3 k4
        injection k1 with _ k1 _
        subst k1; subst k2; subst k3; subst k4
        refine hwp K Q fun E' u b w' hv hbt hsb hcx => ?_
        obtain ⟨m1, m2⟩ := S.ch.merge hpart hsb.ch hcx
        obtain ⟨p1, p2, p3⟩ := frs_put (b := b) hnt ho hsb.fr hsb.size hag hea hDi hv hd
        have ionone : ∀ l, g l ≠ .dead → l ≠ n0 + i ∧ l < n := by
          intro l hl
          obtain ⟨p, hp', _⟩ := S.ch.blk l hl
          refine ⟨fun e => (by subst e; rw [hfree] at hp'; cases hp'), ?_⟩
          rcases Nat.lt_or_ge l n with h | h
          · exact h
          · rw [(hfr l h).1] at hp'; cases hp'
        refine hcont E' _ _ w' m1 (fun l hl => ?_) (fun l h1 h2 h3 => ?_) hsb.fresh hle p1 p2 (by rw [p3]; exact hsb.df) (S.cx.trans (m2.mono fun l hl => ⟨?_, ?_⟩)) (fun l h1 h2 h3 => hcx.free l ⟨h1, h2⟩ h3) (fun l h1 h2 h3 => hcx.dead l ⟨h1, h2⟩ h3)
        · by_cases hc : hp hq l = .dead ∧ g l ≠ .dead
          · exact absurd (hcx.dead l (ionone l hc.2) hc.1) hl
          · rw [if_neg hc]
        · by_cases hc : g l = .dead
          · rw [if_neg (fun h => h.2 hc), hc]
            exact hcx.dead l ⟨h2, h3⟩ h1
          · rw [if_pos ⟨h1, hc⟩]
        · have hl' : l < n0 := hl; omega
        · have := S.nn; have hl' : l < n0 := hl; omega
    -- the one order moves behind the operation
    have moved : 3 ≤ kindC X o2.op → ∀ {h1 : Tr CB} {n1 : Nat} {ds1 : DS} {E' : Env} {g' : Nat → CB} {a' : Act} {w' : World}, Tra X call nt all F n0 r (Nat.lor pl' (Nat.shiftLeft 1 i)) h1 n1 ds1 hF nF dF →
        (∀ j, (KK X all).getD j 0 = 1 → bit pl' j = true → j ∉ Dn → Rd X all F h1 j) → CH X E' g' w' → (∀ l, hp h1 l ≠ .dead → hp h1 l = g' l) → (∀ l, hp h' l = .dead → l ≠ n0 + i → l < n → g' l = g l) → Fresh n1 E' (hp h1) → n ≤ n1 →
          Frs X all F (i :: Dn) E' a' → a'.tmps.size = nt → DR X E' ds1 a'.defers → CX (· < n0) E0 g0 w0 E' g' w' →
          (∀ l, l ≠ n0 + i → l < n → E.io l = none → E'.io l = none) → (∀ l, l ≠ n0 + i → l < n → hp h' l = .dead → hp h1 l = .dead) → K a' w' := by
      intro hk3 h1 n1 ds1 E' g' a' w' ht1 hrd1 m1 m2 m3 m4 m5 m6 m7 m8 m9 m10 m11
      have hk : kindC X o2.op = 1 ∨ 3 ≤ kindC X o2.op := .inr hk3
      have hki : 3 ≤ (KK X all).getD i 0 := by rw [hkk]; exact hk3
      obtain ⟨a1, a2, a3, a4, a5, a6⟩ := q8 (noloud hk)
      have bi : ∀ k, bit (Nat.lor pl' (Nat.shiftLeft 1 i)) k = true ↔ bit pl' k = true ∨ k = i := fun k => by rw [bit_or, Bool.or_eq_true, bit_one, decide_eq_true_eq]
      have bitF : ∀ k, bit (Nat.lor pl' (Nat.shiftLeft 1 i)) k = false ↔ bit pl' k = false ∧ k ≠ i := fun k => by rw [bit_or, Bool.or_eq_false_iff, bit_one, decide_eq_false_iff_not]
      have old : ∀ j, 3 ≤ (KK X all).getD j 0 → bit pl' j = true → bit pl j = true := by
        intro j h3 hj
        cases hq : bit pl j with
        | true => rfl
        | false => exact absurd h3 (noloud hk j hj hq)
      refine hK E' g' a' w' r _ _ _ _ h1 n1 ds1 ⟨hc', ht1, cls', fun j hj h3 => ?_, fun j hj h3 => ?_, fun j hj h2 => ?_, fun k hkf => ?_, fun k hkf => ?_, fun j hj h1 h2 => ?_, fun j hj h1 h2 => ?_, m1, m2, fun j hj hjb h2 oj hoj hg v blk hall => ?_, fun j hj hjb => ?_, fun j hj hjn => ?_, m4, ?_, m6, m7, m8, m9⟩
      · rw [List.mem_cons, bi]
        constructor
        · rintro (rfl | h)
          · exact .inr rfl
          · exact .inl (q3 j ((S.loud j hj h3).1 h))
        · rintro (h | rfl)
          · exact .inr ((S.loud j hj h3).2 (old j h3 h))
          · exact .inl rfl
      · unfold nextL
        rw [if_pos hki, bit_or, Bool.or_eq_true, bit_one, decide_eq_true_eq]
        rcases (bi j).1 hj with h | h
        · exact .inl (q4 j (S.lmB j (old j h3 h) h3))
        · exact .inr h
      · unfold nextF
        rw [if_neg (by omega)]
        rcases (bi j).1 hj with h | rfl
        · cases hq : bit pl j with
          | true => exact q5 j (S.fmB j hq h2)
          | false => exact (q6 j h hq).2 h2
        · omega
      · unfold nextF at hkf
        rw [if_neg (by omega)] at hkf
        exact List.mem_cons_of_mem _ (freshIn hk k hkf)
      · unfold nextD at hkf
        rw [if_pos hki, bit_or, Bool.or_eq_true] at hkf
        rcases hkf with h | h
        · rw [a4] at h; exact List.mem_cons_of_mem _ (S.fdn k h)
        · exact List.mem_cons_of_mem _ (hDi k h)
      · rcases (bi j).1 hj with h | rfl
        · exact hrd1 j h1 h (notin h2).2
        · omega
      · rcases (bi j).1 hj with h | rfl
        · cases hq : bit pl j with
          | true => exact S.pend j hq h1 (notin h2).2
          | false => exact q9 j h hq h1
        · omega
      · obtain ⟨b1, b2⟩ := (bitF j).1 hjb
        have hjl := (List.getElem?_eq_some_iff.1 hoj).1
        have := S.nn
        rw [m3 (n0 + j) (dead' hk j hjl b1) (by omega) (by omega)]
        exact S.g3 j ((List.mem_cons.1 hj).resolve_left b2) (plf j b1) h2 oj hoj hg v blk hall
      · obtain ⟨b1, b2⟩ := (bitF j).1 hjb
        have := S.nn
        exact m11 (n0 + j) (by omega) (by omega) (dead' hk j hj b1)
      · obtain ⟨b1, b2⟩ := notin hjn
        have := S.nn
        exact m10 (n0 + j) (by omega) (by omega) (S.fe j hj b2)
      · have := S.nn; omega
    rcases hcase with ⟨hg, v, h1, n1, ds1, hst, hdv, hrd, ht1⟩ | ⟨hg, hdv, hrd, ht1⟩
    · rw [hgd hg, if_pos rfl]
      rcases Nat.lt_or_ge (kindC X o2.op) 2 with hk2 | hk2
      · obtain ⟨hv, _, _, _⟩ := steps_quiet (by rw [effOp_kind]; exact hk2) hst
        rcases Nat.lt_or_ge (kindC X o2.op) 1 with h0 | h1'
        · exact quiet (hq := h) hg hk2 S.g1 (by rw [cq_pure (by rw [effOp_kind]; omega) h h']; exact hv) hdv
        · exact quiet (hq := h') hg hk2 (part' (.inl (by omega))) hv hdv
      · rw [effOp_not (early_kind (X := X) (by omega))] at hst
        rcases Nat.lt_or_ge (kindC X o2.op) 3 with hk3 | hk3
        · -- it makes
          have hk : kindC X o2.op = 2 := by omega
          have hlt : Nat.blt (n0 + i) 4294967296 = true := bltT.2 (by omega)
          obtain ⟨_, _, blk, hne, _, hall⟩ := steps_fresh hk hlt hst
          obtain ⟨kq1, kq2⟩ := kind_fresh (X := X) (fr := F) hk h
          have hsth : Steps1 X call F h (n0 + i) n n ds o2.op v (Tr.ins .dead blk 64 h (n0 + i)) n ds := fun R K bad => by
            unfold stepC
            rw [kq1]
            simp only [kq2, hlt, hall]
          have hdi := S.dd i hilt hpi
          refine exec hk2 S.g1 S.fresh hdi hsth hdv fun E' g' a' w' m1 m2 m3 m4 m5 m6 m7 m8 m9 m10 m11 => ?_
          rw [hp_ins h (n0 + i) blk hlt] at m2
          refine hK E' g' a' w' rest pl lm fm fd h n ds { S with cls := cls', loud := fun j hj h3 => ?_, fin := fun k hk => List.mem_cons_of_mem _ (S.fin k hk), fdn := fun k hk => List.mem_cons_of_mem _ (S.fdn k hk), rd := fun j h1 h2 h3 => S.rd j h1 h2 (notin h3).2, pend := fun j h1 h2 h3 => S.pend j h1 h2 (notin h3).2, ch := m1, g1 := fun l hl => ?_, g3 := fun j hj h1 h2 oj hoj hg v2 blk2 hall2 => ?_, fe := fun j hj hn => ?_, fresh := fun l hl => ⟨(m4 l hl).1, (S.fresh l hl).2⟩, frs := m6, sz := m7, df := m8, cx := m9 }
          · rw [List.mem_cons]
            have : j ≠ i := fun e => by subst e; rw [hkk] at h3; omega
            rw [← S.loud j hj h3]
            exact ⟨fun h => h.resolve_left this, .inr⟩
          · have hl2 : l ≠ n0 + i := fun e => by subst e; exact hl hdi
            have := m2 l (by simp only [if_neg hl2]; exact hl)
            simpa only [if_neg hl2] using this
          · rcases List.mem_cons.1 hj with rfl | hj2
            · rw [ho] at hoj; injection hoj with hoj; subst hoj
              have e1 := hall CB .lf (fun _ h => hp h (n0 + j)) .dead
              rw [hall2] at e1
              rw [hp_ins _ _ _ hlt, hp_ins _ _ _ hlt] at e1
              simp only [if_true] at e1
              have := m2 (n0 + j) (by simp only [if_true]; exact hne)
              simp only [if_true] at this
              rw [← this, e1]
            · have hjl := (List.getElem?_eq_some_iff.1 hoj).1
              have hji : j ≠ i := fun e => hi (e ▸ hj2)
              have := S.nn
              rw [m3 (n0 + j) (S.dd j hjl h1) (by omega) (by omega)]
              exact S.g3 j hj2 h1 h2 oj hoj hg v2 blk2 hall2
          · obtain ⟨b1, b2⟩ := notin hn
            have := S.nn
            exact m10 (n0 + j) (by omega) (by omega) (S.fe j hj b2)
        · -- it writes or calls
          have hk : kindC X o2.op = 1 ∨ 3 ≤ kindC X o2.op := .inr hk3
          obtain ⟨a1, a2, a3, a4, a5, a6⟩ := q8 (noloud hk)
          subst a1; subst a2
          refine exec hk2 (part' hk) (fresh' hk) (dead' hk i hilt hpi') hst hdv fun E' g' a' w' m1 m2 m3 m4 m5 m6 m7 m8 m9 m10 m11 => ?_
          refine moved hk3 ht1 (fun j j1 j2 j3 => hrd (by rw [hkk]; exact hk3) j j1 j2 ?_) m1 m2 m3 m4 m5 m6 m7 m8 m9 m10 m11
          cases hq : bit ((DD all).getD i 0) j with
          | false => rfl
          | true => exact absurd (hDi j hq) j3
    · rcases Nat.lt_or_ge (kindC X o2.op) 3 with hk3 | hk3
      · exact skip hg (by omega) hdv
      · have hk : kindC X o2.op = 1 ∨ 3 ≤ kindC X o2.op := .inr hk3
        obtain ⟨a1, a2, a3, a4, a5, a6⟩ := q8 (noloud hk)
        subst a1; subst a2
        rw [hgd hg, if_neg (by simp)]
        obtain ⟨p1, p2, p3⟩ := frs_put (b := a) (u := undef) hnt ho hfs S.sz hag hea hDi (vr_tup_mk (ds := #[]) VRs.nil) hdv
        refine moved hk3 ht1 (fun j j1 j2 j3 => hrd (by rw [hkk]; exact hk3) j j1 j2 ?_) S.ch (part' hk) (fun _ _ _ _ => rfl) (fresh' hk) (Nat.le_refl _) p1 p2 (by rw [p3]; exact S.df) S.cx (fun _ _ _ h => h) (fun _ _ _ h => h)
        cases hq : bit ((DD all).getD i 0) j with
        | false => rfl
        | true => exact absurd (hDi j hq) j3

theorem nodup_lt : ∀ (m : Nat) (l : List Nat), l.Nodup → (∀ x ∈ l, x < m) → l.length ≤ m
  | 0, l, _, h => by
    cases l with
    | nil => simp
    | cons a r => have := h a (by simp); omega
  | m + 1, l, hn, h => by
    have h1 := nodup_lt m (l.erase m) (hn.erase m) fun x hx => by
      have hx1 := List.mem_of_mem_erase hx
      have hx2 : x ≠ m := fun e => by subst e; exact (List.Nodup.not_mem_erase hn) hx
      have := h x hx1
      omega
    rw [List.length_erase] at h1
    split at h1 <;> omega

/-- WHATEVER THE ORDER -/
theorem SI.whole (G : Good P X) (C : GoodC P X) (hcall : CallOk P X call) (hnt : nt < 4294967296) (hb : n0 + all.length ≤ 4294967296) (hlt : ∀ i o, all[i]? = some o → ∀ d ∈ aft o, d < i) (hSL : ∀ i o, all[i]? = some o → early (DD all) all i o = false → ∀ j p d, all[j]? = some p → p.dst = some d → d ∈ looksC all o → bit ((DD all).getD i 0) j = true)
    {Q : Exit → Act → World → Prop} (hQ : ∀ E' a' w', St X nt E' F hF nF dF a' w' → CX (· < n0) E0 g0 w0 E' (hp hF) w' → n0 ≤ nF → Q .normal a' w') :
    ∀ (m : Nat) (Dn : List Nat) (E : Env) (g : Nat → CB) (a : Act) (w : World) (rest : List (Nat × List Nat)) (pl lm fm fd : Nat) (h : Tr CB) (n : Nat) (ds : DS) (listed : Array Bool), SI X call nt all n0 F E0 g0 w0 hF nF dF Dn E g a w rest pl lm fm fd h n ds →
      Dn.Nodup → (∀ i ∈ Dn, i < all.length) → Dn.length + m = all.length → listed.size = all.length → (∀ j, listed.getD j false = true ↔ j ∈ Dn) → wpAny P .any all.toArray Q m listed a w := by
  have ready : ∀ (D : List Nat) (listed : Array Bool), listed.size = all.length → (∀ j, listed.getD j false = true ↔ j ∈ D) → ∀ j, j ∈ Region.ready .any all.toArray listed ↔ rdy all D j := by
    intro D listed hs hD j
    rw [mem_ready]
    unfold rdy
    constructor
    · rintro ⟨h1, o, ho, h2⟩
      have ho' : all[j]? = some o := by simpa using ho
      have hlt := (List.getElem?_eq_some_iff.1 ho').1
      refine ⟨fun hj => ?_, o, ho', fun d hd => ?_⟩
      · have := (hD j).2 hj
        simp [hs, hlt] at h1 this
        rw [this] at h1; cases h1
      · obtain ⟨e, he, hb, rfl⟩ := mem_aft.1 hd
        exact (hD _).1 (h2 e he hb)
    · rintro ⟨h1, o, ho, h2⟩
      have hlt := (List.getElem?_eq_some_iff.1 ho).1
      refine ⟨?_, o, by simpa using ho, fun e he hb => (hD _).2 (h2 _ (mem_aft.2 ⟨e, he, hb, rfl⟩))⟩
      cases hc : listed.getD j true with
      | false => rfl
      | true =>
        exfalso
        refine h1 ((hD j).1 ?_)
        simp [hs, hlt] at hc ⊢
        exact hc
  -- all are done
  have fin : ∀ {Dn E g a w rest pl lm fm fd h n ds}, SI X call nt all n0 F E0 g0 w0 hF nF dF Dn E g a w rest pl lm fm fd h n ds → (∀ i, i < all.length → i ∈ Dn) → Q .normal a w := by
    intro Dn E g a w rest pl lm fm fd h n ds S hall
    have hno : ∀ p ∈ rest, ¬ 3 ≤ (KK X all).getD p.1 0 := by
      intro p hp h3
      have hlt : p.1 < all.length := by
        rcases Nat.lt_or_ge p.1 all.length with h | h
        · exact h
        · have e : (KK X all)[p.1]? = none := List.getElem?_eq_none (by simpa using h)
          rw [List.getD_eq_getElem?_getD, e] at h3; simp at h3
      have := (S.loud p.1 hlt h3).1 (hall p.1 hlt)
      rw [okPi_later rest _ _ _ _ S.ok p hp] at this; cases this
    obtain ⟨a1, a2, a3⟩ := advance_end rest _ _ _ _ h n ds S.ok S.tra hb hno
    subst a1; subst a2
    have hpart : ∀ l, hp hF l ≠ .dead → hp hF l = g l := by
      intro l hl
      rcases a3 l hl with h1 | ⟨k, ok, v, blk, c1, c3, c4, c5, c6, c7, c8⟩
      · rw [h1]; exact S.g1 l (by rw [← h1]; exact hl)
      · rw [c7, c1]; exact (S.g3 k (hall k (List.getElem?_eq_some_iff.1 c5).1) c3 c4 ok c5 c6 v blk c8).symm
    obtain ⟨fs, hfs, hag, _⟩ := S.frs
    have hfsF : fn fs = fn F := by
      funext t
      exact hag t fun i o ho hi => absurd (hall i (List.getElem?_eq_some_iff.1 ho).1) hi
    refine hQ E a w ⟨by rw [← hfsF]; exact hfs, S.ch.part hpart, fun l hl => ⟨(S.fresh l hl).1, ?_⟩, S.sz, S.df⟩ ?_ (by have := S.nn; omega)
    · by_cases hne : hp hF l = .dead
      · exact hne
      · exfalso
        rcases a3 l hne with h1 | ⟨k, ok, v, blk, c1, c3, c4, c5, c6, c7, c8⟩
        · rw [h1] at hne; exact hne (S.fresh l hl).2
        · have := (List.getElem?_eq_some_iff.1 c5).1
          have := S.nn
          omega
    · have hx := S.cx
      refine ⟨hx.io, hx.free, fun l hl hd => ?_, fun b ⟨l, sh, wd, tot, h1, h2⟩ => hx.own b ⟨l, sh, wd, tot, by rw [← hpart l h1]; exact h1, h2⟩, hx.size, hx.frame, hx.os, hx.tape, hx.output⟩
      by_cases hne : hp hF l = .dead
      · exact hne
      · have := hpart l hne
        rw [hx.dead l hl hd] at this; exact this
  intro m
  induction m with
  | zero =>
    intro Dn E g a w rest pl lm fm fd h n ds listed S hnd hlt2 hlen hs hD
    have hall : ∀ i, i < all.length → i ∈ Dn := by
      intro i hi
      by_cases hin : i ∈ Dn
      · exact hin
      · exfalso
        have := nodup_lt all.length (i :: Dn) (List.nodup_cons.2 ⟨hin, hnd⟩) fun x hx => by
          rcases List.mem_cons.1 hx with rfl | hx
          · exact hi
          · exact hlt2 x hx
        simp at this; omega
    refine ⟨List.eq_nil_iff_forall_not_mem.2 fun j hj => ?_, fin S hall⟩
    obtain ⟨h1, o, h2, _⟩ := (ready Dn listed hs hD j).1 hj
    exact h1 (hall j (List.getElem?_eq_some_iff.1 h2).1)
  | succ m ih =>
    intro Dn E g a w rest pl lm fm fd h n ds listed S hnd hlt2 hlen hs hD
    refine ⟨fun h0 => fin S (no_ready (fun i hi => ?_) hlt), fun i hi => ?_⟩
    · have := (ready Dn listed hs hD i).2 hi
      rw [h0] at this; cases this
    · obtain ⟨hiD, o, ho, hd⟩ := (ready Dn listed hs hD i).1 hi
      have hil := (List.getElem?_eq_some_iff.1 ho).1
      have nxt : ∀ E' g' a' w' rest' pl' lm' fm' fd' h' n' ds', SI X call nt all n0 F E0 g0 w0 hF nF dF (i :: Dn) E' g' a' w' rest' pl' lm' fm' fd' h' n' ds' → wpAny P .any all.toArray Q m (listed.setIfInBounds i true) a' w' := by
        intro E' g' a' w' rest' pl' lm' fm' fd' h' n' ds' S'
        refine ih (i :: Dn) E' g' a' w' rest' pl' lm' fm' fd' h' n' ds' _ S' (List.nodup_cons.2 ⟨hiD, hnd⟩) (fun x hx => ?_) (by simp; omega) (by simp [hs]) fun j => ?_
        · rcases List.mem_cons.1 hx with rfl | hx
          · exact hil
          · exact hlt2 x hx
        · rw [List.mem_cons]
          by_cases e : i = j
          · subst e; simp [hs, hil]
          · have : (listed.setIfInBounds i true).getD j false = listed.getD j false := by
              simp only [Array.getD_eq_getD_getElem?, Array.getElem?_setIfInBounds]
              rw [if_neg e]
            rw [this, hD j]
            exact ⟨.inr, fun h => h.resolve_left (Ne.symm e)⟩
      unfold wpOp
      have ho' : all.toArray[i]? = some o := by simpa using ho
      simp only [ho']
      have := S.step (K := wpAny P .any all.toArray Q m (listed.setIfInBounds i true)) (Q := Q) G C hcall hnt hb hSL ho hiD hd nxt
      split
      · rename_i hw
        rw [if_pos hw] at this
        exact .inl this
      · rename_i hw
        rw [if_neg hw] at this
        exact this

/-- every operation of a checked region has its slots in order -/
theorem okPi_slots : ∀ (r : List (Nat × List Nat)) (pl lm fm fd : Nat), okPi all (DD all) (KK X all) r pl lm fm fd = true → ∀ i, (∃ chk, (i, chk) ∈ r) → ∀ o, all[i]? = some o → early (DD all) all i o = false → ∀ j p d, all[j]? = some p → p.dst = some d → d ∈ looksC all o → bit ((DD all).getD i 0) j = true
  | [], _, _, _, _, _, i, ⟨chk, h⟩, _, _ => by simp at h
  | (k, chk) :: r, pl, lm, fm, fd, hc, i, ⟨chk', hm⟩, o, ho => by
    obtain ⟨o', hh, hc'⟩ := okPi_cons hc
    rcases List.mem_cons.1 hm with hm | hm
    · injection hm with h1 h2
      subst h1
      have : o' = o := Option.some.inj (hh.get.symm.trans ho)
      subst this
      exact hh.slots
    · exact okPi_slots r _ _ _ _ hc' i ⟨chk', hm⟩ o ho

/-- A REGION -/
theorem regC_sound (G : Good P X) (C : GoodC P X) (hm : P.follows .mixedOrders = true) (hcall : CallOk P X call) (hnt : nt < 4294967296) {id : Nat} {ops : Array Oper} {draw : Bool} {fr : Tr V} {h : Tr CB} {n : Nat} {ds : DS} {E : Env} {a : Act} {w : World} {x fr' h' n' ds'}
    (hc : regC X call nt ops.toList draw fr h n ds = .ok x fr' h' n' ds') (hs : St X nt E fr h n ds a w) : (Code.region id ops draw).wp P (Post0 X nt E h n w x fr' h' n' ds') a w := by
  unfold regC at hc
  cases draw with
  | false =>
    simp only at hc
    refine wp_region_list ?_
    have := opsC_sound (all := ops.toList) G C hcall hnt ops.toList fr h n ds E a w hc hs (Post0 X nt E h n w x fr' h' n' ds') fun _ _ _ h => h
    simpa using this
  | true =>
    simp only at hc
    split at hc
    · rename_i hreg
      rw [fN_eq] at hc
      split at hc
      · rename_i hroom
        have hroom := Nat.le_of_ble_eq_true hroom
        obtain ⟨l, rfl⟩ : ∃ l : List Oper, ops = l.toArray := ⟨ops.toList, by simp⟩
        simp only at hc hreg hroom
        unfold okReg at hreg
        simp only [Bool.and_eq_true] at hreg
        obtain ⟨⟨r1, r2⟩, r3⟩ := hreg
        have hst : St X nt E fr h n ds a { w with drawn := w.drawn + 1 } := ⟨hs.fr, hs.ch.drew _, hs.fresh, hs.size, hs.df⟩
        obtain ⟨e1, e2, e3, e4⟩ := runPi_tra r2 hnt (planOf X l) 0 0 0 0 fr h (n + l.length) ds r3 (fun j hj => by rw [bit_zero] at hj; cases hj) hc
        subst e1
        have hlt : ∀ i o, l[i]? = some o → ∀ d ∈ aft o, d < i := fun i o ho d hd => by have := aftLt_spec l 0 r1 i o ho d hd; omega
        have hSL : ∀ i o, l[i]? = some o → early (DD l) l i o = false → ∀ j p d, l[j]? = some p → p.dst = some d → d ∈ looksC l o → bit ((DD l).getD i 0) j = true := fun i o ho =>
          okPi_slots (planOf X l) 0 0 0 0 r3 i ((okPi_all (planOf X l) 0 0 0 0 r3 i (List.getElem?_eq_some_iff.1 ho).1).resolve_left (by rw [bit_zero]; simp)) o ho
        refine wp_region_any hm ?_
        have S : SI X call nt l n fr' E (hp h) { w with drawn := w.drawn + 1 } h' n' ds' [] E (hp h) a { w with drawn := w.drawn + 1 } (planOf X l) 0 0 0 0 h (n + l.length) ds :=
          { ok := r3, tra := e3, cls := fun i hi => by simp at hi, loud := fun i _ _ => by rw [bit_zero]; simp, lmB := fun i hi => (by rw [bit_zero] at hi; cases hi), fmB := fun i hi => (by rw [bit_zero] at hi; cases hi),
            fin := fun i hi => (by rw [bit_zero] at hi; cases hi), fdn := fun i hi => (by rw [bit_zero] at hi; cases hi), rd := fun i hi => (by rw [bit_zero] at hi; cases hi), pend := fun i hi => (by rw [bit_zero] at hi; cases hi),
            ch := hst.ch, g1 := fun _ _ => rfl, g3 := fun i hi => by simp at hi, dd := fun i _ _ => (hs.fresh (n + i) (by omega)).2, fe := fun i _ _ => (hs.fresh (n + i) (by omega)).1,
            fresh := fun k hk => hs.fresh k (by omega), nn := Nat.le_refl _, frs := ⟨fr, hs.fr, fun t ht => (e2 t fun p _ o ho => ht p.1 o ho (by simp)).symm, fun i o t d ho _ he hop hd => e4 i o t d ho (by
              obtain ⟨chk, hm⟩ := (okPi_all (planOf X l) 0 0 0 0 r3 i (List.getElem?_eq_some_iff.1 ho).1).resolve_left (by rw [bit_zero]; simp)
              exact ⟨(i, chk), hm, rfl⟩) he hop hd⟩, sz := hs.size, df := hs.df, cx := CX.refl _ _ _ _ }
        have := SI.whole (Q := Post0 X nt E h n w .nrm fr' h' n' ds') G C hcall hnt hroom hlt hSL (fun E' a' w' q1 q2 q3 => ?_) l.length [] E (hp h) a { w with drawn := w.drawn + 1 } (planOf X l) 0 0 0 0 h (n + l.length) ds (Array.replicate l.length false) S List.nodup_nil (fun i hi => by simp at hi) (by simp) (by simp) (fun j => by rw [getD_replicate_false]; simp)
        · simpa using this
        · exact ⟨rfl, q3, E', q1, ⟨q2.io, q2.free, q2.dead, q2.own, q2.size, q2.frame, q2.os, q2.tape, q2.output⟩⟩
      · cases hc
    · cases hc
end sig
end Ev
