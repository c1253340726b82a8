/- The concrete run: bodies and calls hold of the model. -/
import Derived.Test.YtadmjjogmbhkaaaGreatDoorCe3
import Derived.Test.YtadmjjogmbhkaaaGreatDoorEv8
import Derived.Recover
namespace Ev
open Go
variable {P : Program} {X : Ctx S0} {E E' : Env} {g g' : Nat → CB} {w w' : World} {fr : Tr V} {h : Tr CB} {a : Act} {R : Type} {nt : Nat}

/-- what is deferred -/
def DR (X : Ctx S0) (E : Env) : List (FuncId × List V) → List Deferred → Prop
  | [], [] => True
  | (f, as) :: r, d :: ds => (∃ caps, d.target = .fn (.func f) caps ∧ VRs X E as (d.args ++ caps).toList) ∧ DR X E r ds
  | _, _ => False
theorem DR.mono (hr : CH X E g w) (hio : ∀ l p, E.io l = some p → E'.io l = some p) : ∀ {ds : List (FuncId × List V)} {es : List Deferred}, DR X E ds es → DR X E' ds es
  | [], [], _ => trivial
  | (_, _) :: _, _ :: _, h => ⟨let ⟨caps, h1, h2⟩ := h.1; ⟨caps, h1, vrs_mono hr h2 hio⟩, DR.mono hr hio h.2⟩
  | [], _ :: _, h => h.elim
  | _ :: _, [], h => h.elim

/-- the state of a body -/
structure St (X : Ctx S0) (nt : Nat) (E : Env) (fr : Tr V) (h : Tr CB) (n : Nat) (ds : List (FuncId × List V)) (a : Act) (w : World) : Prop where
  fr : FR X E (fn fr) a
  ch : CH X E (hp h) w
  fresh : Fresh n E (hp h)
  size : a.tmps.size = nt
  df : DR X E ds a.defers

/-- what calls are proved to do -/
def CallOk (P : Program) (X : Ctx S0) (call : FuncId → List V → Tr CB → Nat → Cr) : Prop :=
  ∀ f as h n v h' n', call f as h n = .ok v h' n' → ∀ (E : Env) (w : World) (us : Array Value), VRs X E as us.toList → CH X E (hp h) w → Fresh n E (hp h) →
    ((∀ w, (callFunc f us).run P w = .ok (.enter f us) w) ∧
      Calls P f us w fun e w' => ∃ u E', e = .returned u ∧ VR X E' v u ∧ CH X E' (hp h') w' ∧ Fresh n' E' (hp h') ∧ CX (· < n) E (hp h) w E' (hp h') w' ∧ n ≤ n') ∨
    ∃ u, (callFunc f us).run P w = .ok (.value u) w ∧ VR X E v u ∧ h' = h ∧ n' = n

theorem land_ok {o : Option Nat} {v : V} {u : Value} {K : Tr V → Ro} {bad : Why} {n : Nat} {ds : List (FuncId × List V)} (hnt : nt < 4294967296) (hs : St X nt E fr h n ds a w) (hv : VR X E v u) {x fr' h' n' ds'}
    (hc : landK nt o v fr K (.bad bad) = .ok x fr' h' n' ds') : ∃ fr1, K fr1 = .ok x fr' h' n' ds' ∧ St X nt E fr1 h n ds (a.put o u) w := by
  unfold landK at hc
  split at hc
  · rename_i d
    split at hc
    · rename_i hd
      have hd' := bltT.1 hd
      rw [Tr.put_eq] at hc
      refine ⟨_, hc, ?_, hs.ch, hs.fresh, by simp [Act.put, hs.size], by simpa [Act.put] using hs.df⟩
      rw [fn_ins fr d v (bltT.2 (by omega))]
      exact hs.fr.put (by rw [hs.size]; exact hd') hv
    · cases hc
  · exact ⟨fr, hc, hs⟩

theorem cfresh {n : Nat} {l : Nat} (hf : Fresh n E g) (h : n ≤ l) : E.io l = none ∧ g l = .dead := hf l h

/-- ONE OPERATION -/
theorem stepC_sound (G : Good P X) (C : GoodC P X) {call : FuncId → List V → Tr CB → Nat → Cr} (hcall : CallOk P X call) {o : Oper} {l n' n : Nat} {ds : List (FuncId × List V)} (hs : St X nt E fr h n ds a w)
    (hfree : E.io l = none) (hdead : hp h l = .dead) (hn' : ∀ m, n' ≤ m → n ≤ m ∧ m ≠ l) (hnn : n ≤ n') (K : V → Tr CB → Nat → List (FuncId × List V) → Ro) (bad : Why → Ro) :
    (∃ s, stepC X call fr h l n' n ds o.op K bad = bad s) ∨ ∃ v h1 n1 ds1, stepC X call fr h l n' n ds o.op K bad = K v h1 n1 ds1 ∧ n ≤ n1 ∧
      ∀ (K' : Act → World → Prop) (Q' : Exit → Act → World → Prop),
        (∀ E' u b w', VR X E' v u → b.tmps = a.tmps → St X nt E' fr h1 n1 ds1 b w' → CX (fun m => m ≠ l ∧ m < n) E (hp h) w E' (hp h1) w' → K' (b.put o.dst u) w') → o.wp P a w K' Q' := by
  have op : ∀ x, VR X E (copd fr x) (a.eval x) := fun x => by rw [← opd_fn]; exact vr_opd hs.fr x
  have callSpec : ∀ {c : Call} {f : FuncId} {as : List V}, ccall fr c = some (f, as) → ∃ fv first caps, c.callee = .value fv ∧ a.eval fv = .func (.func f) first caps ∧ VRs X E as ((first ++ c.args.map a.eval) ++ caps).toList := by
    intro c f as hc
    unfold ccall at hc
    split at hc
    · rename_i fo hfo
      split at hc
      · rename_i g caps hcv
        simp only [Option.some.injEq, Prod.mk.injEq] at hc
        obtain ⟨rfl, rfl⟩ := hc
        have hv := op fo
        rw [hcv] at hv
        generalize hcc : a.eval fo = cc at hv
        cases hv with
        | fn _ _ ds h1 h2 =>
          refine ⟨fo, #[], ds, hfo, hcc, ?_⟩
          rw [map_copd]
          have := (vrs_map hs.fr c.args.toList).append (show VRs X E caps ds.toList from ⟨by simpa using h1, h2⟩)
          simpa using this
      · rename_i g y caps hcv
        simp only [Option.some.injEq, Prod.mk.injEq] at hc
        obtain ⟨rfl, rfl⟩ := hc
        have hv := op fo
        rw [hcv] at hv
        generalize hcc : a.eval fo = cc at hv
        cases hv with
        | fnb _ _ u _ ds h0 h1 h2 =>
          refine ⟨fo, #[u], ds, hfo, hcc, ?_⟩
          rw [map_copd]
          have := VRs.cons h0 ((vrs_map hs.fr c.args.toList).append (show VRs X E caps ds.toList from ⟨by simpa using h1, h2⟩))
          simpa using this
      · cases hc
    · cases hc
  unfold stepC
  split
  · rename_i v hq
    right
    obtain ⟨u, hrun, hv⟩ := cq_sound G C hq hs.fr hs.ch
    refine ⟨v, h, n, ds, by rw [fV_eq], Nat.le_refl _, fun K' Q' hK => ?_⟩
    unfold Oper.wp
    rw [hrun]
    exact hK E u a w hv rfl hs (CX.refl _ _ _ _)
  · split
    · split
      · rename_i hl
        rcases cl_sound G C (o := o) hs.fr hs.ch hl hfree hdead (fun v h => some (v, h)) none with hb | ⟨v, h1, hk, E', w', hrun, hch, hcx⟩
        · rw [hb]; exact .inl ⟨_, rfl⟩
        · rw [hk]
          right
          have hst : St X nt E' fr h1 n' ds a w' := ⟨fr_mono hs.ch hs.fr hcx.io, hch, fun m hm => ⟨hcx.free m (hn' m hm).2 (hs.fresh m (hn' m hm).1).1, hcx.dead m (hn' m hm).2 (hs.fresh m (hn' m hm).1).2⟩, hs.size, hs.df.mono hs.ch hcx.io⟩
          refine ⟨v, h1, n', ds, rfl, hnn, fun K' Q' hK => ?_⟩
          unfold Oper.wp
          rcases hrun with ⟨u, hrun, hv⟩ | ⟨hrun, hv⟩
          · rw [hrun]; exact hK E' u a w' hv rfl hst (hcx.mono fun m hm => hm.1)
          · rw [hrun]; exact hK E' undef a w' (by rw [hv]; exact .top _) rfl hst (hcx.mono fun m hm => hm.1)
      · exact .inl ⟨_, rfl⟩
    · split
      · rename_i c hop
        split
        · rename_i f as hc
          rw [fVs_eq]
          split
          · rename_i v h1 n1 hk
            right
            obtain ⟨fo, first, caps, hfo, hfe, hus⟩ := callSpec hc
            have hex : ∀ w, (execOp a.eval o).run P w = (callFunc f ((first ++ c.args.map a.eval) ++ caps)).run P w := by
              intro w
              simp [execOp, hop, resolve, hfo, hfe, Deferred.ofValue, invoke]
            have hok := hcall f as h n v h1 n1 hk E w _ hus hs.ch hs.fresh
            have hle : n ≤ n1 := by
              rcases hok with ⟨_, hcalls⟩ | ⟨u, _, _, _, h3⟩
              · obtain ⟨e, w', fr', ⟨u, E', _, _, _, _, _, hle⟩, _⟩ := hcalls []
                exact hle
              · omega
            refine ⟨v, h1, n1, ds, rfl, hle, fun K' Q' hK => ?_⟩
            unfold Oper.wp
            rcases hok with ⟨hen, hcalls⟩ | ⟨u, hrun, hv, rfl, rfl⟩
            · rw [hex, hen, Oper.upon_enter]
              refine hcalls.mono ?_
              rintro e w' ⟨u, E', rfl, hv, hch, hfr, hcx, _⟩
              exact hK E' u a w' hv rfl ⟨fr_mono hs.ch hs.fr hcx.io, hch, hfr, hs.size, hs.df.mono hs.ch hcx.io⟩ (hcx.mono fun m hm => hm.2)
            · rw [hex, hrun]
              exact hK E u a w hv rfl hs (CX.refl _ _ _ _)
          · exact .inl ⟨_, rfl⟩
        · exact .inl ⟨_, rfl⟩
      · rename_i c hop
        split
        · rename_i f as hc
          rw [fVs_eq]
          right
          obtain ⟨fo, first, caps, hfo, hfe, hus⟩ := callSpec hc
          refine ⟨.top, h, n, _, rfl, Nat.le_refl _, fun K' Q' hK => ?_⟩
          have hrun : (execOp a.eval o).run P w = .ok (.defer { target := .fn (.func f) caps, args := first ++ c.args.map a.eval }) w := by
            simp [execOp, hop, resolve, hfo, hfe, Deferred.ofValue]
          unfold Oper.wp
          rw [hrun, Oper.upon_defer]
          exact hK E undef { a with defers := { target := .fn (.func f) caps, args := first ++ c.args.map a.eval } :: a.defers } w (.top _) rfl ⟨hs.fr, hs.ch, hs.fresh, hs.size, ⟨caps, rfl, hus⟩, hs.df⟩ (CX.refl _ _ _ _)
        · exact .inl ⟨_, rfl⟩
      · exact .inl ⟨_, rfl⟩

/-- a guard's slot, in the model -/
theorem gd_sound {all : List Oper} {o : Oper} {b : Bool} (hg : gd all o fr = some b) (hf : FR X E (fn fr) a) : Region.wanted o (yielded all.toArray a.tmps) = b := by
  unfold gd at hg
  split at hg
  · rename_i h0
    injection hg with hg; subst hg
    simp [Region.wanted, h0]
  · rename_i j want h0
    split at hg
    · rename_i p hp
      split at hg
      · rename_i s hd
        have hs : dstOf all j = some s := by unfold dstOf; rw [nth_eq, hp]; exact hd
        have e : fn fr s = fr.get .top s := rfl
        split at hg
        · rename_i hv
          injection hg with hg; subst hg
          rw [← e] at hv
          have := yielded_of hs (tt_of hf hv)
          simp only [Region.wanted, h0, this]
          cases want <;> rfl
        · rename_i hv
          injection hg with hg; subst hg
          rw [← e] at hv
          have := yielded_of hs (ff_of hf hv)
          simp only [Region.wanted, h0, this]
          cases want <;> rfl
        · rename_i c hv
          injection hg with hg; subst hg
          rw [← e] at hv
          have := yielded_of hs (bool_of hf hv)
          simp only [Region.wanted, h0, this]
          cases want <;> cases c <;> rfl
        · rename_i vs hv
          injection hg with hg; subst hg
          rw [← e] at hv
          have := tup_of hs hf hv
          simp only [Region.wanted, h0, this]
          cases want <;> rfl
        · cases hg
      · cases hg
    · cases hg

/-- how code ends -/
def exOf : Ex → Exit
  | .nrm => .normal
  | .ext id => .exit id
  | .ret => .ret
/-- what a piece of code comes to -/
def Post0 (X : Ctx S0) (nt : Nat) (E : Env) (h : Tr CB) (n : Nat) (w : World) (x : Ex) (fr' : Tr V) (h' : Tr CB) (n' : Nat) (ds' : List (FuncId × List V)) (e : Exit) (a' : Act) (w' : World) : Prop :=
  e = exOf x ∧ n ≤ n' ∧ ∃ E', St X nt E' fr' h' n' ds' a' w' ∧ CX (· < n) E (hp h) w E' (hp h') w'

theorem CX.below {n n1 : Nat} {E E1 E2 : Env} {g g1 g2 : Nat → CB} {w w1 w2 : World} (h1 : CX (· < n) E g w E1 g1 w1) (h2 : CX (· < n1) E1 g1 w1 E2 g2 w2) (hn : n ≤ n1) : CX (· < n) E g w E2 g2 w2 :=
  h1.trans (h2.mono fun l hl => by have hl' : l < n := hl; show l < n1; omega)

theorem opsC_sound (G : Good P X) (C : GoodC P X) {call : FuncId → List V → Tr CB → Nat → Cr} (hcall : CallOk P X call) (hnt : nt < 4294967296) {all : List Oper} : ∀ (ops : List Oper) (fr : Tr V) (h : Tr CB) (n : Nat) (ds : List (FuncId × List V)) (E : Env) (a : Act) (w : World) {x fr' h' n' ds'},
    opsC X call nt all ops fr h n ds = .ok x fr' h' n' ds' → St X nt E fr h n ds a w → ∀ (Q : Exit → Act → World → Prop), (∀ e a' w', Post0 X nt E h n w x fr' h' n' ds' e a' w' → Q e a' w') → wpList P all.toArray Q ops a w
  | [], fr, h, n, ds, E, a, w, x, fr', h', n', ds', hc, hs, Q, hQ => by
    injection hc with c1 c2 c3 c4 c5; subst c1; subst c2; subst c3; subst c4; subst c5
    exact hQ _ _ _ ⟨rfl, Nat.le_refl _, E, hs, CX.refl _ _ _ _⟩
  | o :: r, fr, h, n, ds, E, a, w, x, fr', h', n', ds', hc, hs, Q, hQ => by
    unfold opsC at hc
    refine wpList_step fun K hK => ?_
    split at hc
    · rename_i hg
      rw [if_pos (gd_sound hg hs.fr)]
      have hfr := cfresh hs.fresh (Nat.le_refl n)
      rcases stepC_sound (n' := Nat.succ n) G C hcall hs hfr.1 hfr.2 (fun m hm => by simp only [Nat.succ_eq_add_one] at hm; omega) (Nat.le_succ n) (fun v h n ds => landK nt o.dst v fr (fun fr => opsC X call nt all r fr h n ds) (.bad "slot")) .bad with ⟨s, hb⟩ | ⟨v, h1, n1, ds1, hk, hn1, hwp⟩
      · rw [hb] at hc; cases hc
      · rw [hk] at hc
        refine hwp K Q fun E' u b w' hv hbt hst hcx => hK _ _ ?_
        obtain ⟨fr1, hc', hst'⟩ := land_ok (bad := "slot") hnt hst hv hc
        refine opsC_sound G C hcall hnt r fr1 h1 n1 ds1 E' _ w' hc' hst' Q fun e a' w'' hp => hQ e a' w'' ?_
        obtain ⟨p1, p2, E'', p3, p4⟩ := hp
        refine ⟨p1, by omega, E'', p3, CX.below (n1 := n1) (hcx.mono fun m hm => ⟨?_, hm⟩) p4 hn1⟩
        have hm' : m < n := hm; omega
    · rename_i hg
      rw [if_neg (by rw [gd_sound hg hs.fr]; simp)]
      refine hK _ _ ?_
      obtain ⟨fr1, hc', hst'⟩ := land_ok (bad := "slot") (u := undef) hnt hs (vr_tup_mk (ds := #[]) VRs.nil) hc
      exact opsC_sound G C hcall hnt r fr1 h n ds E _ w hc' hst' Q hQ
    · cases hc


/-- the operation looked at once: the same -/
theorem stepF_eq {R : Type} (call : FuncId → List V → Tr CB → Nat → Cr) (fr : Tr V) (h : Tr CB) (l n' n : Nat) (ds : List (FuncId × List V)) (op : Op) (K : V → Tr CB → Nat → List (FuncId × List V) → R) (bad : Why → R) :
    stepF X call fr h l n' n ds op K bad = stepC X call fr h l n' n ds op K bad := by
  cases op with
  | call c =>
    obtain ⟨callee, args, ats⟩ := c
    cases callee with
    | value f => rfl
    | invoke r m => rfl
    | builtin b => cases b <;> rfl
  | convert s d x =>
    unfold stepF stepC
    simp only [kF, cq, isLoud]
    cases hd : X.L.ds d with
    | slice e =>
      have hc : cconvert X s d (copd fr x) h = none := by unfold cconvert; rw [hd]
      rw [hc]
    | _ => rfl
  | makeFunc f first caps => cases f <;> rfl
  | makeMap t r => cases r <;> rfl
  | _ => rfl
theorem opsF_eq (call : FuncId → List V → Tr CB → Nat → Cr) (all : List Oper) : ∀ (ops : List Oper) (fr : Tr V) (h : Tr CB) (n : Nat) (ds : List (FuncId × List V)), (opsF X call nt all ops).run fr h n ds = opsC X call nt all ops fr h n ds
  | [], _, _, _, _ => rfl
  | o :: r, fr, h, n, ds => by
    show (match gd all o fr with
      | some true => stepF X call fr h n (Nat.succ n) n ds o.op (fun v h n ds => landK nt o.dst v fr (fun fr => (opsF X call nt all r).run fr h n ds) (.bad "slot")) .bad
      | some false => landK nt o.dst (.tup []) fr (fun fr => (opsF X call nt all r).run fr h n ds) (.bad "slot")
      | none => .bad "guard") = _
    unfold opsC
    simp only [opsF_eq call all r, stepF_eq]
    rfl

end Ev
