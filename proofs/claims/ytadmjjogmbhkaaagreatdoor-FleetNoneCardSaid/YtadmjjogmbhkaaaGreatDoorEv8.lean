/- The machine and bodies. -/
import Derived.Test.YtadmjjogmbhkaaaGreatDoorEv7
import Derived.Test.YtadmjjogmbhkaaaGreatDoorEvM
import Derived.Test.YtadmjjogmbhkaaaGreatDoorEvO
namespace Ev
open Go
variable {S : Sig} {P : Program} {X : Ctx S}

theorem fv1_eq (v : AV S) (K : AV S → Prop) : fv1 v K = K v := by cases v <;> first | rfl | (simp only [fv1]; rw [forceNat_eq])
theorem fl_eq (vs : List (AV S)) : ∀ K, fl vs K = K vs := by
  induction vs with
  | nil => intro K; rfl
  | cons v r ih =>
    intro K
    show fv1 v (fun v' => fl r fun r' => K (v' :: r')) = _
    rw [fv1_eq, ih]
theorem fv_eq (v : AV S) (K : AV S → Prop) : fv v K = K v := by
  cases v <;> first | rfl | (simp only [fv]; rw [fl_eq]) | (simp only [fv, fv1]; rw [forceNat_eq])
theorem fh_eq (H : AH S) : ∀ K, fh H K = K H := by
  induction H with
  | nil => intro K; rfl
  | cons b r ih =>
    intro K
    cases b with
    | cells cs => show fl cs (fun cs => fh r fun r => K (.cells cs :: r)) = _; rw [fl_eq, ih]
    | lst e xs => show fh r (fun r => K (.lst e xs :: r)) = _; rw [ih]
    | lsto e xs i j v => show fv1 v (fun v => fh r fun r => K (.lsto e xs i j v :: r)) = _; rw [fv1_eq, ih]
    | mp a b es => show fh r (fun r => K (.mp a b es :: r)) = _; rw [ih]
    | dead => show fh r (fun r => K (.dead :: r)) = _; rw [ih]

theorem Br_elim {b : Bool} {x y : Prop} (h : Br b x y) : (b = true → x) ∧ (b = false → y) := by unfold Br at h; exact h
theorem br_split {b : Bool} {x y : Prop} (h : b = true → x) (h' : b = false → y) : Br b x y := by unfold Br; exact ⟨h, h'⟩
theorem br_true {x y : Prop} (h : x) : Br true x y := by unfold Br; exact ⟨fun _ => h, fun h => nomatch h⟩
theorem br_false {x y : Prop} (h : y) : Br false x y := by unfold Br; exact ⟨fun h => (nomatch h), fun _ => h⟩

/-- operations that leave the world as it is -/
def quietKind : Op → Bool
  | .move _ | .assign _ | .pick _ _ _ | .build _ _ | .load _ _ | .nilCheck _ | .binOp _ _ _ _ _ | .unOp _ _ _ | .convert _ _ _ | .makeFunc _ _ _ | .slice _ _ _ _ _ | .fieldAddr _ _ _ | .field _ _ _ | .indexAddr _ _ _ | .index _ _ _ | .extract _ _ | .lookup _ _ _ _ => true
  | .call c => match c.callee with
    | .builtin .len | .builtin .max | .builtin .min => true
    | _ => false
  | _ => false

def okOps (n : Nat) (l : List Oper) : Bool := l.all fun o => match o.dst with | some d => decide (d < n) | none => true
def okDraw (l : List Oper) : Bool :=
  (Region.lexB .any l.toArray && l.all fun o => quietKind o.op) ||
  (List.range l.length).any fun t => Region.lexTailB .any l.toArray t && (l.take t).all fun o => quietKind o.op
noncomputable def okCode (X : Ctx S) (ord : Nat → List (Nat × List Nat)) (n : Nat) : Code → Bool
  | .region id ops d => okOps n ops.toList && (match ord id with
    | [] => !d || okDraw ops.toList
    | i :: r => d && okOrd X ops.toList (i :: r))
  | .seq a b => okCode X ord n a && okCode X ord n b
  | .cond _ a b => okCode X ord n a && okCode X ord n b
  | .block _ c => okCode X ord n c
  | .loop c => okCode X ord n c
  | _ => true
noncomputable def okIt (X : Ctx S) (ord : Nat → List (Nat × List Nat)) (n : Nat) : It S → Bool
  | .ops _ rest => okOps n rest
  | .code c => okCode X ord n c
  | _ => true

/-- the state of a body under way -/
def Rel (X : Ctx S) (k n : Nat) (E0 : Env) (w0 : World) (fr : Fr S) (H : AH S) (a : Act) (w : World) : Prop :=
  ∃ E, FR X E fr a ∧ HR X E H w ∧ Ext k E0 w0 E w ∧ k ≤ H.length ∧ a.tmps.size = n ∧ a.defers = []

def FP (X : Ctx S) (k n : Nat) (E0 : Env) (w0 : World) (Q : Fr S → AH S → Prop) (a : Act) (w : World) : Prop := ∃ fr H, Q fr H ∧ Rel X k n E0 w0 fr H a w

def Post (P : Program) (X : Ctx S) (k n : Nat) (E0 : Env) (w0 : World) (Q : Fr S → AH S → Prop) : List (It S) → Exit → Act → World → Prop
  | [], .normal, a, w => FP X k n E0 w0 Q a w
  | [], .ret, a, w => FP X k n E0 w0 Q a w
  | [], _, _, _ => False
  | .code c :: ks, .normal, a, w => c.wp P (Post P X k n E0 w0 Q ks) a w
  | .ops all rest :: ks, .normal, a, w => wpList P all.toArray (Post P X k n E0 w0 Q ks) rest a w
  | .blk id :: ks, .normal, a, w => Post P X k n E0 w0 Q ks .normal a w
  | .blk id :: ks, .exit j, a, w => if j = id then Post P X k n E0 w0 Q ks .normal a w else Post P X k n E0 w0 Q ks (.exit j) a w
  | .lpEnd _ _ I :: ks, .normal, a, w => ∃ s : Fr S × AH S, I s ∧ Rel X k n E0 w0 s.1 s.2 a w
  | _ :: ks, e, a, w => Post P X k n E0 w0 Q ks e a w

section
variable {k n : Nat} {E0 : Env} {w0 : World} {Q : Fr S → AH S → Prop} {fr : Fr S} {H : AH S} {a : Act} {w : World} {Γ : FuncId → Spec S} {ord : Nat → List (Nat × List Nat)}

theorem Rel.put {E : Env} {o : Option Nat} {v : AV S} {u : Value} {w' : World} {H' : AH S} (hf : FR X E fr a) (hr : HR X E H' w') (hx : Ext k E0 w0 E w') (hk : k ≤ H'.length) (hn : a.tmps.size = n) (hd : a.defers = [])
    (ho : ∀ d, o = some d → d < n) (hv : VR X E v u) {next : Fr S → AH S → Prop} (h : land o v fr H' next) : ∃ fr', next fr' H' ∧ Rel X k n E0 w0 fr' H' (a.put o u) w' := by
  cases o with
  | none => exact ⟨fr, h, E, hf, hr, hx, hk, hn, hd⟩
  | some d => exact ⟨_, h, E, hf.put (by rw [hn]; exact ho d rfl) hv, hr, hx, hk, by simp [Act.put, hn], by simp [Act.put, hd]⟩
theorem Rel.skip {o : Option Nat} (h : Rel X k n E0 w0 fr H a w) (ho : ∀ d, o = some d → d < n) {next : Fr S → AH S → Prop} (hn : land o (.tup []) fr H next) : ∃ fr', next fr' H ∧ Rel X k n E0 w0 fr' H (a.put o undef) w := by
  obtain ⟨E, hf, hr, hx, hk, h1, h2⟩ := h
  exact Rel.put (next := next) hf hr hx hk h1 h2 ho (vr_tup_mk (ds := #[]) VRs.nil) hn
theorem Rel.set {s : Nat} {v : AV S} (h : Rel X k n E0 w0 fr H a w) (hv : ∀ E, FR X E fr a → VR X E v (a.tmps.getD s undef)) : Rel X k n E0 w0 (upd s v fr) H a w := by
  obtain ⟨E, hf, hr, hx, hk, h1, h2⟩ := h
  exact ⟨E, hf.set (hv E hf), hr, hx, hk, h1, h2⟩

/-- a quiet operation, in a state -/
theorem quiet_step (G : Good P X) (M : GoodM P X) {o : Oper} {r : Res S} (hq : quietAll0 X fr H o.op = some r) (hrel : Rel X k n E0 w0 fr H a w) (hd : ∀ d, o.dst = some d → d < n) {next : Fr S → AH S → Prop}
    (h : owed r.ob (land o.dst r.v fr H next)) :
    ∃ u fr', (execOp a.eval o).run P w = .ok (.value u) w ∧ next fr' H ∧ Rel X k n E0 w0 fr' H (a.put o.dst u) w := by
  obtain ⟨E, hf, hr, hx, hk, h1, h2⟩ := hrel
  have hob : ∀ p, r.ob = some p → p := by
    intro p hp; rw [hp] at h; exact h.1
  have hnext : land o.dst r.v fr H next := by
    cases hp : r.ob with
    | none => rw [hp] at h; exact h
    | some p => rw [hp] at h; exact h.2
  obtain ⟨e, u, hrun, hv⟩ := quietAll0_sound G M hq hob hf hr
  obtain ⟨fr', n1, n2⟩ := Rel.put (next := next) hf hr hx hk h1 h2 hd hv hnext
  exact ⟨u, fr', hrun, n1, n2⟩

theorem calls_spec {o : Oper} {f : FuncId} {as : List (AV S)} {E : Env} (h : calls fr o.op = some (f, as)) (hf : FR X E fr a) :
    ∃ us : Array Value, VRs X E as us.toList ∧ ∀ w, (execOp a.eval o).run P w = (callFunc f us).run P w := by
  unfold calls at h
  split at h
  · rename_i fo args at' ho
    split at h
    · rename_i g caps hc
      simp only [Option.some.injEq, Prod.mk.injEq] at h
      obtain ⟨rfl, rfl⟩ := h
      have hv := vr_opd hf fo
      rw [hc] at hv
      generalize hcc : a.eval fo = cc at hv
      cases hv with
      | fn _ _ ds h1 h2 =>
        refine ⟨args.map a.eval ++ ds, ?_, fun w => ?_⟩
        · have := (vrs_map hf args.toList).append (show VRs X E caps ds.toList from ⟨by simpa using h1, h2⟩)
          simpa using this
        · simp [execOp, ho, resolve, hcc, Deferred.ofValue, invoke]
    · cases h
  · cases h

theorem semi_sound (G : Good P X) {o : Oper} {r : Res S} (h : semi X fr H o.op = some r) :
    ∃ v, r = ⟨none, v, H⟩ ∧ ∀ {E : Env} {a : Act} {w : World}, FR X E fr a → HR X E H w → ∃ w' E' u, (execOp a.eval o).run P w = .ok (.value u) w' ∧ VR X E' v u ∧ HR X E' H w' ∧ (∀ k, k ≤ H.length → Ext k E w E' w') ∧
      (∀ b o, E.im b = some o → E'.im b = some o) ∧ (∀ l p, E.io l = some p → E'.io l = some p) := by
  unfold semi at h
  split at h
  · rename_i t n ps ho
    split at h
    · unfold still at h
      split at h
      · rename_i v hv
        injection h with h; subst h
        refine ⟨v, rfl, fun {E a w} hf hr => ?_⟩
        obtain ⟨w', E', u, hrun, h1, h2, h3, h4, h5⟩ := abuildImm_sound G hf hr hv
        exact ⟨w', E', u, by simp only [execOp, ho]; simp [hrun], h1, h2, h3, h4, h5⟩
      · cases h
    · cases h
  · cases h

/-- one operation of the machine is one of the model -/
theorem stepOp_sound (G : Good P X) (M : GoodM P X) (hΓ : ∀ f, FnOk P X f (Γ f)) {o : Oper} {next : Fr S → AH S → Prop} (h : stepOp X Γ fr H o next) (hrel : Rel X k n E0 w0 fr H a w) (hd : ∀ d, o.dst = some d → d < n)
    {K : Act → World → Prop} {Q' : Exit → Act → World → Prop} (hK : ∀ fr' H' a' w', next fr' H' → Rel X k n E0 w0 fr' H' a' w' → K a' w') : o.wp P a w K Q' := by
  unfold stepOp stepV at h
  split at h
  · rename_i r hq
    rw [fv_eq] at h
    unfold quietAll at hq
    split at hq
    · rename_i r' hq0
      injection hq with hq; subst hq
      obtain ⟨u, fr', hrun, h1, h2⟩ := quiet_step (next := next) G M hq0 hrel hd h
      unfold Oper.wp
      rw [hrun]
      exact hK _ _ _ _ h1 h2
    · obtain ⟨v, hrv, hl⟩ := semi_sound (P := P) (o := o) G hq
      obtain ⟨E, hf, hr, hx, hk, h1, h2⟩ := hrel
      subst hrv
      have hnext : land o.dst v fr H next := h
      obtain ⟨w', E', u, hrun, hv, hr', hx', him, hio⟩ := hl hf hr
      obtain ⟨fr', n1, n2⟩ := Rel.put (next := next) (hf.mono him hio) hr' (hx.trans (hx' k hk)) hk h1 h2 hd hv hnext
      unfold Oper.wp
      rw [hrun]
      exact hK _ _ _ _ n1 n2
  · split at h
    · rename_i r hl
      rw [fv_eq, fh_eq] at h
      obtain ⟨E, hf, hr, hx, hk, h1, h2⟩ := hrel
      have hob : ∀ p, r.ob = some p → p := by
        intro p hp; rw [hp] at h; exact h.1
      have hnext : land o.dst r.v fr r.H next := by
        cases hp : r.ob with
        | none => rw [hp] at h; exact h
        | some p => rw [hp] at h; exact h.2
      obtain ⟨w', E', hrun, hr', hx', him, hio⟩ := loudAll_sound G M hl hob hf hr
      have hx2 := hx.trans (hx' k hk)
      have hk' : k ≤ r.H.length := by
        rcases Nat.lt_or_ge r.H.length k with hh | hh
        · exfalso
          obtain ⟨p, hp, _⟩ := hr.blk r.H.length (by omega)
          have := hio _ _ hp
          rw [hr'.io _ (Nat.le_refl _)] at this; cases this
        · exact hh
      rcases hrun with ⟨u, hrun, hv⟩ | ⟨hrun, hv⟩
      · obtain ⟨fr', n1, n2⟩ := Rel.put (next := next) (hf.mono him hio) hr' hx2 hk' h1 h2 hd hv hnext
        unfold Oper.wp
        rw [hrun]
        exact hK _ _ _ _ n1 n2
      · obtain ⟨fr', n1, n2⟩ := Rel.put (next := next) (u := undef) (hf.mono him hio) hr' hx2 hk' h1 h2 hd (v := r.v) (by rw [hv]; exact .top _) hnext
        unfold Oper.wp
        rw [hrun]
        exact hK _ _ _ _ n1 n2
    · split at h
      · rename_i f as hc
        obtain ⟨E, hf, hr, hx, hk, h1, h2⟩ := hrel
        obtain ⟨us, hus, hrun⟩ := calls_spec (P := P) hc hf
        have go : ∀ (as1 : List (AV S)) (H1 : AH S) (E1 : Env), HR X E1 H1 w → VRs X E1 as1 us.toList → (∀ b o, E.im b = some o → E1.im b = some o) → E1.io = E.io → H1.length = H.length →
            (∀ b, E1.im b ≠ none → E.im b ≠ none ∨ E.own b) → apart (Γ f) as1 H1 (fun v H' => fv v fun v => fh H' fun H' => land o.dst v fr H' next) → o.wp P a w K Q' := by
          intro as1 H1 E1 hr1 hus1 f3 f4 f5 f6 h
          have fio : ∀ l p, E.io l = some p → E1.io l = some p := fun l p h => by rw [f4]; exact h
          have hx1 := hx.trans (Ext.fix (w := w) f3 f4 f6 k)
          have fin : ∀ {v : AV S} {u : Value} {H' : AH S} {E' : Env} {w' : World}, (fv v fun v => fh H' fun H' => land o.dst v fr H' next) → VR X E' v u → HR X E' H' w' →
              (∀ k, k ≤ H1.length → Ext k E1 w E' w') → H1.length ≤ H'.length → (∀ b o, E1.im b = some o → E'.im b = some o) → (∀ l p, E1.io l = some p → E'.io l = some p) → K (a.put o.dst u) w' := by
            intro v u H' E' w' hk' hv hr' hx' hl him hio
            rw [fv_eq, fh_eq] at hk'
            obtain ⟨fr', n1, n2⟩ := Rel.put (next := next) ((hf.mono f3 fio).mono him hio) hr' (hx1.trans (hx' k (by omega))) (by omega) h1 h2 hd hv hk'
            exact hK _ _ _ _ n1 n2
          rcases apart_sound G (hΓ f) h hus1 hr1 with ⟨hen, hcalls⟩ | ⟨v, u, H', E', hval, hk', hv, hr', hx', hl, him, hio⟩
          · unfold Oper.wp
            rw [hrun, hen]
            rw [Oper.upon_enter]
            refine hcalls.mono ?_
            rintro e w' ⟨v, u, H', E', rfl, hk', hv, hr', hx', hl, him, hio⟩
            exact fin hk' hv hr' hx' hl him hio
          · unfold Oper.wp
            rw [hrun, hval]
            exact fin hk' hv hr' hx' hl him hio
        split at h
        · rw [fl_eq] at h
          exact go as H E hr hus (fun _ _ h => h) rfl rfl (fun _ h => .inl h) h
        · split at h
          · rename_i p as1 H1 hz
            obtain ⟨hp, h⟩ := h
            rw [fl_eq] at h
            obtain ⟨E1, g1, g2, g3, g4, g5, g6⟩ := frzArgs_sound G _ _ _ _ _ _ _ _ hz hp hr hus
            exact go as1 H1 E1 g1 g2 g3 g4 g5 g6 h
          · exact h.elim
      · split at h
        · rename_i s C hany
          obtain ⟨E, hf, hr, hx, hk, h1, h2⟩ := hrel
          obtain ⟨b, hC, hrun⟩ := anyB_sound (P := P) G hany hf hr
          obtain ⟨fr', n1, n2⟩ := Rel.put (next := next) hf hr hx hk h1 h2 hd (.bool (b == s)) (h b hC)
          unfold Oper.wp
          rw [hrun]
          exact hK _ _ _ _ n1 n2
        · exact h.elim

theorem okOps_cons {o : Oper} {l : List Oper} (h : okOps n (o :: l) = true) : (∀ d, o.dst = some d → d < n) ∧ okOps n l = true := by
  simp only [okOps, List.all_cons, Bool.and_eq_true] at h
  refine ⟨fun d hd => ?_, h.2⟩
  rw [hd] at h; simpa using h.1

/-- a guard's slot, in the model -/
theorem yielded_of {all : List Oper} {j s : Nat} {b : Bool} (hs : dstOf all j = some s) (hv : a.tmps.getD s undef = .bool b) : yielded all.toArray a.tmps j = some b := by
  unfold dstOf at hs
  rw [nth_eq] at hs
  unfold yielded
  cases ho : all[j]? with
  | none => rw [ho] at hs; cases hs
  | some o =>
    rw [ho] at hs
    simp only at hs
    have hlt : s < a.tmps.size := by
      rcases Nat.lt_or_ge s a.tmps.size with h | h
      · exact h
      · rw [Array.getD_eq_getD_getElem?, Array.getElem?_eq_none h] at hv; cases hv
    have hg : a.tmps[s]? = some (.bool b) := by
      rw [Array.getD_eq_getD_getElem?, Array.getElem?_eq_getElem hlt] at hv
      rw [Array.getElem?_eq_getElem hlt]
      simpa using hv
    simp [ho, hs, hg]
theorem tt_of {E : Env} {s : Nat} (hf : FR X E fr a) (h : fr s = .tt) : a.tmps.getD s undef = .bool true := by
  have := hf s; rw [h] at this; generalize a.tmps.getD s undef = u at this ⊢; cases this; rfl
theorem ff_of {E : Env} {s : Nat} (hf : FR X E fr a) (h : fr s = .ff) : a.tmps.getD s undef = .bool false := by
  have := hf s; rw [h] at this; generalize a.tmps.getD s undef = u at this ⊢; cases this; rfl
theorem bool_of {E : Env} {s : Nat} {b : Bool} (hf : FR X E fr a) (h : fr s = .bool b) : a.tmps.getD s undef = .bool b := by
  have := hf s; rw [h] at this; generalize a.tmps.getD s undef = u at this ⊢; cases this; rfl
theorem tup_of {E : Env} {all : List Oper} {j s : Nat} {vs : List (AV S)} (hs : dstOf all j = some s) (hf : FR X E fr a) (h : fr s = .tup vs) : yielded all.toArray a.tmps j = none := by
  have hv := hf s
  rw [h] at hv
  unfold dstOf at hs
  rw [nth_eq] at hs
  unfold yielded
  cases ho : all[j]? with
  | none => rw [ho] at hs; cases hs
  | some o =>
    rw [ho] at hs
    simp only at hs
    rw [Array.getD_eq_getD_getElem?] at hv
    have e : (all.toArray[j]?).bind (·.dst) = some s := by simp [ho, hs]
    rw [e]
    simp only [Option.bind_some]
    cases hg : a.tmps[s]? with
    | none => rfl
    | some u =>
      rw [hg] at hv
      simp only [Option.getD_some] at hv
      cases hv; rfl
theorem Rel.frame (h : Rel X k n E0 w0 fr H a w) : ∃ E, FR X E fr a := let ⟨E, hf, _⟩ := h; ⟨E, hf⟩

theorem quietKind_spec {o : Op} (h : quietKind o = true) : loudAll X fr H o = none ∧ calls fr o = none := by
  cases o <;> simp [quietKind] at h <;> first | (simp [loudAll, loud, loud2, calls]; done) | skip
  rename_i c
  obtain ⟨callee, args, ats⟩ := c
  cases callee with
  | value f => simp at h
  | invoke r m => simp at h
  | builtin b => cases b <;> simp at h <;> simp [loudAll, loud, loud2, calls]

/-- the head of a region that draws, in the text's order -/
theorem still_of_run (G : Good P X) (M : GoodM P X) {all suf : List Oper} {ks : List (It S)} : ∀ (m : Nat) (pre : List Oper) (fr : Fr S) (a : Act), run X Γ ord k Q m (.ops all (pre ++ suf) :: ks) fr H → Rel X k n E0 w0 fr H a w → okOps n (pre ++ suf) = true →
    (pre.all fun o => quietKind o.op) = true → wpStill P all.toArray w (fun a' => ∃ m' fr', m' ≤ m ∧ run X Γ ord k Q m' (.ops all suf :: ks) fr' H ∧ Rel X k n E0 w0 fr' H a' w) pre a
  | 0, _, _, _, h, _, _, _ => by unfold run at h; exact h.elim
  | m + 1, [], fr, a, h, hrel, _, _ => wpStill_nil ⟨m + 1, fr, Nat.le_refl _, by simpa using h, hrel⟩
  | m + 1, o :: pre, fr, a, h, hrel, hok, hq => by
    simp only [List.all_cons, Bool.and_eq_true] at hq
    obtain ⟨hd, hok'⟩ := okOps_cons hok
    obtain ⟨E, hf⟩ := hrel.frame
    have mono : ∀ {m' : Nat} {fr' : Fr S} {a' : Act}, m' ≤ m → wpStill P all.toArray w (fun a' => ∃ m'' fr', m'' ≤ m' ∧ run X Γ ord k Q m'' (.ops all suf :: ks) fr' H ∧ Rel X k n E0 w0 fr' H a' w) pre a' →
        wpStill P all.toArray w (fun a' => ∃ m' fr', m' ≤ m + 1 ∧ run X Γ ord k Q m' (.ops all suf :: ks) fr' H ∧ Rel X k n E0 w0 fr' H a' w) pre a' := by
      intro m' fr' a' hle hh
      have : ∀ (l : List Oper) (a : Act) {K K' : Act → Prop}, (∀ a, K a → K' a) → wpStill P all.toArray w K l a → wpStill P all.toArray w K' l a := by
        intro l
        induction l with
        | nil => intro a K K' hkk h; exact hkk _ h
        | cons o l ih =>
          intro a K K' hkk h
          unfold wpStill at h ⊢
          split
          · rename_i hw; rw [if_pos hw] at h; exact Oper.still_mono (fun a => ih a hkk) h
          · rename_i hw; rw [if_neg hw] at h; exact ih _ hkk h
      exact this pre a' (fun a ⟨m'', fr', h1, h2, h3⟩ => ⟨m'', fr', by omega, h2, h3⟩) hh
    -- an operation that is run
    have doit : ∀ (a : Act) (fr : Fr S), Rel X k n E0 w0 fr H a w → stepOp X Γ fr H o (fun fr H => run X Γ ord k Q m (.ops all (pre ++ suf) :: ks) fr H) →
        o.still P a w (wpStill P all.toArray w (fun a' => ∃ m' fr', m' ≤ m + 1 ∧ run X Γ ord k Q m' (.ops all suf :: ks) fr' H ∧ Rel X k n E0 w0 fr' H a' w) pre) := by
      intro a fr hrel h
      unfold stepOp stepV at h
      obtain ⟨q1, q2⟩ := quietKind_spec (X := X) (fr := fr) (H := H) hq.1
      rw [quietAll_other (fun t n ps e => by rw [e] at hq; cases hq.1)] at h
      split at h
      · rename_i r hqq
        rw [fv_eq] at h
        obtain ⟨u, fr', hrun, h1, h2⟩ := quiet_step (next := fun fr H => run X Γ ord k Q m (.ops all (pre ++ suf) :: ks) fr H) G M hqq hrel hd h
        unfold Oper.still
        rw [hrun, Oper.stillUpon_value]
        exact mono (fr' := fr') (Nat.le_refl m) (still_of_run G M m pre fr' _ h1 h2 hok' hq.2)
      · rw [q1, q2] at h
        simp only at h
        split at h
        · rename_i s C hany
          obtain ⟨E, hf, hr, hx, hk, h1, h2⟩ := hrel
          obtain ⟨b, hC, hrun⟩ := anyB_sound (P := P) G hany hf hr
          obtain ⟨fr', n1, n2⟩ := Rel.put (next := fun fr H => run X Γ ord k Q m (.ops all (pre ++ suf) :: ks) fr H) hf hr hx hk h1 h2 hd (.bool (b == s)) (h b hC)
          unfold Oper.still
          rw [hrun, Oper.stillUpon_value]
          exact mono (fr' := fr') (Nat.le_refl m) (still_of_run G M m pre fr' _ n1 n2 hok' hq.2)
        · exact h.elim
    have skipit : ∀ (a : Act) (fr : Fr S), Rel X k n E0 w0 fr H a w → (land o.dst (.tup []) fr H fun fr H => run X Γ ord k Q m (.ops all (pre ++ suf) :: ks) fr H) →
        wpStill P all.toArray w (fun a' => ∃ m' fr', m' ≤ m + 1 ∧ run X Γ ord k Q m' (.ops all suf :: ks) fr' H ∧ Rel X k n E0 w0 fr' H a' w) pre (a.put o.dst undef) := by
      intro a fr hrel h
      obtain ⟨fr', h1, h2⟩ := hrel.skip hd (next := fun fr H => run X Γ ord k Q m (.ops all (pre ++ suf) :: ks) fr H) h
      exact mono (fr' := fr') (Nat.le_refl m) (still_of_run G M m pre fr' _ h1 h2 hok' hq.2)
    rw [List.cons_append] at h
    unfold run at h
    simp only at h
    split at h
    · rename_i hg
      unfold wpStill
      rw [if_pos (by simp [Region.wanted, hg])]
      exact doit a fr hrel h
    · rename_i j want hg
      split at h
      · exact h.elim
      · rename_i s hs
        split at h
        · rename_i hfs
          have hy := yielded_of hs (tt_of hf hfs)
          unfold wpStill
          split at h
          · rw [if_pos (by simp [Region.wanted, hg, hy])]; exact doit a fr hrel h
          · rw [if_neg (by simp [Region.wanted, hg, hy])]; exact skipit a fr hrel h
        · rename_i hfs
          have hy := yielded_of hs (ff_of hf hfs)
          unfold wpStill
          split at h
          · rw [if_neg (by simp [Region.wanted, hg, hy])]; exact skipit a fr hrel h
          · rw [if_pos (by simp [Region.wanted, hg, hy])]; exact doit a fr hrel h
        · rename_i vs hfs
          have hy := tup_of hs hf hfs
          unfold wpStill
          rw [if_neg (by simp [Region.wanted, hg, hy])]; exact skipit a fr hrel h
        · rename_i b hfs
          obtain ⟨ht, hff⟩ := Br_elim h
          have hb := bool_of hf hfs
          have fin : ∀ (fr' : Fr S), run X Γ ord k Q m (.ops all (o :: (pre ++ suf)) :: ks) fr' H → Rel X k n E0 w0 fr' H a w → _ := fun fr' h1 h2 => still_of_run G M m (o :: pre) fr' a h1 h2 hok (by simp only [List.all_cons, Bool.and_eq_true]; exact hq)
          have up : ∀ {hh : wpStill P all.toArray w (fun a' => ∃ m' fr', m' ≤ m ∧ run X Γ ord k Q m' (.ops all suf :: ks) fr' H ∧ Rel X k n E0 w0 fr' H a' w) (o :: pre) a}, wpStill P all.toArray w (fun a' => ∃ m' fr', m' ≤ m + 1 ∧ run X Γ ord k Q m' (.ops all suf :: ks) fr' H ∧ Rel X k n E0 w0 fr' H a' w) (o :: pre) a := by
            intro hh
            have : ∀ (l : List Oper) (a : Act) {K K' : Act → Prop}, (∀ a, K a → K' a) → wpStill P all.toArray w K l a → wpStill P all.toArray w K' l a := by
              intro l
              induction l with
              | nil => intro a K K' hkk h; exact hkk _ h
              | cons o l ih =>
                intro a K K' hkk h
                unfold wpStill at h ⊢
                split
                · rename_i hw; rw [if_pos hw] at h; exact Oper.still_mono (fun a => ih a hkk) h
                · rename_i hw; rw [if_neg hw] at h; exact ih _ hkk h
            exact this (o :: pre) a (fun a ⟨m'', fr', h1, h2, h3⟩ => ⟨m'', fr', by omega, h2, h3⟩) hh
          cases b with
          | true => exact up (hh := fin _ (ht rfl) (hrel.set fun E hf => by rw [hb]; exact .tt))
          | false => exact up (hh := fin _ (hff rfl) (hrel.set fun E hf => by rw [hb]; exact .ff))
        · exact h.elim

theorem post_other {it : It S} {ks : List (It S)} {e : Exit} (h1 : e ≠ .normal) (h2 : ∀ j, e ≠ .exit j) : Post P X k n E0 w0 Q (it :: ks) e a w = Post P X k n E0 w0 Q ks e a w := by
  cases it <;> cases e <;> first | rfl | exact absurd rfl h1 | exact absurd rfl (h2 _)
theorem post_ret : ∀ (ks : List (It S)), FP X k n E0 w0 Q a w → Post P X k n E0 w0 Q ks .ret a w
  | [], h => h
  | it :: ks, h => by rw [post_other (by simp) (by simp)]; exact post_ret ks h
theorem post_exit {id : Nat} : ∀ (ks ks' : List (It S)), popTo id ks = some ks' → Post P X k n E0 w0 Q ks' .normal a w → Post P X k n E0 w0 Q ks (.exit id) a w
  | [], _, h, _ => by cases h
  | .blk j :: r, ks', h, hp => by
    unfold popTo at h
    split at h
    · rename_i hb
      injection h with h; subst h
      have := Nat.eq_of_beq_eq_true hb; subst this
      simp [Post, hp]
    · rename_i hb
      have hne : id ≠ j := fun e => by subst e; rw [Nat.beq_refl] at hb; cases hb
      simp only [Post, if_neg hne]
      exact post_exit r ks' h hp
  | .ops _ _ :: r, ks', h, hp => post_exit r ks' h hp
  | .code _ :: r, ks', h, hp => post_exit r ks' h hp
  | .lpEnd _ _ _ :: r, ks', h, hp => post_exit r ks' h hp
theorem mono_ok {f : FuncId} (h : FnOk P X f (Γ f)) : FnOk P X f (mono Γ f) := by
  rintro args H K ⟨K0, h0, hk⟩ E w us ha hr
  rcases h args H K0 h0 E w us ha hr with ⟨h1, h2⟩ | ⟨v, u, h1, h2, h3⟩
  · refine .inl ⟨h1, h2.mono ?_⟩
    rintro e w' ⟨v, u, H', E', e1, e2, e3⟩
    exact ⟨v, u, H', E', e1, hk _ _ e2, e3⟩
  · exact .inr ⟨v, u, h1, hk _ _ h2, h3⟩

/-- a guard, in the model -/
theorem guarded_wanted {all : List Oper} {o : Oper} {A B : Prop} {E : Env} (h : guarded all o fr A B) (hf : FR X E fr a) : (Region.wanted o (yielded all.toArray a.tmps) = true ∧ A) ∨ (Region.wanted o (yielded all.toArray a.tmps) = false ∧ B) := by
  unfold guarded at h
  cases hg : o.guard with
  | none => rw [hg] at h; exact .inl ⟨by simp [Region.wanted, hg], h⟩
  | some p =>
    obtain ⟨j, want⟩ := p
    rw [hg] at h
    simp only at h
    cases hs : dstOf all j with
    | none => rw [hs] at h; exact h.elim
    | some s =>
      rw [hs] at h
      simp only at h
      cases hv : fr s <;> rw [hv] at h <;> simp only at h <;> try exact h.elim
      case tt =>
        have hy := yielded_of hs (tt_of hf hv)
        cases want
        · exact .inr ⟨by simp [Region.wanted, hg, hy], h⟩
        · exact .inl ⟨by simp [Region.wanted, hg, hy], h⟩
      case ff =>
        have hy := yielded_of hs (ff_of hf hv)
        cases want
        · exact .inl ⟨by simp [Region.wanted, hg, hy], h⟩
        · exact .inr ⟨by simp [Region.wanted, hg, hy], h⟩
      case tup =>
        have hy := tup_of hs hf hv
        exact .inr ⟨by simp [Region.wanted, hg, hy], h⟩
      case bool b =>
        have hy := yielded_of hs (bool_of hf hv)
        cases want <;> cases b <;> obtain ⟨h1, h2⟩ := Br_elim h
        · exact .inl ⟨by simp [Region.wanted, hg, hy], h2 rfl⟩
        · exact .inr ⟨by simp [Region.wanted, hg, hy], h1 rfl⟩
        · exact .inr ⟨by simp [Region.wanted, hg, hy], h2 rfl⟩
        · exact .inl ⟨by simp [Region.wanted, hg, hy], h1 rfl⟩

theorem mem_aft {o : Oper} {d : Nat} : d ∈ aft o ↔ ∃ e ∈ o.after, Region.binds .any e = true ∧ e.on = d := by
  unfold aft
  rw [List.mem_map]
  constructor
  · rintro ⟨e, he, rfl⟩
    rw [List.mem_filter] at he
    exact ⟨e, by simpa using he.1, he.2, rfl⟩
  · rintro ⟨e, he, hb, rfl⟩
    exact ⟨e, List.mem_filter.2 ⟨by simpa using he, hb⟩, rfl⟩

/-- all orders, in the model -/
theorem any_sound (G : Good P X) (M : GoodM P X) (hΓ : ∀ f, FnOk P X f (Γ f)) {all : List Oper} {K : Fr S → AH S → Prop} {Q' : Exit → Act → World → Prop} (hK : ∀ fr H a w, K fr H → Rel X k n E0 w0 fr H a w → Q' .normal a w) (hok : okOps n all = true) :
    ∀ (m : Nat) (D : List Nat) (fr : Fr S) (H : AH S) (a : Act) (w : World) (listed : Array Bool), anyRun X Γ all K m D fr H → Rel X k n E0 w0 fr H a w → listed.size = all.length → (∀ j, listed.getD j false = true ↔ j ∈ D) → wpAny P .any all.toArray Q' m listed a w := by
  have ready : ∀ (D : List Nat) (listed : Array Bool), listed.size = all.length → (∀ j, listed.getD j false = true ↔ j ∈ D) → ∀ j, j ∈ Region.ready .any all.toArray listed ↔ rdy all D j := by
    intro D listed hs hD j
    rw [mem_ready]
    unfold rdy
    constructor
    · rintro ⟨h1, o, ho, h2⟩
      have ho' : all[j]? = some o := by simpa using ho
      have hlt := (List.getElem?_eq_some_iff.1 ho').1
      refine ⟨fun hj => ?_, o, ho', fun d hd => ?_⟩
      · have := (hD j).2 hj
        simp [hs, hlt] at h1 this
        rw [this] at h1; cases h1
      · obtain ⟨e, he, hb, rfl⟩ := mem_aft.1 hd
        exact (hD _).1 (h2 e he hb)
    · rintro ⟨h1, o, ho, h2⟩
      have hlt := (List.getElem?_eq_some_iff.1 ho).1
      refine ⟨?_, o, by simpa using ho, fun e he hb => (hD _).2 (h2 _ (mem_aft.2 ⟨e, he, hb, rfl⟩))⟩
      cases hc : listed.getD j true with
      | false => rfl
      | true =>
        exfalso
        refine h1 ((hD j).1 ?_)
        simp [hs, hlt] at hc ⊢
        exact hc
  intro m
  induction m with
  | zero =>
    intro D fr H a w listed h hrel hs hD
    exact ⟨List.eq_nil_iff_forall_not_mem.2 fun j hj => h.1 j ((ready D listed hs hD j).1 hj), hK _ _ _ _ h.2 hrel⟩
  | succ m ih =>
    intro D fr H a w listed h hrel hs hD
    refine ⟨fun h0 => hK _ _ _ _ (h.1 fun i hi => ?_) hrel, fun i hi => ?_⟩
    · have := (ready D listed hs hD i).2 hi
      rw [h0] at this; cases this
    · have hr := (ready D listed hs hD i).1 hi
      obtain ⟨hiD, o, ho, hd⟩ := hr
      have hlt := (List.getElem?_eq_some_iff.1 ho).1
      have hg := h.2 i o ⟨hiD, o, ho, hd⟩ ho
      have hdst : ∀ d, o.dst = some d → d < n := by
        intro d hdd
        have := List.all_eq_true.1 hok o (List.mem_of_getElem? ho)
        rw [hdd] at this; simpa using this
      have nxt : ∀ fr' H' a' w', anyRun X Γ all K m (i :: D) fr' H' → Rel X k n E0 w0 fr' H' a' w' → wpAny P .any all.toArray Q' m (listed.setIfInBounds i true) a' w' := by
        intro fr' H' a' w' h1 h2
        refine ih (i :: D) fr' H' a' w' _ h1 h2 (by simp [hs]) fun j => ?_
        rw [List.mem_cons]
        by_cases e : i = j
        · subst e; simp [hs, hlt]
        · have : (listed.setIfInBounds i true).getD j false = listed.getD j false := by
            simp only [Array.getD_eq_getD_getElem?, Array.getElem?_setIfInBounds]
            rw [if_neg e]
          rw [this, hD j]
          exact ⟨.inr, fun h => h.resolve_left (Ne.symm e)⟩
      unfold wpOp
      have ho' : all.toArray[i]? = some o := by simpa using ho
      simp only [ho']
      obtain ⟨E, hf⟩ := hrel.frame
      rcases guarded_wanted hg hf with ⟨hw, h1⟩ | ⟨hw, h1⟩
      · rw [if_pos hw]
        exact .inl (stepOp_sound G M hΓ h1 hrel hdst fun fr' H' a' w' h2 h3 => nxt fr' H' a' w' h2 h3)
      · rw [if_neg (by rw [hw]; simp)]
        obtain ⟨fr', h2, h3⟩ := hrel.skip hdst (next := fun fr H => anyRun X Γ all K m (i :: D) fr H) h1
        exact nxt _ _ _ _ h2 h3

theorem popTo_ok {id : Nat} : ∀ (ks ks' : List (It S)), popTo id ks = some ks' → ks.all (okIt X ord n) = true → ks'.all (okIt X ord n) = true
  | [], _, h, _ => by cases h
  | .blk j :: r, ks', h, ho => by
    unfold popTo at h
    simp only [List.all_cons, Bool.and_eq_true] at ho
    split at h
    · injection h with h; subst h; exact ho.2
    · exact popTo_ok r ks' h ho.2
  | .ops _ _ :: r, ks', h, ho => by simp only [List.all_cons, Bool.and_eq_true] at ho; exact popTo_ok r ks' h ho.2
  | .code _ :: r, ks', h, ho => by simp only [List.all_cons, Bool.and_eq_true] at ho; exact popTo_ok r ks' h ho.2
  | .lpEnd _ _ _ :: r, ks', h, ho => by simp only [List.all_cons, Bool.and_eq_true] at ho; exact popTo_ok r ks' h ho.2

theorem Rel.drew (h : Rel X k n E0 w0 fr H a w) : Rel X k n E0 w0 fr H a { w with drawn := w.drawn + 1 } := by
  obtain ⟨E, hf, hr, hx, hk, h1, h2⟩ := h
  refine ⟨E, hf, ⟨hr.io, fun l hl => ?_, hr.inj, hr.im, hr.sep⟩, ⟨hx.le, hx.own, hx.fixed, hx.size, hx.frame, hx.os, hx.tape, hx.output⟩, hk, h1, h2⟩
  obtain ⟨p, hp, hb⟩ := hr.blk l hl
  exact ⟨p, hp, hb.mono (fun _ _ h => h) (fun _ _ h => h) (fun _ _ _ _ _ => rfl)⟩

/-- THE MACHINE: what its run says holds of the model's code -/
theorem run_sound (hm : P.follows .mixedOrders = true) (G : Good P X) (M : GoodM P X) (hΓ : ∀ f, FnOk P X f (Γ f)) : ∀ (m : Nat) (items : List (It S)) (fr : Fr S) (H : AH S) (a : Act) (w : World), run X Γ ord k Q m items fr H → Rel X k n E0 w0 fr H a w → items.all (okIt X ord n) = true →
    Post P X k n E0 w0 Q items .normal a w := by
  intro m
  induction m using Nat.strongRecOn with
  | _ m ih =>
  intro items fr H a w h hrel hok
  cases m with
  | zero => unfold run at h; exact h.elim
  | succ m =>
  have ih' := ih m (Nat.lt_succ_self m)
  cases items with
  | nil => unfold run at h; exact ⟨fr, H, h, hrel⟩
  | cons it ks =>
  simp only [List.all_cons, Bool.and_eq_true] at hok
  obtain ⟨hit, hks⟩ := hok
  cases it with
  | blk id => unfold run at h; exact ih' ks fr H a w h hrel hks
  | lpEnd live ms I =>
    unfold run at h
    obtain ⟨E, hf, hr, hx, hk, h1, h2⟩ := hrel
    obtain ⟨E', c1, c2, c3, c4⟩ := canon_sound G hk live ms hf hr h.1
    exact ⟨_, h.2, E', c1, c2, hx.trans c3, c4, h1, h2⟩
  | ops all rest =>
    unfold run at h
    simp only at h
    cases rest with
    | nil => exact ih' ks fr H a w h hrel hks
    | cons o r =>
      obtain ⟨hd, hr'⟩ := okOps_cons hit
      have hok' : (It.ops all r :: ks).all (okIt X ord n) = true := by simp only [List.all_cons, Bool.and_eq_true]; exact ⟨hr', hks⟩
      have doit : ∀ (fr : Fr S), Rel X k n E0 w0 fr H a w → stepOp X Γ fr H o (fun fr H => run X Γ ord k Q m (.ops all r :: ks) fr H) → Region.wanted o (yielded all.toArray a.tmps) = true → wpList P all.toArray (Post P X k n E0 w0 Q ks) (o :: r) a w := by
        intro fr hrel h hw
        refine wpList_step fun K hK => ?_
        rw [if_pos hw]
        exact stepOp_sound G M hΓ h hrel hd fun fr' H' a' w' h1 h2 => hK _ _ (ih' _ fr' H' a' w' h1 h2 hok')
      have skipit : ∀ (fr : Fr S), Rel X k n E0 w0 fr H a w → land o.dst (.tup []) fr H (fun fr H => run X Γ ord k Q m (.ops all r :: ks) fr H) → Region.wanted o (yielded all.toArray a.tmps) = false → wpList P all.toArray (Post P X k n E0 w0 Q ks) (o :: r) a w := by
        intro fr hrel h hw
        refine wpList_step fun K hK => ?_
        rw [if_neg (by rw [hw]; simp)]
        obtain ⟨fr', h1, h2⟩ := hrel.skip hd (next := fun fr H => run X Γ ord k Q m (.ops all r :: ks) fr H) h
        exact hK _ _ (ih' _ fr' H _ w h1 h2 hok')
      obtain ⟨E, hf⟩ := hrel.frame
      show wpList P all.toArray (Post P X k n E0 w0 Q ks) (o :: r) a w
      simp only at h
      split at h
      · rename_i hg
        exact doit fr hrel h (by simp [Region.wanted, hg])
      · rename_i j want hg
        split at h
        · exact h.elim
        · rename_i s hs
          split at h
          · rename_i hfs
            have hy := yielded_of hs (tt_of hf hfs)
            split at h
            · exact doit fr hrel h (by simp [Region.wanted, hg, hy])
            · exact skipit fr hrel h (by simp [Region.wanted, hg, hy])
          · rename_i hfs
            have hy := yielded_of hs (ff_of hf hfs)
            split at h
            · exact skipit fr hrel h (by simp [Region.wanted, hg, hy])
            · exact doit fr hrel h (by simp [Region.wanted, hg, hy])
          · rename_i vs hfs
            have hy := tup_of hs hf hfs
            exact skipit fr hrel h (by simp [Region.wanted, hg, hy])
          · rename_i b hfs
            obtain ⟨ht, hff⟩ := Br_elim h
            have hb := bool_of hf hfs
            have hok2 : (It.ops all (o :: r) :: ks).all (okIt X ord n) = true := by simp only [List.all_cons, Bool.and_eq_true]; exact ⟨hit, hks⟩
            cases b with
            | true => exact ih' (.ops all (o :: r) :: ks) _ H a w (ht rfl) (hrel.set fun E hf => by rw [hb]; exact .tt) hok2
            | false => exact ih' (.ops all (o :: r) :: ks) _ H a w (hff rfl) (hrel.set fun E hf => by rw [hb]; exact .ff) hok2
          · exact h.elim
  | code c =>
    unfold run at h
    simp only at h
    show c.wp P (Post P X k n E0 w0 Q ks) a w
    have hit' : okCode X ord n c = true := hit
    cases c with
    | skip => exact wp_skip (ih' ks fr H a w h hrel hks)
    | label l => exact wp_label (ih' ks fr H a w h hrel hks)
    | seq c1 c2 =>
      simp only [okCode, Bool.and_eq_true] at hit'
      have := ih' (.code c1 :: .code c2 :: ks) fr H a w h hrel (by simp only [List.all_cons, Bool.and_eq_true]; exact ⟨hit'.1, hit'.2, hks⟩)
      refine wp_seq (wp_mono this fun e a' w' q => ?_)
      cases e <;> exact q
    | cond x c1 c2 =>
      simp only [okCode, Bool.and_eq_true] at hit'
      obtain ⟨E, hf⟩ := hrel.frame
      have hx := vr_opd hf x
      simp only at h
      split at h
      · rename_i hc
        rw [hc] at hx; generalize hcc : a.eval x = cc at hx; cases hx
        exact wp_cond_true hcc (ih' (.code c1 :: ks) fr H a w h hrel (by simp only [List.all_cons, Bool.and_eq_true]; exact ⟨hit'.1, hks⟩))
      · rename_i hc
        rw [hc] at hx; generalize hcc : a.eval x = cc at hx; cases hx
        exact wp_cond_false hcc (ih' (.code c2 :: ks) fr H a w h hrel (by simp only [List.all_cons, Bool.and_eq_true]; exact ⟨hit'.2, hks⟩))
      · rename_i t hc
        rw [hc] at hx; generalize hcc : a.eval x = cc at hx; cases hx
        split at h
        · rename_i s
          obtain ⟨ht, hff⟩ := Br_elim h
          have hb : a.tmps.getD s undef = .bool t := hcc
          cases t with
          | true => exact wp_cond_true hcc (ih' (.code c1 :: ks) _ H a w (ht rfl) (hrel.set fun E hf => by rw [hb]; exact .tt) (by simp only [List.all_cons, Bool.and_eq_true]; exact ⟨hit'.1, hks⟩))
          | false => exact wp_cond_false hcc (ih' (.code c2 :: ks) _ H a w (hff rfl) (hrel.set fun E hf => by rw [hb]; exact .ff) (by simp only [List.all_cons, Bool.and_eq_true]; exact ⟨hit'.2, hks⟩))
        · exact h.elim
      · exact h.elim
    | block id c1 =>
      simp only [okCode] at hit'
      have := ih' (.code c1 :: .blk id :: ks) fr H a w h hrel (by simp only [List.all_cons, Bool.and_eq_true]; exact ⟨hit', rfl, hks⟩)
      refine wp_block (wp_mono this fun e a' w' q => ?_)
      cases e <;> exact q
    | exit id =>
      simp only at h
      split at h
      · rename_i ks' hp
        exact wp_exit (post_exit ks ks' hp (ih' ks' fr H a w h hrel (popTo_ok ks ks' hp hks)))
      · exact h.elim
    | ret => exact wp_ret (post_ret ks ⟨fr, H, h, hrel⟩)
    | loop c1 =>
      simp only [okCode] at hit'
      obtain ⟨live, ms, α, shape, Inv, μ, ⟨hpm, a0, ha0, hinv0⟩, hround⟩ := h
      obtain ⟨E, hf, hr, hx, hk, h1, h2⟩ := hrel
      obtain ⟨E', b1, b2, b3, b4⟩ := canon_sound G hk live ms hf hr hpm
      rw [ha0] at b1 b2 b4
      refine wp_loop_ghost (fun q a w => ∃ x, μ x = q ∧ Inv x ∧ Rel X k n E0 w0 (shape x).1 (shape x).2 a w) (μ a0) ⟨a0, rfl, hinv0, E', b1, b2, hx.trans b3, b4, h1, h2⟩ ?_
      rintro q a w ⟨x, rfl, hix, hrx⟩
      have := ih' (.code c1 :: .lpEnd live ms (fun s => ∃ b, s = shape b ∧ Inv b ∧ μ b < μ x) :: ks) _ _ a w (hround x hix) hrx (by simp only [List.all_cons, Bool.and_eq_true]; exact ⟨hit', rfl, hks⟩)
      refine wp_mono this fun e a' w' q => ?_
      cases e with
      | normal =>
        obtain ⟨s, ⟨y, rfl, hiy, hlt⟩, hs⟩ := q
        exact ⟨μ y, hlt, y, rfl, hiy, hs⟩
      | _ => exact q
    | region id ops d =>
      simp only [okCode, Bool.and_eq_true] at hit'
      simp only at h
      cases hord : ord id with
      | cons i0 r0 =>
        rw [hord] at h hit'
        have hit1 := hit'.1
        have hoo : (d && okOrd X ops.toList (i0 :: r0)) = true := hit'.2
        simp only at h
        cases d with
        | false => simp at hoo
        | true =>
        simp only [Bool.true_and] at hoo
        refine wp_region_any hm ?_
        have hlen : ops.toList.length = ops.size := by simp
        have hany := canon_any0 (X := X) (by simpa using hoo) h
        have := any_sound (P := P) (Q' := Post P X k n E0 w0 Q ks) G M (fun f => mono_ok (hΓ f)) (all := ops.toList) (fun fr H a w h1 h2 => ih' ks fr H a w h1 h2 hks) hit1 _ [] fr H a { w with drawn := w.drawn + 1 } (Array.replicate ops.size false) hany hrel.drew (by simp) (fun j => by rw [getD_replicate_false]; simp)
        have hsz : ((i0 :: r0).length) = ops.size := by
          have := okOrd_length (X := X) (by simpa using hoo)
          omega
        rw [hsz] at this
        simpa using this
      | nil =>
      rw [hord] at h hit'
      simp only at h hit'
      cases d with
      | false =>
        have := ih' (.ops ops.toList ops.toList :: ks) fr H a w h hrel (by simp only [List.all_cons, Bool.and_eq_true]; exact ⟨hit'.1, hks⟩)
        refine wp_region_list ?_
        simpa [Post] using this
      | true =>
        obtain ⟨l, rfl⟩ : ∃ l : List Oper, ops = l.toArray := ⟨ops.toList, by simp⟩
        simp only at h hit'
        have hdr := hit'.2
        simp only [Bool.not_true, Bool.false_or, okDraw, Bool.or_eq_true, Bool.and_eq_true, List.any_eq_true] at hdr
        have hrel' := hrel.drew
        rcases hdr with ⟨d1, d2⟩ | ⟨t, _, d1, d2⟩
        · refine wp_region_still_lit hm d1 ?_
          have := still_of_run (P := P) (w := { w with drawn := w.drawn + 1 }) G M (suf := []) m l fr a (by simpa using h) hrel' (by simpa using hit'.1) d2
          have conv : ∀ (l' : List Oper) (a : Act) {K K' : Act → Prop}, (∀ a, K a → K' a) → wpStill P l.toArray { w with drawn := w.drawn + 1 } K l' a → wpStill P l.toArray { w with drawn := w.drawn + 1 } K' l' a := by
            intro l'
            induction l' with
            | nil => intro a K K' hkk h; exact hkk _ h
            | cons o l' ihl =>
              intro a K K' hkk h
              unfold wpStill at h ⊢
              split
              · rename_i hw; rw [if_pos hw] at h; exact Oper.still_mono (fun a => ihl a hkk) h
              · rename_i hw; rw [if_neg hw] at h; exact ihl _ hkk h
          refine conv l a ?_ this
          rintro a' ⟨m', fr', hle, hrun, hrl⟩
          have := ih m' (by omega) (.ops l [] :: ks) fr' H a' _ hrun hrl (by simp only [List.all_cons, Bool.and_eq_true]; exact ⟨rfl, hks⟩)
          exact this
        · refine wp_region_still_tail t hm d1 ?_
          have := still_of_run (P := P) (w := { w with drawn := w.drawn + 1 }) G M (suf := l.drop t) m (l.take t) fr a (by rw [List.take_append_drop]; exact h) hrel' (by rw [List.take_append_drop]; exact hit'.1) d2
          have conv : ∀ (l' : List Oper) (a : Act) {K K' : Act → Prop}, (∀ a, K a → K' a) → wpStill P l.toArray { w with drawn := w.drawn + 1 } K l' a → wpStill P l.toArray { w with drawn := w.drawn + 1 } K' l' a := by
            intro l'
            induction l' with
            | nil => intro a K K' hkk h; exact hkk _ h
            | cons o l' ihl =>
              intro a K K' hkk h
              unfold wpStill at h ⊢
              split
              · rename_i hw; rw [if_pos hw] at h; exact Oper.still_mono (fun a => ihl a hkk) h
              · rename_i hw; rw [if_neg hw] at h; exact ihl _ hkk h
          refine conv (l.take t) a ?_ this
          rintro a' ⟨m', fr', hle, hrun, hrl⟩
          have hdrop : okOps n (l.drop t) = true := by
            have := hit'.1
            simp only [okOps, List.all_eq_true] at this ⊢
            exact fun o ho => this o (List.mem_of_mem_drop ho)
          exact ih m' (by omega) (.ops l (l.drop t) :: ks) fr' H a' _ hrun hrl (by simp only [List.all_cons, Bool.and_eq_true]; exact ⟨hdrop, hks⟩)
    | scope c => exact h.elim
    | goto l => exact h.elim
    | rangeFunc => exact h.elim
    | refuse => exact h.elim

/-- the frame in which a body begins -/
def frameFrom (args : List (AV S)) (i : Nat) : Fr S :=
  match args with
  | [] => fun _ => .top
  | v :: r => upd i v (frameFrom r (i + 1))
theorem frame0_eq (args : List (AV S)) : ∀ (i : Nat) (K : Fr S → Prop), frame0 args i K = K (frameFrom args i) := by
  induction args with
  | nil => intro i K; rfl
  | cons v r ih =>
    intro i K
    show fv v (fun v => frame0 r (i + 1) fun fr => K (upd i v fr)) = _
    rw [fv_eq, ih]; rfl
theorem frameFrom_lt (args : List (AV S)) : ∀ (i t : Nat), t < i → frameFrom args i t = .top := by
  induction args with
  | nil => intro i t _; rfl
  | cons v r ih => intro i t h; unfold frameFrom; rw [upd_eq, if_neg (by omega), ih _ _ (by omega)]
theorem frameFrom_get (args : List (AV S)) : ∀ (i t : Nat), frameFrom args i (i + t) = args.getD t .top := by
  induction args with
  | nil => intro i t; simp [frameFrom]
  | cons v r ih =>
    intro i t
    unfold frameFrom
    rw [upd_eq]
    cases t with
    | zero => simp
    | succ t => rw [if_neg (by omega), show i + (t + 1) = i + 1 + t by omega, ih]; simp

theorem frame0_sound {E : Env} {args : List (AV S)} {us : Array Value} (h : VRs X E args us.toList) (n : Nat) : FR X E (frameFrom args 0) { tmps := us ++ Array.replicate (n - us.size) undef, defers := [] } := by
  intro t
  have := frameFrom_get args 0 t
  rw [Nat.zero_add] at this
  rw [this]
  have hl : args.length = us.size := by simpa using h.1
  by_cases ht : t < args.length
  · have h1 : args[t]? = some args[t] := by simp [ht]
    have hu : t < us.size := by omega
    have h2 : us.toList[t]? = some us[t] := by simp [hu]
    have hv := h.2 t _ _ h1 h2
    rw [List.getD_eq_getElem?_getD, h1, Array.getD_eq_getD_getElem?, Array.getElem?_append, if_pos hu, Array.getElem?_eq_getElem hu]
    exact hv
  · rw [List.getD_eq_getElem?_getD, List.getElem?_eq_none (by omega)]
    exact .top _

theorem resultsOf_sound (G : Good P X) {E : Env} (hf : FR X E fr a) (hr : HR X E H w) : ∀ (rs : List ResultVar) (vs : List (AV S)), resultsOf X fr H rs = some vs →
    ∃ us, (rs.mapM fun r => (match r with | .tmp t => pure (a.tmps.getD t undef) | .cell b t => do loadVar t (← asAddr (a.tmps.getD b undef)) : Sem Value)).run P w = .ok us w ∧ VRs X E vs us
  | [], vs, h => by injection h with h; subst h; exact ⟨[], by simp, VRs.nil⟩
  | .tmp t :: rs, vs, h => by
    unfold resultsOf at h
    split at h
    · rename_i vs' hv
      injection h with h; subst h
      obtain ⟨us, h1, h2⟩ := resultsOf_sound G hf hr rs vs' hv
      exact ⟨_ :: us, by simp only [List.mapM_cons, Sem.run_bind, Sem.run_pure, Result.andThen_ok, h1], VRs.cons (hf t) h2⟩
    · cases h
  | .cell b t :: rs, vs, h => by
    unfold resultsOf at h
    split at h
    · rename_i x hx
      split at h
      · rename_i hob
        split at h
        · rename_i vs' hv
          injection h with h; subst h
          obtain ⟨us, h1, h2⟩ := resultsOf_sound G hf hr rs vs' hv
          obtain ⟨_, u, hu, hvu⟩ := aload_sound G hx (fun p hp => by rw [hob] at hp; cases hp) hr (hf b)
          have hptr : ∃ ad, a.tmps.getD b undef = .pointer (some ad) := by
            have hb := hf b
            unfold aload at hx
            split at hx
            · rename_i l row sb hfb; rw [hfb] at hb; generalize a.tmps.getD b undef = u at hb ⊢; cases hb; exact ⟨_, rfl⟩
            · rename_i cs sb hfb; rw [hfb] at hb; generalize a.tmps.getD b undef = u at hb ⊢; cases hb; exact ⟨_, rfl⟩
            · cases hx
          obtain ⟨ad, had⟩ := hptr
          refine ⟨u :: us, ?_, VRs.cons hvu h2⟩
          rw [had] at hu
          simp only [Instr.loadAt, Instr.sureAddr, Sem.run_bind, Sem.run_pure, Result.andThen_ok] at hu
          have e2 : (asAddr (a.tmps.getD b undef)).run P w = .ok ad w := by rw [had]; rfl
          simp only [List.mapM_cons, Sem.run_bind, e2, Sem.run_pure, Result.andThen_ok, hu, h1]
        · cases h
      · cases h
    · cases h

theorem array_mapM_run {α β : Type} (f : α → Sem β) (xs : Array α) (us : List β) (h : (xs.toList.mapM f).run P w = .ok us w) : (xs.mapM f).run P w = .ok us.toArray w := by
  have e : xs.mapM f = List.toArray <$> xs.toList.mapM f := by
    rw [Array.mapM_eq_mapM_toList]
  rw [e]
  simp only [Sem.run_map, h, Result.andThen_ok]

/-- A FUNCTION OF THE PROGRAM, BY ITS BODY -/
theorem fn_okO (hm : P.follows .mixedOrders = true) (G : Good P X) (M : GoodM P X) (Γ : FuncId → Spec S) (hΓ : ∀ f, FnOk P X f (Γ f)) {f : FuncId} {fn : Func} {c : Code} (hf : P.funcs[f]? = some fn) (hb : fn.body = some c)
    (hname : (fn.name == "runtime.NumGoroutine") = false) (ord : Nat → List (Nat × List Nat)) (hok : okCode X ord fn.ntmps c = true) (spec : Spec S) (h : ∀ args H K, spec args H K → abodyO X Γ ord fn c args H K) : FnOk P X f spec := by
  intro args H K hs E w us ha hr
  refine .inl ⟨fun w => ?_, ?_⟩
  · have hp : (program).run P w = .ok P w := rfl
    simp only [callFunc, Sem.run_bind, hp, Result.andThen_ok, hf, hname, hb, Option.isNone_some, Bool.false_eq_true, if_false, Sem.run_pure]
  · have hbody := h args H K hs
    unfold abodyO at hbody
    split at hbody
    · exact hbody.elim
    · rename_i hle
      rw [frame0_eq] at hbody
      have hle' := Nat.le_of_ble_eq_true hle
      have hl : args.length = us.size := by simpa using ha.1
      have hsz : (us ++ Array.replicate (fn.ntmps - us.size) undef).size = fn.ntmps := by simp; omega
      have hrel : Rel X H.length fn.ntmps E w (frameFrom args 0) H { tmps := us ++ Array.replicate (fn.ntmps - us.size) undef, defers := [] } w :=
        ⟨E, frame0_sound ha fn.ntmps, hr, Ext.refl _ _ _, Nat.le_refl _, hsz, rfl⟩
      have hrun := run_sound hm G M hΓ 100000 [.code c] _ H _ w hbody hrel (by simp only [List.all_cons, List.all_nil, Bool.and_true]; exact hok)
      refine calls_of_wp hf hb (wp_mono hrun ?_)
      have fin : ∀ a' w', FP X H.length fn.ntmps E w (fun fr H' => ∃ ms : List Mat, (mats X fr H' ms).1 ∧ finish X fn (keeps ms) H.length K (mats X fr H' ms).2.1 (mats X fr H' ms).2.2) a' w' →
          a'.defers = [] ∧ ∃ v, (results fn a'.tmps).run P w' = .ok v w' ∧ ∃ v_1 u H' E', Ending.returned v = .returned u ∧ K v_1 H' ∧ VR X E' v_1 u ∧ HR X E' H' w' ∧ Ext H.length E w E' w' := by
        rintro a' w' ⟨fr0, H0, ⟨ms, hpm, hq⟩, E0', hf0, hr0, hx0, hk0, hsz', hdf⟩
        refine ⟨hdf, ?_⟩
        obtain ⟨E', hf', hr', hx1, hk1⟩ := mats_sound G ms fr0 H0 E0' hf0 hr0 hpm
        generalize (mats X fr0 H0 ms).2.1 = fr at hf' hq
        generalize (mats X fr0 H0 ms).2.2 = H' at hf' hr' hk1 hq
        have hx := hx0.trans (hx1 _ hk0)
        have hk : H.length ≤ H'.length := by omega
        unfold finish at hq
        split at hq
        · rename_i vs hvs
          rw [forceN_eq] at hq
          obtain ⟨us', h1, h2⟩ := resultsOf_sound G hf' hr' _ _ hvs
          have hres : ∃ u, (results fn a'.tmps).run P w' = .ok u w' ∧ VR X E' (tupled vs) u := by
            have hmm := array_mapM_run _ fn.results us' h1
            have hl' := h2.1
            have key : (results fn a'.tmps).run P w' = .ok (if h : us'.toArray.size = 1 then us'.toArray[0] else .tuple us'.toArray) w' := by
              unfold results
              rw [Sem.run_bind]
              exact congrArg (fun r => Result.andThen r fun (vs : Array Value) w => Sem.run P (pure (if h : vs.size = 1 then vs[0] else .tuple vs)) w) hmm
            rw [key]
            by_cases hone : vs.length = 1
            · obtain ⟨v, rfl⟩ : ∃ v, vs = [v] := by
                match vs, hone with
                | [v], _ => exact ⟨v, rfl⟩
              obtain ⟨u, us'', rfl, hvu, hn⟩ := h2.inv_cons
              have := hn.inv_nil; subst this
              exact ⟨u, by simp, hvu⟩
            · refine ⟨.tuple us'.toArray, ?_, ?_⟩
              · have : ¬ us'.length = 1 := by omega
                simp [this]
              · have : tupled vs = .tup vs := by
                  match vs, hone with
                  | [], _ => rfl
                  | _ :: _ :: _, _ => rfl
                rw [this]
                exact vr_tup_mk (by simpa using h2)
          obtain ⟨u, hu, hvu⟩ := hres
          have hmet : Met H' (order (keeps ms) H.length H' [tupled vs]) := met_filter (reach_met _ _ _ ⟨List.nodup_nil, fun l hl => by simp at hl⟩) _
          exact ⟨u, hu, _, u, _, _, rfl, hq, vr_ren G moves_canon _ _ _ hvu, hr'.canon G hk hmet, hx.trans Ext.canon⟩
        · exact hq.elim
      intro e a' w' q
      cases e with
      | normal => exact fin a' w' q
      | ret => exact fin a' w' q
      | exit id => simp [Post] at q
      | goto l => simp [Post] at q
      | panic ch => simp [Post] at q
      | outgrown => simp [Post] at q

theorem fn_ok (hm : P.follows .mixedOrders = true) (G : Good P X) (M : GoodM P X) (Γ : FuncId → Spec S) (hΓ : ∀ f, FnOk P X f (Γ f)) {f : FuncId} {fn : Func} {c : Code} (hf : P.funcs[f]? = some fn) (hb : fn.body = some c)
    (hname : (fn.name == "runtime.NumGoroutine") = false) (hok : okCode X (fun _ => []) fn.ntmps c = true) (spec : Spec S) (h : ∀ args H K, spec args H K → abody X Γ fn c args H K) : FnOk P X f spec :=
  fn_okO hm G M Γ hΓ hf hb hname (fun _ => []) hok spec h

/-- a function without a body, taken from the model's own table -/
theorem fn_ext {f : FuncId} {g : List (AV S) → Option (AV S)} (h : ∀ args v, g args = some v → ∀ (E : Env) (w : World) (us : Array Value), VRs X E args us.toList → ∃ u, (callFunc f us).run P w = .ok (.value u) w ∧ VR X E v u) :
    FnOk P X f fun args H K => match g args with | some v => K v H | none => False := by
  intro args H K hs E w us ha hr
  split at hs
  · rename_i v hv
    obtain ⟨u, h1, h2⟩ := h args v hv E w us ha
    exact .inr ⟨v, u, h1, hs, h2⟩
  · exact hs.elim
theorem fn_none {f : FuncId} : FnOk P X f (fun _ _ _ => False) := fun _ _ _ h => h.elim
end
end Ev
