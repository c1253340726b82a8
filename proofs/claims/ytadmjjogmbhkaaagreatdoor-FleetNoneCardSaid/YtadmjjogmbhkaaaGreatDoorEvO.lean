/- Regions that draw an order: a run in one order stands for the runs in all orders. Nothing of the model's memory here. -/
import Derived.Test.YtadmjjogmbhkaaaGreatDoorEv0
import Derived.Orders
namespace Ev
open Go
variable {S : Sig} (X : Ctx S)

/-- operations whose answer is read off, and never depends on the order of what writes elsewhere -/
def quietK (op : Op) : Bool := match op with
  | .move _ | .assign _ | .pick _ _ _ | .build _ _ | .load _ _ | .nilCheck _ | .unOp _ _ _ | .convert _ _ _ | .makeFunc _ _ _ | .slice _ _ _ _ _ | .fieldAddr _ _ _ | .field _ _ _ | .indexAddr _ _ _ | .index _ _ _ | .extract _ _ | .lookup _ _ _ _ => true
  | .buildSlice t _ _ => X.bs t
  | .binOp _ t _ _ _ => match X.L.ds t with
    | .slice _ => false
    | _ => true
  | .call c => match c.callee with
    | .builtin .len | .builtin .max | .builtin .min => true
    | _ => false
  | _ => false
/-- of these, those that do not read memory -/
def pureK : Op → Bool
  | .move _ | .assign _ | .pick _ _ _ | .build _ _ | .nilCheck _ | .binOp _ _ _ _ _ | .unOp _ _ _ | .makeFunc _ _ _ | .fieldAddr _ _ _ | .field _ _ _ | .index _ _ _ | .extract _ _ | .buildSlice _ _ _ => true
  | _ => false

variable {X} {fr fr2 : Fr S} {H H2 : AH S}

/-- frames that agree on an operation's slots -/
def Agree (fr fr2 : Fr S) (l : List Nat) : Prop := ∀ t ∈ l, fr t = fr2 t
def tmpsOf (l : List Operand) : List Nat := l.filterMap fun | .tmp t => some t | _ => none
theorem opd_congr {x : Operand} {l : List Operand} (h : Agree fr fr2 (tmpsOf l)) (hx : x ∈ l) : opd fr x = opd fr2 x := by
  cases x with
  | tmp t => exact h t (List.mem_filterMap.2 ⟨_, hx, rfl⟩)
  | _ => rfl
theorem map_opd {l l' : List Operand} (h : Agree fr fr2 (tmpsOf l)) (hl : ∀ x ∈ l', x ∈ l) : l'.map (opd fr) = l'.map (opd fr2) := List.map_congr_left fun x hx => opd_congr h (hl x hx)
theorem map_parts {ps : List (Nat × Operand)} {l : List Operand} (h : Agree fr fr2 (tmpsOf l)) (hl : ∀ p ∈ ps, p.2 ∈ l) : (ps.map fun p => (p.1, opd fr p.2)) = ps.map fun p => (p.1, opd fr2 p.2) :=
  List.map_congr_left fun p hp => by rw [opd_congr h (hl p hp)]
theorem opt_opd {x : Option Operand} {l : List Operand} (h : Agree fr fr2 (tmpsOf l)) (hl : ∀ y, x = some y → y ∈ l) : x.map (opd fr) = x.map (opd fr2) := by
  cases x with
  | none => rfl
  | some y => simp only [Option.map_some]; rw [opd_congr h (hl y rfl)]

theorem step_congr (op : Op) (h : Agree fr fr2 (tmpsOf op.operands.toList)) :
    quietAll X fr H op = quietAll X fr2 H op ∧ loudAll X fr H op = loudAll X fr2 H op ∧ calls fr op = calls fr2 op ∧ anyB X fr op = anyB X fr2 op := by
  have o : ∀ x ∈ op.operands.toList, opd fr x = opd fr2 x := fun x hx => opd_congr h hx
  cases op with
  | build t ps =>
    have e := map_parts (ps := ps.toList) h (fun p hp => by simp only [Op.operands]; exact List.mem_map.2 ⟨p, hp, rfl⟩)
    simp [quietAll, quietAll0, semi, quiet, quiet2, loudAll, loud, loud2, calls, anyB, e]
  | buildSlice t n ps =>
    have e := map_parts (ps := ps.toList) h (fun p hp => by simp only [Op.operands]; exact List.mem_map.2 ⟨p, hp, rfl⟩)
    simp [quietAll, quietAll0, semi, quiet, quiet2, loudAll, loud, loud2, calls, anyB, e]
  | slice t x lo hi mx =>
    have e1 := o x (by simp [Op.operands])
    have e2 := opt_opd (x := lo) h (fun y hy => by subst hy; simp [Op.operands])
    have e3 := opt_opd (x := hi) h (fun y hy => by subst hy; simp [Op.operands])
    have e4 := opt_opd (x := mx) h (fun y hy => by subst hy; simp [Op.operands])
    simp [quietAll, quietAll0, semi, quiet, quiet2, loudAll, loud, loud2, calls, anyB, e1, e2, e3, e4]
  | makeFunc f first caps =>
    have e := map_opd (l' := caps.toList) h (fun x hx => by simp only [Op.operands]; simp; exact .inr (by simpa using hx))
    cases f <;> simp [quietAll, quietAll0, semi, quiet, quiet2, loudAll, loud, loud2, calls, anyB, e]
  | call c =>
    obtain ⟨callee, args, ats⟩ := c
    have e := map_opd (l' := args.toList) h (fun x hx => by simp only [Op.operands, Go.Call.operands]; cases callee <;> simp_all)
    cases callee with
    | value f =>
      have e1 := o f (by simp [Op.operands, Go.Call.operands])
      simp [quietAll, quietAll0, semi, quiet, quiet2, loudAll, loud, loud2, calls, anyB, e, e1]
    | invoke r m => simp [quietAll, quietAll0, semi, quiet, quiet2, loudAll, loud, loud2, calls, anyB]
    | builtin b => cases b <;> simp [quietAll, quietAll0, semi, quiet, quiet2, loudAll, loud, loud2, calls, anyB, e]
  | makeMap t r => cases r <;> simp [quietAll, quietAll0, semi, quiet, quiet2, loudAll, loud, loud2, calls, anyB]
  | _ => simp_all [quietAll, quietAll0, semi, quiet, quiet2, loudAll, loud, loud2, calls, anyB, Op.operands]

theorem pure_indep0 {op : Op} (hp : pureK op = true) {r : Res S} (h : quietAll0 X fr H op = some r) : ∃ r', quietAll0 X fr H2 op = some r' ∧ r'.v = r.v ∧ r'.ob = r.ob := by
  have stl : ∀ {H H2 : AH S} {v : Option (AV S)} {r : Res S}, still H v = some r → ∃ r', still H2 v = some r' ∧ r'.v = r.v ∧ r'.ob = r.ob := by
    intro H H2 v r h
    cases v with
    | none => cases h
    | some v => injection h with h; subst h; exact ⟨_, rfl, rfl, rfl⟩
  have q2 : ∀ {r : Res S}, quiet X fr H op = some r → (∃ r', quiet X fr H2 op = some r' ∧ r'.v = r.v ∧ r'.ob = r.ob) → ∃ r', quietAll0 X fr H2 op = some r' ∧ r'.v = r.v ∧ r'.ob = r.ob := by
    rintro r _ ⟨r', h1, h2⟩
    exact ⟨r', by unfold quietAll0; rw [h1], h2⟩
  cases hq : quiet X fr H op with
  | some r0 =>
    have e : r0 = r := by unfold quietAll0 at h; rw [hq] at h; injection h
    subst e
    refine q2 hq ?_
    cases op <;> simp only [pureK, Bool.false_eq_true] at hp <;> simp only [quiet] at hq ⊢
    case move x => injection hq with hq; subst hq; exact ⟨_, rfl, rfl, rfl⟩
    case assign x => injection hq with hq; subst hq; exact ⟨_, rfl, rfl, rfl⟩
    case pick c a b =>
      split at hq
      · injection hq with hq; subst hq; exact ⟨_, rfl, rfl, rfl⟩
      · injection hq with hq; subst hq; exact ⟨_, rfl, rfl, rfl⟩
      · split at hq
        · injection hq with hq; subst hq; exact ⟨_, rfl, rfl, rfl⟩
        · split at hq
          · injection hq with hq; subst hq; exact ⟨_, rfl, rfl, rfl⟩
          · injection hq with hq; subst hq; exact ⟨_, rfl, rfl, rfl⟩
      · cases hq
    case nilCheck x =>
      split at hq
      · injection hq with hq; subst hq; exact ⟨_, rfl, rfl, rfl⟩
      · injection hq with hq; subst hq; exact ⟨_, rfl, rfl, rfl⟩
      · cases hq
    case binOp =>
      unfold stillOb at hq ⊢
      split at hq
      · injection hq with hq; subst hq; exact ⟨_, rfl, rfl, rfl⟩
      · cases hq
    case makeFunc f first caps =>
      cases f with
      | func f =>
        simp only at hq ⊢
        split at hq
        · injection hq with hq; subst hq; exact ⟨_, rfl, rfl, rfl⟩
        · cases hq
      | _ => cases hq
    case index t x i =>
      unfold aindex at hq ⊢
      repeat' split at hq
      all_goals first | (cases hq; done) | (injection hq with hq; subst hq; exact ⟨_, rfl, rfl, rfl⟩)
    case extract x i =>
      split at hq
      · exact stl hq
      · cases hq
    case buildSlice => cases hq
    all_goals exact stl hq
  | none =>
    have h2 : quiet2 X fr H op = some r := by unfold quietAll0 at h; rw [hq] at h; exact h
    cases op <;> simp only [pureK, Bool.false_eq_true] at hp <;> simp only [quiet2] at h2 <;> try (cases h2; done)
    case build t ps =>
      have hq2 : quiet X fr H2 (.build t ps) = none := by
        simp only [quiet] at hq ⊢
        cases ha : abuild X t (ps.toList.map fun p => (p.1, opd fr p.2)) with
        | none => rfl
        | some v => rw [ha] at hq; cases hq
      unfold quietAll0
      rw [hq2]
      simp only [quiet2]
      repeat' split at h2
      all_goals first | (cases h2; done) | (injection h2 with h2; subst h2; exact ⟨_, rfl, rfl, rfl⟩)

theorem quietAll_other {op : Op} (h : ∀ t n ps, op ≠ .buildSlice t n ps) (H : AH S) : quietAll X fr H op = quietAll0 X fr H op := by
  unfold quietAll
  cases quietAll0 X fr H op with
  | some r => rfl
  | none => cases op <;> first | rfl | exact absurd rfl (h _ _ _)
theorem pure_indep {op : Op} (hp : pureK op = true) {r : Res S} (h : quietAll X fr H op = some r) : ∃ r', quietAll X fr H2 op = some r' ∧ r'.v = r.v ∧ r'.ob = r.ob := by
  by_cases hb : ∃ t n ps, op = .buildSlice t n ps
  · obtain ⟨t, n, ps, rfl⟩ := hb
    have e : ∀ H : AH S, quietAll X fr H (.buildSlice t n ps) = semi X fr H (.buildSlice t n ps) := fun H => rfl
    rw [e] at h ⊢
    simp only [semi] at h ⊢
    split at h
    · unfold still at h ⊢
      split at h
      · injection h with h; subst h; exact ⟨_, rfl, rfl, rfl⟩
      · cases h
    · cases h
  · have hne : ∀ t n ps, op ≠ .buildSlice t n ps := fun t n ps e => hb ⟨t, n, ps, e⟩
    rw [quietAll_other hne] at h ⊢
    exact pure_indep0 hp h

/-- the monotone closure of what is known -/
def mono (Γ : FuncId → Spec S) : FuncId → Spec S := fun f args H K => ∃ K0, Γ f args H K0 ∧ ∀ v H', K0 v H' → K v H'

theorem fl_id (vs : List (AV S)) : ∀ K, fl vs K = K vs := by
  have f1 : ∀ (v : AV S) (K : AV S → Prop), fv1 v K = K v := fun v K => by cases v <;> first | rfl | (simp only [fv1]; rw [forceNat_eq])
  induction vs with
  | nil => intro K; rfl
  | cons v r ih =>
    intro K
    show fv1 v (fun v' => fl r fun r' => K (v' :: r')) = _
    rw [f1, ih]
theorem fv_id (v : AV S) (K : AV S → Prop) : fv v K = K v := by
  cases v <;> first | rfl | (simp only [fv]; rw [fl_id]) | (simp only [fv, fv1]; rw [forceNat_eq])
theorem fh_id (H : AH S) : ∀ K, fh H K = K H := by
  induction H with
  | nil => intro K; rfl
  | cons b r ih =>
    intro K
    cases b with
    | cells cs => show fl cs (fun cs => fh r fun r => K (.cells cs :: r)) = _; rw [fl_id, ih]
    | lst e xs => show fh r (fun r => K (.lst e xs :: r)) = _; rw [ih]
    | lsto e xs i j v => show fv1 v (fun v => fh r fun r => K (.lsto e xs i j v :: r)) = _; rw [show ∀ (v : AV S) (K : AV S → Prop), fv1 v K = K v from fun v K => by cases v <;> first | rfl | (simp only [fv1]; rw [forceNat_eq]), ih]
    | mp a b es => show fh r (fun r => K (.mp a b es :: r)) = _; rw [ih]
    | dead => show fh r (fun r => K (.dead :: r)) = _; rw [ih]

theorem owed_mono {ob : Option Prop} {A B : Prop} (h : A → B) (hh : owed ob A) : owed ob B := by
  cases ob with
  | none => exact h hh
  | some p => exact ⟨hh.1, h hh.2⟩
theorem stepV_mono {Γ : FuncId → Spec S} {op : Op} (ha : Agree fr fr2 (tmpsOf op.operands.toList)) {K K' : AV S → AH S → Prop} (hK : ∀ v H', K v H' → K' v H') (h : stepV X Γ fr H op K) : stepV X (mono Γ) fr2 H op K' := by
  obtain ⟨e1, e2, e3, e4⟩ := step_congr (X := X) (H := H) op ha
  unfold stepV at h ⊢
  rw [← e1, ← e2, ← e3, ← e4]
  split at h
  · rw [fv_id] at h ⊢; exact owed_mono (hK _ _) h
  · split at h
    · rw [fv_id, fh_id] at h ⊢; exact owed_mono (hK _ _) h
    · split at h
      · rename_i f as hc
        split at h
        · rename_i hz
          rw [fl_id] at h ⊢
          unfold apart at h ⊢
          rw [forceN_eq] at h ⊢
          refine ⟨_, h, fun v H' hv => ?_⟩
          dsimp only at hv ⊢
          rw [fv_id, fh_id] at hv ⊢; exact hK _ _ hv
        · rename_i i r hz
          split at h
          · rename_i p as' H' hfz
            refine ⟨h.1, ?_⟩
            have h2 := h.2
            rw [fl_id] at h2 ⊢
            unfold apart at h2 ⊢
            rw [forceN_eq] at h2 ⊢
            refine ⟨_, h2, fun v H' hv => ?_⟩
            dsimp only at hv ⊢
            rw [fv_id, fh_id] at hv ⊢; exact hK _ _ hv
          · exact h.elim
      · split at h
        · exact fun b hb => hK _ _ (h b hb)
        · exact h.elim

/-- the slots that an operation looks at -/
noncomputable def looks (all : List Oper) (o : Oper) : List Nat := tmpsOf o.op.operands.toList ++ (match o.guard with
  | some (g, _) => match dstOf all g with
    | some s => [s]
    | none => []
  | none => [])
def aft (o : Oper) : List Nat := (o.after.toList.filter fun e => Region.binds .any e).map (·.on)

theorem guarded_congr {all : List Oper} {o : Oper} (h : ∀ t ∈ looks all o, fr t = fr2 t) {E F : Prop} : guarded all o fr E F = guarded all o fr2 E F := by
  unfold guarded
  cases hg : o.guard with
  | none => rfl
  | some p =>
    obtain ⟨g, want⟩ := p
    cases hd : dstOf all g with
    | none => simp only [hd]
    | some s =>
      have : fr s = fr2 s := h s (by simp [looks, hg, hd])
      simp only [hd, this]
theorem br_imp {b : Bool} {A B A' B' : Prop} (h1 : A → A') (h2 : B → B') (h : Br b A B) : Br b A' B' := by
  unfold Br at h ⊢; exact ⟨fun e => h1 (h.1 e), fun e => h2 (h.2 e)⟩
theorem guarded_mono {all : List Oper} {o : Oper} {E F E' F' : Prop} (h1 : E → E') (h2 : F → F') (h : guarded all o fr E F) : guarded all o fr E' F' := by
  unfold guarded at h ⊢
  split at h
  · exact h1 h
  · split at h
    · exact h.elim
    · split at h
      · exact h2 h
      · split at h
        · exact h1 h
        · exact h2 h
      · split at h
        · exact h1 h
        · exact h2 h
      · split at h
        · exact br_imp h1 h2 h
        · exact br_imp h2 h1 h
      · exact h.elim
/-- both cases at once, then one that is left -/
theorem guarded_elim {all : List Oper} {o : Oper} {E F G : Prop} (h : guarded all o fr E F) (hE : (∀ {A B : Prop}, guarded all o fr A B ↔ A) → E → G) (hF : (∀ {A B : Prop}, guarded all o fr A B ↔ B) → F → G) : G := by
  have key : ((∀ {A B : Prop}, guarded all o fr A B ↔ A) ∧ E) ∨ ((∀ {A B : Prop}, guarded all o fr A B ↔ B) ∧ F) := by
    unfold guarded at h ⊢
    cases hg : o.guard with
    | none => rw [hg] at h; exact .inl ⟨by intros; first | exact Iff.rfl | trivial, h⟩
    | some p =>
      obtain ⟨g, want⟩ := p
      rw [hg] at h
      simp only at h ⊢
      cases hd : dstOf all g with
      | none => rw [hd] at h; exact h.elim
      | some s =>
        rw [hd] at h
        simp only at h ⊢
        cases hv : fr s <;> rw [hv] at h <;> simp only at h ⊢ <;> try exact h.elim
        case tt => cases want; exact .inr ⟨by intros; first | exact Iff.rfl | trivial, h⟩; exact .inl ⟨by intros; first | exact Iff.rfl | trivial, h⟩
        case ff => cases want; exact .inl ⟨by intros; first | exact Iff.rfl | trivial, h⟩; exact .inr ⟨by intros; first | exact Iff.rfl | trivial, h⟩
        case tup => exact .inr ⟨by intros; first | exact Iff.rfl | trivial, h⟩
        case bool b =>
          have bt : ∀ {A B : Prop}, Br true A B ↔ A := by intro A B; unfold Br; simp
          have bf : ∀ {A B : Prop}, Br false A B ↔ B := by intro A B; unfold Br; simp
          cases want <;> cases b
          · exact .inl ⟨bf, bf.1 h⟩
          · exact .inr ⟨bt, bt.1 h⟩
          · exact .inr ⟨bf, bf.1 h⟩
          · exact .inl ⟨bt, bt.1 h⟩
  rcases key with ⟨h1, h2⟩ | ⟨h1, h2⟩
  · exact hE h1 h2
  · exact hF h1 h2

/-- what may come up next -/
def rdy (all : List Oper) (D : List Nat) (i : Nat) : Prop := i ∉ D ∧ ∃ o, all[i]? = some o ∧ ∀ d ∈ aft o, d ∈ D

variable (X) in
/-- all orders -/
noncomputable def anyRun (Γ : FuncId → Spec S) (all : List Oper) (K : Fr S → AH S → Prop) : Nat → List Nat → Fr S → AH S → Prop
  | 0, D, fr, H => (∀ i, ¬ rdy all D i) ∧ K fr H
  | n + 1, D, fr, H => ((∀ i, ¬ rdy all D i) → K fr H) ∧ ∀ i o, rdy all D i → all[i]? = some o →
    guarded all o fr (stepOp X Γ fr H o fun fr H => anyRun Γ all K n (i :: D) fr H) (land o.dst (.tup []) fr H fun fr H => anyRun Γ all K n (i :: D) fr H)

/-- all that an operation waits for, through others -/
noncomputable def downs (all : List Oper) : Nat → List Nat → List Nat → List Nat
  | 0, _, done => done
  | _, [], done => done
  | n + 1, k :: todo, done => match memN k done with
    | true => downs all n todo done
    | false => downs all n ((match nth all k with | some o => aft o | none => []) ++ todo) (k :: done)

/-- two quiet operations that may both be waiting: i comes behind j in the given order -/
noncomputable def compat (all : List Oper) (o oj : Oper) (j : Nat) : Bool :=
  (match o.dst with
   | none => true
   | some d => !memN d (looks all oj) && !(oj.dst == some d)) &&
  (match oj.dst with
   | none => true
   | some d => !memN d (looks all o) || memN j (aft o))
noncomputable def apartB (all : List Oper) (o oj : Oper) : Bool :=
  (match o.dst with
   | none => true
   | some d => !memN d (looks all oj) && !(oj.dst == some d)) &&
  (match oj.dst with
   | none => true
   | some d => !memN d (looks all o))
noncomputable def selfB (all : List Oper) (o : Oper) : Bool := match o.dst with
  | none => true
  | some d => !memN d (looks all o)
variable (X) in
/-- it may wait with those that wait -/
noncomputable def qk (all : List Oper) (chk mp : List Nat) (o : Oper) : Bool :=
  quietK X o.op && ((match chk with | [] => true | _ => false) && (selfB all o && mp.all (fun j => match nth all j with | some oj => compat all o oj j | none => false)))
variable (X) in
noncomputable def walk (all : List Oper) : List (Nat × List Nat) → List Nat → List Nat → Bool
  | [], _, _ => true
  | (i, chk) :: r, pre, mp => match nth all i with
    | none => false
    | some o => !memN i pre && ((aft o).all (fun d => memN d pre) && match qk X all chk mp o with
      | true => walk all r (i :: pre) (i :: mp)
      | false => (mp.filter fun j => !memN j (downs all 100000 [i] [])).all (fun j => match nth all j with | some oj => apartB all o oj && (pureK oj.op || memN j chk) | none => false) &&
        (r.all (fun k => memN i (downs all 100000 [k.1] [])) && walk all r (i :: pre) (mp.filter fun j => !memN j (downs all 100000 [i] []))))
variable (X) in
noncomputable def okOrd (all : List Oper) (cl : List (Nat × List Nat)) : Bool := walk X all cl [] [] && ((List.range all.length).all (fun i => memN i (cl.map (·.1))) && (List.range all.length).all fun i => match nth all i with | some o => (aft o).all fun d => Nat.blt d i | none => true)
theorem memN_iff (l : Nat) : ∀ ls : List Nat, memN l ls = true ↔ l ∈ ls
  | [] => by simp [memN]
  | m :: r => by
    unfold memN
    split
    · rename_i h; have := Nat.eq_of_beq_eq_true h; subst this; simp
    · rename_i h
      rw [memN_iff l r]
      have : m ≠ l := fun e => by subst e; rw [Nat.beq_refl] at h; cases h
      simp [this.symm]
theorem nth_get {α : Type} (l : List α) : ∀ i, nth l i = l[i]? := by
  induction l with
  | nil => intro i; rfl
  | cons a r ih => intro i; cases i with
    | zero => rfl
    | succ i => show nth r i = _; rw [ih]; simp
theorem upd_at (d : Nat) (v : AV S) (fr : Fr S) (t : Nat) : upd d v fr t = if t = d then v else fr t := by
  unfold upd
  by_cases h : t = d
  · subst h; rw [Nat.beq_refl]; simp
  · have : Nat.beq d t = false := by
      cases hb : Nat.beq d t with
      | false => rfl
      | true => exact absurd (Nat.eq_of_beq_eq_true hb).symm h
    rw [this]; simp [h]

/-- what a closed set of done operations holds: all that one of them waits for -/
theorem downs_closed {all : List Oper} {D : List Nat} (hD : ∀ i ∈ D, ∀ o, all[i]? = some o → ∀ d ∈ aft o, d ∈ D) : ∀ (n : Nat) (todo done : List Nat), (∀ i ∈ todo, i ∈ D) → (∀ i ∈ done, i ∈ D) → ∀ i ∈ downs all n todo done, i ∈ D
  | 0, _, done, _, h2 => by unfold downs; exact h2
  | n + 1, [], done, _, h2 => by unfold downs; exact h2
  | n + 1, k :: todo, done, h1, h2 => by
    unfold downs
    split
    · exact downs_closed hD n todo done (fun i hi => h1 i (List.mem_cons_of_mem _ hi)) h2
    · refine downs_closed hD n _ _ (fun i hi => ?_) (fun i hi => ?_)
      · rcases List.mem_append.1 hi with hi | hi
        · rw [nth_get] at hi
          cases ho : all[k]? with
          | none => rw [ho] at hi; cases hi
          | some o => rw [ho] at hi; exact hD k (h1 k (by simp)) o ho i hi
        · exact h1 i (List.mem_cons_of_mem _ hi)
      · rcases List.mem_cons.1 hi with rfl | hi
        · exact h1 i (by simp)
        · exact h2 i hi
/-- the same of one that is not done itself: what it waits for is done -/
theorem downs_ready {all : List Oper} {D : List Nat} (hD : ∀ i ∈ D, ∀ o, all[i]? = some o → ∀ d ∈ aft o, d ∈ D) {i : Nat} (hi : ∀ o, all[i]? = some o → ∀ d ∈ aft o, d ∈ D) (n : Nat) : ∀ j ∈ downs all n [i] [], j = i ∨ j ∈ D := by
  intro j hj
  have := downs_closed (all := all) (D := i :: D) (fun k hk o ho d hd => by
    rcases List.mem_cons.1 hk with rfl | hk
    · exact List.mem_cons_of_mem _ (hi o ho d hd)
    · exact List.mem_cons_of_mem _ (hD k hk o ho d hd)) n [i] [] (by simp) (by simp) j hj
  simpa using this

variable (X) in
/-- a quiet operation that waits is what the frame says it is -/
def PS (all : List Oper) (q : Nat) (fr : Fr S) (H : AH S) : Prop := ∃ o, all[q]? = some o ∧
  guarded all o fr (∃ r, quietAll X fr H o.op = some r ∧ (∀ p, r.ob = some p → p) ∧ ∀ d, o.dst = some d → fr d = r.v) (∀ d, o.dst = some d → fr d = .tup [])

variable (X) in
structure OI (all : List Oper) (pre mp pend D : List Nat) (fr frl : Fr S) (H : AH S) : Prop where
  nodup : pend.Nodup
  sub : ∀ q ∈ pend, q ∈ mp
  mpre : ∀ q ∈ mp, q ∈ pre
  quiet : ∀ q ∈ mp, ∃ o, all[q]? = some o ∧ quietK X o.op = true ∧ selfB all o = true
  exec : ∀ i, i ∈ D ↔ i ∈ pre ∧ i ∉ pend
  closed : ∀ i ∈ D, ∀ o, all[i]? = some o → ∀ d ∈ aft o, d ∈ D
  pw : ∀ p ∈ mp, ∀ q ∈ mp, p ≠ q → ∀ op oq, all[p]? = some op → all[q]? = some oq → (∀ d, oq.dst = some d → d ∈ looks all op → q ∈ aft op) ∧ (∀ d, op.dst = some d → oq.dst ≠ some d)
  agree : ∀ t, (∀ q ∈ pend, ∀ o, all[q]? = some o → o.dst ≠ some t) → frl t = fr t
  ps : ∀ q ∈ pend, PS X all q fr H

theorem quietK_spec {op : Op} (h : quietK X op = true) : loudAll X fr H op = none ∧ calls fr op = none ∧ anyB X fr op = none := by
  cases op <;> simp only [quietK, Bool.false_eq_true] at h
  case binOp op t x y yt =>
    refine ⟨rfl, rfl, ?_⟩
    simp only [anyB]
    split at h
    · cases h
    · rename_i hn
      split
      · rename_i e hd; exact absurd hd (hn e)
      · rfl
  case call c =>
    obtain ⟨callee, args, ats⟩ := c
    cases callee with
    | value f => simp at h
    | invoke r m => simp at h
    | builtin b => cases b <;> simp at h <;> simp [loudAll, loud, loud2, calls, anyB]
  case buildSlice t n ps =>
    refine ⟨?_, rfl, rfl⟩
    simp [loudAll, loud, loud2, h]
  all_goals exact ⟨rfl, rfl, rfl⟩
theorem stepV_quiet {Γ : FuncId → Spec S} {op : Op} (h : quietK X op = true) {K : AV S → AH S → Prop} : stepV X Γ fr H op K ↔ ∃ r, quietAll X fr H op = some r ∧ (∀ p, r.ob = some p → p) ∧ K r.v H := by
  obtain ⟨h1, h2, h3⟩ := quietK_spec (X := X) (fr := fr) (H := H) h
  unfold stepV
  cases hq : quietAll X fr H op with
  | none => simp only [h1, h2, h3]; simp
  | some r =>
    simp only [fv_id]
    constructor
    · intro h
      refine ⟨r, rfl, fun p hp => ?_, ?_⟩
      · rw [hp] at h; exact h.1
      · cases hp : r.ob with
        | none => rw [hp] at h; exact h
        | some p => rw [hp] at h; exact h.2
    · rintro ⟨r', e, ho, hk⟩
      injection e with e; subst e
      cases hp : r.ob with
      | none => exact hk
      | some p => exact ⟨ho p hp, hk⟩

/-- of no two that may come up next the one is left: all are done -/
theorem no_ready {all : List Oper} {D : List Nat} (hno : ∀ i, ¬ rdy all D i) (hb : ∀ i o, all[i]? = some o → ∀ d ∈ aft o, d < i) : ∀ i, i < all.length → i ∈ D := by
  intro i
  induction i using Nat.strongRecOn with
  | ind i ih =>
    intro hi
    by_cases hD : i ∈ D
    · exact hD
    · exfalso
      have ho : all[i]? = some all[i] := List.getElem?_eq_getElem hi
      exact hno i ⟨hD, _, ho, fun d hd => ih d (hb i _ ho d hd) (by have := hb i _ ho d hd; omega)⟩
theorem recheck_spec {all : List Oper} {P : Prop} : ∀ (chk : List Nat), recheck X all chk fr H P → P ∧ ∀ j ∈ chk, ∃ o d, all[j]? = some o ∧ o.dst = some d ∧
    guarded all o fr (∃ r, quietAll X fr H o.op = some r ∧ (∀ p, r.ob = some p → p) ∧ r.v = fr d) True
  | [], h => ⟨h, fun j hj => by cases hj⟩
  | j :: js, h => by
    unfold recheck at h
    rw [nth_get] at h
    split at h
    · exact h.elim
    · rename_i o ho
      split at h
      · exact h.elim
      · rename_i d hd
        refine guarded_elim h (fun iff h1 => ?_) (fun iff h1 => ?_)
        · split at h1
          · rename_i r hr
            have hob : ∀ p, r.ob = some p → p := fun p hp => by rw [hp] at h1; exact h1.1
            have hk : r.v = fr d ∧ recheck X all js fr H P := by
              cases hp : r.ob with
              | none => rw [hp] at h1; exact h1
              | some p => rw [hp] at h1; exact h1.2
            obtain ⟨i1, i2⟩ := recheck_spec js hk.2
            refine ⟨i1, fun k hk' => ?_⟩
            rcases List.mem_cons.1 hk' with rfl | hk'
            · exact ⟨o, d, ho, hd, iff.2 ⟨r, hr, hob, hk.1⟩⟩
            · exact i2 k hk'
          · exact h1.elim
        · obtain ⟨i1, i2⟩ := recheck_spec js h1
          refine ⟨i1, fun k hk' => ?_⟩
          rcases List.mem_cons.1 hk' with rfl | hk'
          · exact ⟨o, d, ho, hd, iff.2 trivial⟩
          · exact i2 k hk'

theorem looks_tmps {all : List Oper} {o : Oper} : ∀ t ∈ tmpsOf o.op.operands.toList, t ∈ looks all o := fun t ht => List.mem_append_left _ ht

/-- a waiting operation is carried out -/
theorem exec_pend {Γ : FuncId → Spec S} {all : List Oper} {pre mp pend D : List Nat} {frl : Fr S} (I : OI X all pre mp pend D fr frl H) {i : Nat} {o : Oper} (hi : i ∈ pend) (ho : all[i]? = some o) (hd : ∀ d ∈ aft o, d ∈ D)
    {next : Fr S → AH S → Prop} (hn : ∀ frl', OI X all pre mp (pend.erase i) (i :: D) fr frl' H → next frl' H) : guarded all o frl (stepOp X Γ frl H o next) (land o.dst (.tup []) frl H next) := by
  obtain ⟨o', ho', hq, hself⟩ := I.quiet i (I.sub i hi)
  rw [ho] at ho'; injection ho' with ho'; subst ho'
  have hag : ∀ t ∈ looks all o, fr t = frl t := by
    intro t ht
    refine (I.agree t fun q hqp oq hoq hdq => ?_).symm
    by_cases e : q = i
    · subst e
      rw [ho] at hoq; injection hoq with hoq; subst hoq
      unfold selfB at hself; rw [hdq] at hself
      simp only [Bool.not_eq_true'] at hself
      rw [(memN_iff _ _).2 ht] at hself; cases hself
    · have := (I.pw i (I.sub i hi) q (I.sub q hqp) (Ne.symm e) o oq ho hoq).1 t hdq ht
      exact ((I.exec q).1 (hd q this)).2 hqp
  obtain ⟨o'', ho'', hps⟩ := I.ps i hi
  rw [ho] at ho''; injection ho'' with ho''; subst ho''
  have step : ∀ v, (∀ d, o.dst = some d → fr d = v) → land o.dst v frl H next := by
    intro v hv
    have oi : ∀ frl', (∀ t, (∀ d, o.dst = some d → t ≠ d) → frl' t = frl t) → (∀ d, o.dst = some d → frl' d = v) → next frl' H := by
      intro frl' h1 h2
      refine hn frl' { nodup := I.nodup.erase i, sub := fun q hq => I.sub q (List.mem_of_mem_erase hq), mpre := I.mpre, quiet := I.quiet, exec := fun j => ?_, closed := fun j hj oj hoj d hdd => ?_, pw := I.pw, agree := fun t ht => ?_, ps := fun q hq => I.ps q (List.mem_of_mem_erase hq) }
      · rw [List.mem_cons, I.nodup.mem_erase_iff, I.exec j]
        constructor
        · rintro (rfl | ⟨h1, h2⟩)
          · exact ⟨I.mpre _ (I.sub _ hi), fun h => h.1 rfl⟩
          · exact ⟨h1, fun h => h2 h.2⟩
        · rintro ⟨h1, h2⟩
          by_cases e : j = i
          · exact .inl e
          · exact .inr ⟨h1, fun h => h2 ⟨e, h⟩⟩
      · rcases List.mem_cons.1 hj with rfl | hj
        · rw [ho] at hoj; injection hoj with hoj; subst hoj; exact List.mem_cons_of_mem _ (hd d hdd)
        · exact List.mem_cons_of_mem _ (I.closed j hj oj hoj d hdd)
      · by_cases e : o.dst = some t
        · rw [h2 t e, hv t e]
        · rw [h1 t (fun d hd e' => e (e' ▸ hd))]
          refine I.agree t fun q hq oq hoq hdq => ?_
          by_cases e2 : q = i
          · subst e2; rw [ho] at hoq; injection hoq with hoq; subst hoq; exact e hdq
          · exact ht q (I.nodup.mem_erase_iff.2 ⟨e2, hq⟩) oq hoq hdq
    unfold land
    cases hdst : o.dst with
    | none => exact oi frl (fun t _ => rfl) (fun d hd => by rw [hdst] at hd; cases hd)
    | some d =>
      refine oi _ (fun t ht => by rw [upd_at, if_neg (ht d hdst)]) (fun d' hd' => ?_)
      rw [hdst] at hd'; injection hd' with hd'; subst hd'; rw [upd_at, if_pos rfl]
  rw [guarded_congr hag] at hps
  refine guarded_mono (fun hE => ?_) (fun hF => step _ hF) hps
  obtain ⟨r, hr, hob, hv⟩ := hE
  unfold stepOp
  rw [stepV_quiet hq]
  refine ⟨r, ?_, hob, step _ hv⟩
  rw [← (step_congr (X := X) (H := H) o.op (fun t ht => hag t (looks_tmps t ht))).1]; exact hr
/-- what is known of a waiting operation stays where no slot of it is written -/
theorem PS.write {all : List Oper} {q : Nat} {o : Oper} (ho : all[q]? = some o) (h : PS X all q fr H) {fr' : Fr S} (hl : ∀ t ∈ looks all o, fr' t = fr t) (hd : ∀ d, o.dst = some d → fr' d = fr d) : PS X all q fr' H := by
  obtain ⟨o', ho', hg⟩ := h
  rw [ho] at ho'; injection ho' with ho'; subst ho'
  refine ⟨o, ho, ?_⟩
  rw [guarded_congr hl]
  refine guarded_mono (fun ⟨r, hr, hob, hv⟩ => ⟨r, ?_, hob, fun d hdd => by rw [hd d hdd]; exact hv d hdd⟩) (fun hF d hdd => by rw [hd d hdd]; exact hF d hdd) hg
  rw [(step_congr (X := X) (H := H) o.op (fun t ht => hl t (looks_tmps t ht))).1]; exact hr

def landFr (dst : Option Nat) (v : AV S) (fr : Fr S) : Fr S := match dst with
  | some d => upd d v fr
  | none => fr
theorem land_eq {dst : Option Nat} {v : AV S} {next : Fr S → AH S → Prop} : land dst v fr H next = next (landFr dst v fr) H := by
  cases dst <;> rfl
theorem landB_eq {op : Op} {dst : Option Nat} {v : AV S} {next : Fr S → AH S → Prop} (h : landB op dst v fr H next) : next (landFr dst v fr) H := by
  unfold landB at h
  rw [← land_eq (next := next)]
  split at h <;> first | exact h | (split at h <;> first | exact h _ rfl | exact h)
theorem landFr_other {dst : Option Nat} {v : AV S} {t : Nat} (h : dst ≠ some t) : landFr dst v fr t = fr t := by
  cases dst with
  | none => rfl
  | some d => unfold landFr; simp only; rw [upd_at, if_neg (fun e => h (by rw [e]))]
theorem landFr_at {dst : Option Nat} {v : AV S} {d : Nat} (h : dst = some d) : landFr dst v fr d = v := by
  subst h; unfold landFr; simp only; rw [upd_at, if_pos rfl]

theorem walk_fresh {all : List Oper} : ∀ (r : List (Nat × List Nat)) (pre mp : List Nat), walk X all r pre mp = true → ∀ k ∈ r.map (·.1), k ∉ pre
  | [], _, _, _, k, hk => by simp at hk
  | (i, chk) :: r, pre, mp, hw, k, hk => by
    unfold walk at hw
    rw [nth_get] at hw
    cases ho : all[i]? with
    | none => rw [ho] at hw; cases hw
    | some o =>
      rw [ho] at hw
      simp only [Bool.and_eq_true, Bool.not_eq_true'] at hw
      obtain ⟨w1, w2, w3⟩ := hw
      rcases List.mem_cons.1 hk with rfl | hk
      · intro h; rw [(memN_iff _ _).2 h] at w1; cases w1
      · have : ∃ mp', walk X all r (i :: pre) mp' = true := by
          split at w3
          · exact ⟨_, w3⟩
          · simp only [Bool.and_eq_true] at w3; exact ⟨_, w3.2.2⟩
        obtain ⟨mp', hw'⟩ := this
        exact fun h => walk_fresh r _ _ hw' k hk (List.mem_cons_of_mem _ h)

/-- A RUN IN ONE ORDER STANDS FOR ALL -/
theorem canon_any {Γ : FuncId → Spec S} {all : List Oper} {K : Fr S → AH S → Prop} (hb : ∀ i o, all[i]? = some o → ∀ d ∈ aft o, d < i) : ∀ (n : Nat) (rest : List (Nat × List Nat)) (pre mp pend D : List Nat) (fr frl : Fr S) (H : AH S),
    pend.length + rest.length = n → walk X all rest pre mp = true → (∀ i, i < all.length → i ∈ pre ∨ i ∈ rest.map (·.1)) → OI X all pre mp pend D fr frl H → runO X Γ all K rest fr H → anyRun X (mono Γ) all K n D frl H := by
  intro n
  induction n with
  | zero =>
    intro rest pre mp pend D fr frl H hn hw hc I hrun
    have e1 : pend = [] := List.eq_nil_of_length_eq_zero (by omega)
    have e2 : rest = [] := List.eq_nil_of_length_eq_zero (by omega)
    subst e1; subst e2
    have hfr : frl = fr := funext fun t => I.agree t fun q hq => by cases hq
    subst hfr
    refine ⟨fun i ⟨hi, o, ho, _⟩ => ?_, hrun⟩
    have hlt := (List.getElem?_eq_some_iff.1 ho).1
    rcases hc i hlt with h | h
    · exact hi ((I.exec i).2 ⟨h, by simp⟩)
    · simp at h
  | succ m ih =>
    intro rest
    induction rest with
    | nil =>
      intro pre mp pend D fr frl H hn hw hc I hrun
      refine ⟨fun hno => ?_, fun i o hi ho => ?_⟩
      · cases pend with
        | nil => simp at hn
        | cons q r =>
          exfalso
          obtain ⟨o, ho, _⟩ := I.quiet q (I.sub q (by simp))
          have := no_ready hno hb q (List.getElem?_eq_some_iff.1 ho).1
          exact ((I.exec q).1 this).2 (by simp)
      · have hlt := (List.getElem?_eq_some_iff.1 ho).1
        have hp : i ∈ pend := by
          rcases hc i hlt with h | h
          · by_cases hp : i ∈ pend
            · exact hp
            · exact absurd ((I.exec i).2 ⟨h, hp⟩) hi.1
          · simp at h
        obtain ⟨_, o', ho', hd⟩ := hi
        rw [ho] at ho'; injection ho' with ho'; subst ho'
        refine exec_pend I hp ho hd fun frl' I' => ih [] pre mp (pend.erase i) (i :: D) fr frl' H ?_ hw hc I' hrun
        rw [List.length_erase_of_mem hp]; simp at hn ⊢; omega
    | cons ic r ihr =>
      intro pre mp pend D fr frl H hn hw hc I hrun
      obtain ⟨i, chk⟩ := ic
      have hw0 := hw
      have hrun0 := hrun
      unfold walk at hw
      unfold runO at hrun
      rw [nth_get] at hw hrun
      cases ho : all[i]? with
      | none => rw [ho] at hrun; exact hrun.elim
      | some o =>
      rw [ho] at hw hrun
      simp only [Bool.and_eq_true, Bool.not_eq_true'] at hw hrun
      obtain ⟨w1, w2, w3⟩ := hw
      have hnp : i ∉ pre := fun h => by rw [(memN_iff _ _).2 h] at w1; cases w1
      have hap : ∀ d ∈ aft o, d ∈ pre := fun d hd => (memN_iff _ _).1 (List.all_eq_true.1 w2 d hd)
      have hlt := (List.getElem?_eq_some_iff.1 ho).1
      have hc' : ∀ j, j < all.length → j ∈ i :: pre ∨ j ∈ r.map (·.1) := by
        intro j hj
        rcases hc j hj with h | h
        · exact .inl (List.mem_cons_of_mem _ h)
        · rcases List.mem_cons.1 h with rfl | h
          · exact .inl (by simp)
          · exact .inr h
      have hiD : i ∉ D := fun h => hnp ((I.exec i).1 h).1
      have hiM : i ∉ mp := fun h => hnp (I.mpre i h)
      have hiP : i ∉ pend := fun h => hiM (I.sub i h)
      cases hq0 : qk X all chk mp o with
      | true =>
        rw [hq0] at w3
        have hw' := w3
        unfold qk at hq0
        simp only [Bool.and_eq_true] at hq0
        obtain ⟨hq, c0, hself, hcomp⟩ := hq0
        have hchk : chk = [] := by cases chk with
          | nil => rfl
          | cons a b => cases c0
        subst hchk
        have cp : ∀ q ∈ mp, ∀ oq, all[q]? = some oq → compat all o oq q = true := by
          intro q hqm oq hoq
          have := List.all_eq_true.1 hcomp q hqm
          rw [nth_get, hoq] at this; exact this
        have own : ∀ d, o.dst = some d → d ∉ looks all o := by
          intro d hd h
          unfold selfB at hself; rw [hd] at hself
          simp only [Bool.not_eq_true'] at hself
          rw [(memN_iff _ _).2 h] at hself; cases hself
        have c1 : ∀ q ∈ mp, ∀ oq, all[q]? = some oq → (∀ d, o.dst = some d → d ∉ looks all oq ∧ oq.dst ≠ some d) ∧ (∀ d, oq.dst = some d → d ∈ looks all o → q ∈ aft o) := by
          intro q hqm oq hoq
          have := cp q hqm oq hoq
          simp only [compat, Bool.and_eq_true] at this
          refine ⟨fun d hd => ?_, fun d hd hl => ?_⟩
          · have h1 := this.1; rw [hd] at h1
            simp only [Bool.and_eq_true, Bool.not_eq_true', beq_eq_false_iff_ne, ne_eq] at h1
            exact ⟨fun h => by rw [(memN_iff _ _).2 h] at h1; exact absurd h1.1 (by simp), h1.2⟩
          · have h1 := this.2; rw [hd] at h1
            simp only [Bool.or_eq_true, Bool.not_eq_true'] at h1
            rcases h1 with h1 | h1
            · rw [(memN_iff _ _).2 hl] at h1; cases h1
            · exact (memN_iff _ _).1 h1
        -- the operation waits from now on
        have adv : ∀ v, PS X all i (landFr o.dst v fr) H → runO X Γ all K r (landFr o.dst v fr) H → anyRun X (mono Γ) all K (m + 1) D frl H := by
          intro v hps hrun'
          refine ihr (i :: pre) (i :: mp) (i :: pend) D (landFr o.dst v fr) frl H (by simp at hn ⊢; omega) hw' hc' ?_ hrun'
          refine { nodup := List.nodup_cons.2 ⟨hiP, I.nodup⟩, sub := ?_, mpre := ?_, quiet := ?_, exec := ?_, closed := I.closed, pw := ?_, agree := ?_, ps := ?_ }
          · intro q hq; rcases List.mem_cons.1 hq with rfl | hq
            · simp
            · exact List.mem_cons_of_mem _ (I.sub q hq)
          · intro q hq; rcases List.mem_cons.1 hq with rfl | hq
            · simp
            · exact List.mem_cons_of_mem _ (I.mpre q hq)
          · intro q hqm; rcases List.mem_cons.1 hqm with rfl | hqm
            · exact ⟨o, ho, hq, hself⟩
            · exact I.quiet q hqm
          · intro j
            rw [I.exec j]
            constructor
            · rintro ⟨h1, h2⟩
              exact ⟨List.mem_cons_of_mem _ h1, fun h => by rcases List.mem_cons.1 h with rfl | h; exact hnp h1; exact h2 h⟩
            · rintro ⟨h1, h2⟩
              rcases List.mem_cons.1 h1 with rfl | h1
              · exact absurd (by simp) h2
              · exact ⟨h1, fun h => h2 (List.mem_cons_of_mem _ h)⟩
          · intro p hp q hqm hne op oq hop hoq
            rcases List.mem_cons.1 hp with e1 | hp' <;> rcases List.mem_cons.1 hqm with e2 | hqm'
            · exact absurd (e1.trans e2.symm) hne
            · subst e1
              rw [ho] at hop; injection hop with hop; subst hop
              exact ⟨(c1 q hqm' oq hoq).2, fun d hd => ((c1 q hqm' oq hoq).1 d hd).2⟩
            · subst e2
              rw [ho] at hoq; injection hoq with hoq; subst hoq
              exact ⟨fun d hd hl => absurd hl ((c1 p hp' op hop).1 d hd).1, fun d hd h => ((c1 p hp' op hop).1 d h).2 hd⟩
            · exact I.pw p hp' q hqm' hne op oq hop hoq
          · intro t ht
            rw [landFr_other (ht i (by simp) o ho)]
            exact I.agree t fun q hqp oq hoq => ht q (List.mem_cons_of_mem _ hqp) oq hoq
          · intro q hqp
            rcases List.mem_cons.1 hqp with rfl | hqp
            · exact hps
            · obtain ⟨oq, hoq, _⟩ := I.ps q hqp
              have := c1 q (I.sub q hqp) oq hoq
              exact (I.ps q hqp).write hoq (fun t ht => landFr_other fun e => (this.1 t e).1 ht) (fun d hd => landFr_other fun e => (this.1 d e).2 hd)
        refine guarded_elim hrun (fun iff hE => ?_) (fun iff hF => ?_)
        · rw [stepV_quiet hq] at hE
          obtain ⟨rv, hrv, hob, hk⟩ := hE
          have hk := landB_eq hk
          have hk' : runO X Γ all K r (landFr o.dst rv.v fr) H := hk
          refine adv rv.v ⟨o, ho, ?_⟩ hk'
          have lk : ∀ t ∈ looks all o, landFr o.dst rv.v fr t = fr t := fun t ht => landFr_other fun e => own t e ht
          rw [guarded_congr lk]
          refine iff.2 ⟨rv, ?_, hob, fun d hd => landFr_at hd⟩
          rw [(step_congr (X := X) (H := H) o.op (fun t ht => lk t (looks_tmps t ht))).1]; exact hrv
        · rw [land_eq] at hF
          refine adv (.tup []) ⟨o, ho, ?_⟩ hF
          have lk : ∀ t ∈ looks all o, landFr o.dst (.tup []) fr t = fr t := fun t ht => landFr_other fun e => own t e ht
          rw [guarded_congr lk]
          exact iff.2 fun d hd => landFr_at hd
      | false =>
        rw [hq0] at w3
        simp only [Bool.and_eq_true] at w3
        obtain ⟨hap2, hwait, hw'⟩ := w3
        refine ⟨fun hno => absurd (no_ready hno hb i hlt) hiD, fun j oj hj hoj => ?_⟩
        obtain ⟨hjD, oj', hoj', hjd⟩ := hj
        rw [hoj] at hoj'; injection hoj' with hoj'; subst hoj'
        have hjlt := (List.getElem?_eq_some_iff.1 hoj).1
        rcases hc j hjlt with h | h
        · have hp : j ∈ pend := by
            by_cases hp : j ∈ pend
            · exact hp
            · exact absurd ((I.exec j).2 ⟨h, hp⟩) hjD
          refine exec_pend I hp hoj hjd fun frl' I' => ih ((i, chk) :: r) pre mp (pend.erase j) (j :: D) fr frl' H ?_ hw0 hc I' hrun0
          have hpos : 0 < pend.length := List.length_pos_of_mem hp
          rw [List.length_erase_of_mem hp]; simp at hn ⊢; omega
        · rcases List.mem_cons.1 h with hji | h
          · -- the next loud one
            have hji : j = i := hji
            subst hji
            rw [ho] at hoj; injection hoj with hoj; subst hoj
            have hq' : ∀ q ∈ pend, q ∈ mp.filter fun k => !memN k (downs all 100000 [j] []) := by
              intro q hqp
              refine List.mem_filter.2 ⟨I.sub q hqp, ?_⟩
              cases hm : memN q (downs all 100000 [j] []) with
              | false => rfl
              | true =>
                exfalso
                rcases downs_ready I.closed (i := j) (fun o' ho' d hd => by rw [ho] at ho'; injection ho' with ho'; subst ho'; exact hjd d hd) 100000 q ((memN_iff _ _).1 hm) with rfl | hD
                · exact hiP hqp
                · exact ((I.exec q).1 hD).2 hqp
            have ap : ∀ q ∈ pend, ∀ oq, all[q]? = some oq → (∀ d, o.dst = some d → d ∉ looks all oq ∧ oq.dst ≠ some d) ∧ (∀ d, oq.dst = some d → d ∉ looks all o) ∧ (pureK oq.op = true ∨ q ∈ chk) := by
              intro q hqp oq hoq
              have := List.all_eq_true.1 hap2 q (hq' q hqp)
              rw [nth_get, hoq] at this
              simp only [apartB, Bool.and_eq_true, Bool.or_eq_true] at this
              refine ⟨fun d hd => ?_, fun d hd hl => ?_, ?_⟩
              · have h1 := this.1.1; rw [hd] at h1
                simp only [Bool.and_eq_true, Bool.not_eq_true', beq_eq_false_iff_ne, ne_eq] at h1
                exact ⟨fun h => by rw [(memN_iff _ _).2 h] at h1; exact absurd h1.1 (by simp), h1.2⟩
              · have h1 := this.1.2; rw [hd] at h1
                simp only [Bool.not_eq_true'] at h1
                rw [(memN_iff _ _).2 hl] at h1; cases h1
              · exact this.2.imp id (fun h => (memN_iff _ _).1 h)
            have hag : ∀ t ∈ looks all o, fr t = frl t := fun t ht => (I.agree t fun q hqp oq hoq hdq => (ap q hqp oq hoq).2.1 t hdq ht).symm
            have fin : ∀ v H', (∀ q ∈ pend, PS X all q (landFr o.dst v fr) H') → runO X Γ all K r (landFr o.dst v fr) H' → anyRun X (mono Γ) all K m (j :: D) (landFr o.dst v frl) H' := by
              intro v H' hps hr'
              refine ih r (j :: pre) _ pend (j :: D) (landFr o.dst v fr) (landFr o.dst v frl) H' (by simp at hn ⊢; omega) hw' hc' ?_ hr'
              refine { nodup := I.nodup, sub := hq', mpre := fun q hq => List.mem_cons_of_mem _ (I.mpre q (List.mem_filter.1 hq).1), quiet := fun q hq => I.quiet q (List.mem_filter.1 hq).1, exec := fun k => ?_, closed := fun k hk ok hok d hd => ?_, pw := fun p hp q hq => I.pw p (List.mem_filter.1 hp).1 q (List.mem_filter.1 hq).1, agree := fun t ht => ?_, ps := hps }
              · rw [List.mem_cons, List.mem_cons, I.exec k]
                constructor
                · rintro (rfl | ⟨h1, h2⟩)
                  · exact ⟨.inl rfl, hiP⟩
                  · exact ⟨.inr h1, h2⟩
                · rintro ⟨rfl | h1, h2⟩
                  · exact .inl rfl
                  · exact .inr ⟨h1, h2⟩
              · rcases List.mem_cons.1 hk with rfl | hk
                · rw [ho] at hok; injection hok with hok; subst hok; exact List.mem_cons_of_mem _ (hjd d hd)
                · exact List.mem_cons_of_mem _ (I.closed k hk ok hok d hd)
              · by_cases e : o.dst = some t
                · rw [landFr_at e, landFr_at e]
                · rw [landFr_other e, landFr_other e]; exact I.agree t ht
            rw [guarded_congr hag] at hrun
            have slots : ∀ v q, q ∈ pend → ∀ oq, all[q]? = some oq → (∀ t ∈ looks all oq, landFr o.dst v fr t = fr t) ∧ ∀ d, oq.dst = some d → landFr o.dst v fr d = fr d := fun v q hqp oq hoq =>
              ⟨fun t ht => landFr_other fun e => ((ap q hqp oq hoq).1 t e).1 ht, fun d hd => landFr_other fun e => ((ap q hqp oq hoq).1 d e).2 hd⟩
            refine guarded_mono (fun hE => ?_) (fun hF => ?_) hrun
            · unfold stepOp
              refine stepV_mono (fun t ht => hag t (looks_tmps t ht)) (fun v H' hv => ?_) hE
              have hv := landB_eq hv
              rw [land_eq]
              obtain ⟨hr', hrc⟩ := recheck_spec chk hv
              refine fin v H' (fun q hqp => ?_) hr'
              obtain ⟨oq, hoq, hps⟩ := I.ps q hqp
              obtain ⟨s1, s2⟩ := slots v q hqp oq hoq
              obtain ⟨_, _, hg⟩ := (I.ps q hqp).write hoq s1 s2
              rename_i oq' hoq'
              rw [hoq] at hoq'; injection hoq' with hoq'; subst hoq'
              refine ⟨oq, hoq, ?_⟩
              refine guarded_elim hg (fun iff hE => iff.2 ?_) (fun iff hF => iff.2 hF)
              obtain ⟨rv, hrv, hob, hvv⟩ := hE
              rcases (ap q hqp oq hoq).2.2 with hp | hp
              · obtain ⟨r2, h1, h2, h3⟩ := pure_indep (H2 := H') hp hrv
                exact ⟨r2, h1, fun p hpp => hob p (by rw [← h3]; exact hpp), fun d hd => by rw [h2]; exact hvv d hd⟩
              · obtain ⟨o3, d3, ho3, hd3, hg3⟩ := hrc q hp
                rw [hoq] at ho3; injection ho3 with ho3; subst ho3
                obtain ⟨r2, h1, h2, h3⟩ := iff.1 hg3
                exact ⟨r2, h1, h2, fun d hd => by rw [hd3] at hd; injection hd with hd; subst hd; exact h3.symm⟩
            · rw [land_eq] at hF ⊢
              refine fin (.tup []) H (fun q hqp => ?_) hF
              obtain ⟨oq, hoq, _⟩ := I.ps q hqp
              obtain ⟨s1, s2⟩ := slots (.tup []) q hqp oq hoq
              exact (I.ps q hqp).write hoq s1 s2
          · exfalso
            obtain ⟨k, hk, hkj⟩ := List.mem_map.1 h
            have := List.all_eq_true.1 hwait k hk
            rw [hkj] at this
            rcases downs_ready I.closed (i := j) (fun o' ho' d hd => by rw [hoj] at ho'; injection ho' with ho'; subst ho'; exact hjd d hd) 100000 i ((memN_iff _ _).1 this) with e | hD
            · subst e
              -- j is the next one itself, told twice
              exact walk_fresh r _ _ hw' i h (by simp)
            · exact hiD hD

theorem canon_any0 {Γ : FuncId → Spec S} {all : List Oper} {K : Fr S → AH S → Prop} {cl : List (Nat × List Nat)} (hok : okOrd X all cl = true) (h : runO X Γ all K cl fr H) : anyRun X (mono Γ) all K cl.length [] fr H := by
  simp only [okOrd, Bool.and_eq_true] at hok
  obtain ⟨h1, h2, h3⟩ := hok
  refine canon_any (fun i o ho d hd => ?_) cl.length cl [] [] [] [] fr fr H (by simp) h1 (fun i hi => .inr ?_) ?_ h
  · have := List.all_eq_true.1 h3 i (List.mem_range.2 (List.getElem?_eq_some_iff.1 ho).1)
    rw [nth_get, ho] at this
    have := List.all_eq_true.1 this d hd
    rwa [Nat.blt_eq] at this
  · exact (memN_iff _ _).1 (List.all_eq_true.1 h2 i (List.mem_range.2 hi))
  · exact ⟨List.nodup_nil, (fun q h => by cases h), (fun q h => by cases h), (fun q h => by cases h), (fun i => by simp), (fun i h => by cases h), (fun p h => by cases h), (fun t _ => rfl), (fun q h => by cases h)⟩
theorem okOrd_length {all : List Oper} {cl : List (Nat × List Nat)} (hok : okOrd X all cl = true) : cl.length = all.length := by
  simp only [okOrd, Bool.and_eq_true] at hok
  obtain ⟨h1, h2, _⟩ := hok
  have fresh : ∀ (r : List (Nat × List Nat)) (pre mp : List Nat), walk X all r pre mp = true → (r.map (·.1)).Nodup ∧ ∀ k ∈ r.map (·.1), k < all.length := by
    intro r
    induction r with
    | nil => intro pre mp _; exact ⟨List.nodup_nil, fun k hk => by simp at hk⟩
    | cons ic r ih =>
      intro pre mp hw
      obtain ⟨i, chk⟩ := ic
      have hw0 := hw
      unfold walk at hw
      rw [nth_get] at hw
      cases ho : all[i]? with
      | none => rw [ho] at hw; cases hw
      | some o =>
        rw [ho] at hw
        simp only [Bool.and_eq_true, Bool.not_eq_true'] at hw
        obtain ⟨w1, w2, w3⟩ := hw
        have : ∃ mp', walk X all r (i :: pre) mp' = true := by
          split at w3
          · exact ⟨_, w3⟩
          · simp only [Bool.and_eq_true] at w3; exact ⟨_, w3.2.2⟩
        obtain ⟨mp', hw'⟩ := this
        obtain ⟨n1, n2⟩ := ih _ _ hw'
        refine ⟨List.nodup_cons.2 ⟨fun h => walk_fresh r _ _ hw' i h (by simp), n1⟩, fun k hk => ?_⟩
        rcases List.mem_cons.1 hk with rfl | hk
        · exact (List.getElem?_eq_some_iff.1 ho).1
        · exact n2 k hk
  obtain ⟨n1, n2⟩ := fresh cl [] [] h1
  have a1 : (cl.map (·.1)).length ≤ (List.range all.length).length := (List.nodup_iff_pairwise_ne.1 n1 |> fun _ => n1).length_le_of_subset fun k hk => List.mem_range.2 (n2 k hk)
  have a2 : (List.range all.length).length ≤ (cl.map (·.1)).length := List.nodup_range.length_le_of_subset fun k hk => (memN_iff _ _).1 (List.all_eq_true.1 h2 k hk)
  simp at a1 a2; omega
end Ev
