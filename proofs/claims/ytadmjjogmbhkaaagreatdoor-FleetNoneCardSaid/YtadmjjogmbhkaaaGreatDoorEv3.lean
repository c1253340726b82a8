/- Values: comparisons, arithmetic, structs; and the quiet operations, all of them. -/
import Derived.Test.YtadmjjogmbhkaaaGreatDoorEv2
namespace Ev
open Go
variable {S : Sig} {P : Program} {X : Ctx S} {E : Env} {fr : Fr S} {H : AH S} {a : Act} {w : World}

theorem vr_isB {x : AV S} {v : Value} (h : VR X E x v) (hb : isB x = true) : v = .bool (valB x) := by
  cases x <;> simp [isB] at hb <;> cases h <;> rfl
theorem vr_bool_mk (b : Bool) : VR X E (.bool b : AV S) (.bool b) := .bool b
theorem vr_notV {x : AV S} {v : Value} (h : VR X E x v) (hb : isB x = true) : VR X E (notV x) (.bool (!valB x)) := by
  cases x <;> simp [isB] at hb <;> cases h <;> constructor

theorem aun_sound {op : UnOp} {x r : AV S} (h : aun op x = some r) {v : Value} (hx : VR X E x v) : ∃ u, (Op.unary op v).run P w = .ok u w ∧ VR X E r u := by
  unfold aun at h
  split at h
  · cases hx with
    | int =>
    cases op <;> simp at h <;> subst h
    · exact ⟨_, by simp [wr_eq, Op.unary, Op.intArith], .int _ _⟩
    · exact ⟨_, by simp [wr_eq, Op.unary, Op.intBits], .int _ _⟩
  · cases op <;> simp at h
    split at h
    · rename_i hb
      injection h with h; subst h
      have e := vr_isB hx hb
      refine ⟨.bool (!valB x), ?_, vr_notV hx hb⟩
      subst e
      simp [Op.unary]
    · cases h

theorem run_equal {t : TypeId} {u v : Value} {b : Bool} (h : ∀ d, (Op.equalIn (d + 1) t u v).run P w = .ok b w) : (Op.equal t u v).run P w = .ok b w := h 9999
theorem equalIn_bool {t : TypeId} (hu : P.underlying t = some .bool) (x y : Bool) (d : Nat) : (Op.equalIn (d + 1) t (.bool x) (.bool y)).run P w = .ok (x == y) w := by
  simp [Op.equalIn, run_underlying hu]
theorem equalIn_nn {t e : TypeId} (hu : P.underlying t = some (.pointer e)) (d : Nat) : (Op.equalIn (d + 1) t (.pointer none) (.pointer none)).run P w = .ok true w := by
  simp [Op.equalIn, run_underlying hu]
theorem equalIn_ns {t e : TypeId} (hu : P.underlying t = some (.pointer e)) (p : Addr) (d : Nat) : (Op.equalIn (d + 1) t (.pointer none) (.pointer (some p))).run P w = .ok false w := by
  simp [Op.equalIn, run_underlying hu]
theorem equalIn_sn {t e : TypeId} (hu : P.underlying t = some (.pointer e)) (p : Addr) (d : Nat) : (Op.equalIn (d + 1) t (.pointer (some p)) (.pointer none)).run P w = .ok false w := by
  simp [Op.equalIn, run_underlying hu]
theorem equalIn_slice {t e : TypeId} (hu : P.underlying t = some (.slice e)) (d : Nat) : (Op.equalIn (d + 1) t (.slice none 0 0) (.slice none 0 0)).run P w = .ok true w := by
  simp [Op.equalIn, run_underlying hu]

theorem equal_ptr {t e : TypeId} (hu : P.underlying t = some (.pointer e)) {x y r : AV S} (h : aeqPtr x y = some r) {u v : Value} (hx : VR X E x u) (hy : VR X E y v) :
    isB r = true ∧ (Op.equal t u v).run P w = .ok (valB r) w ∧ ∃ p q, u = .pointer p ∧ v = .pointer q := by
  cases x <;> simp only [aeqPtr, reduceCtorEq] at h <;> cases y <;> simp only [Option.some.injEq, reduceCtorEq] at h <;> subst h <;> cases hx <;> cases hy
  · exact ⟨rfl, run_equal (equalIn_nn hu), _, _, rfl, rfl⟩
  · exact ⟨rfl, run_equal (equalIn_ns hu _), _, _, rfl, rfl⟩
  · exact ⟨rfl, run_equal (equalIn_ns hu _), _, _, rfl, rfl⟩
  · exact ⟨rfl, run_equal (equalIn_sn hu _), _, _, rfl, rfl⟩
  · exact ⟨rfl, run_equal (equalIn_sn hu _), _, _, rfl, rfl⟩

/-- '==' of what is neither a number nor a string -/
theorem aeq_sound (G : Good P X) {t : TypeId} {x y r : AV S} (h : aeq X t x y = some r) {u v : Value} (hx : VR X E x u) (hy : VR X E y v) :
    isB r = true ∧ (Op.equal t u v).run P w = .ok (valB r) w ∧ (∀ op xo yo, (eqGuard op t xo yo u v).run P w = .ok () w) ∧ (∀ op, op = .eql ∨ op = .neq → (binOp op t u v).run P w = ((Op.equal t u v).run P w).andThen fun b w' => .ok (.bool (if op = .eql then b else !b)) w') := by
  unfold aeq at h
  split at h
  · rename_i hd
    split at h
    · rename_i p q hb
      have hb := oB2_spec hb
      injection h with h; subst h
      have e1 := vr_isB hx hb.1.1
      have e2 := vr_isB hy hb.2.1
      rw [hb.1.2] at e1; rw [hb.2.2] at e2
      subst e1; subst e2
      refine ⟨rfl, run_equal (equalIn_bool (G.lay.bool hd) _ _), fun op xo yo => ?_, fun op ho => ?_⟩
      · cases op <;> simp [eqGuard]
      · rcases ho with rfl | rfl <;> simp [binOp]
    · cases h
  · rename_i e hd
    obtain ⟨h1, h2, p, q, rfl, rfl⟩ := equal_ptr (w := w) (G.lay.ptr hd) h hx hy
    refine ⟨h1, h2, fun op xo yo => ?_, fun op ho => ?_⟩
    · cases op <;> simp [eqGuard]
    · rcases ho with rfl | rfl <;> simp [binOp]
  · rename_i e hd
    split at h
    · injection h with h; subst h
      cases hx; cases hy
      refine ⟨rfl, run_equal (equalIn_slice (G.lay.slice hd)), fun op xo yo => ?_, fun op ho => ?_⟩
      · cases op <;> simp [eqGuard]
      · rcases ho with rfl | rfl <;> simp [binOp]
    · cases h
  · rename_i fs hd
    split at h
    · split at h
      · rename_i cs _ cs'
        split at h
        · rename_i hq
          simp only [Bool.and_eq_true] at hq
          have q1 := Nat.eq_of_beq_eq_true hq.1.2
          have q2 := Nat.eq_of_beq_eq_true hq.2
          split at h
          · rename_i c hc
            injection h with h; subst h
            obtain ⟨ds, rfl, hds⟩ := vr_agg hx
            obtain ⟨ds', rfl, hds'⟩ := vr_agg hy
            obtain ⟨h1, h2⟩ := G.eqT t cs cs' c hq.1.1 hc q1 q2 E ds.toList ds'.toList w hds hds'
            refine ⟨rfl, by simpa [valB] using h1, fun op xo yo => ?_, fun op ho => ?_⟩
            · cases op <;> simp [eqGuard, program, Sem.run, h2]
            · rcases ho with rfl | rfl <;> simp [binOp]
          · cases h
        · cases h
      · cases h
    · cases h
  · cases h

theorem abin_sound (G : Good P X) {op : BinOp} {t : TypeId} {x y : AV S} {p : Option Prop} {r : AV S} (h : abin X op t x y = some (p, r)) (hob : ∀ q, p = some q → q) {u v : Value}
    (hx : VR X E x u) (hy : VR X E y v) (xo yo : Operand) :
    ∃ z, ((do eqGuard op t xo yo u v; binOp op t u v) : Sem Value).run P w = .ok z w ∧ VR X E r z := by
  unfold abin at h
  split at h
  · rename_i k n
    split at h
    · rename_i k' m
      cases hx; cases hy
      have hg : (eqGuard op t xo yo (.int k n) (.int k' m)).run P w = .ok () w := by cases op <;> simp [eqGuard]
      simp only [Sem.run_bind, hg, Result.andThen_ok]
      split at h
      · simp only [Option.some.injEq, Prod.mk.injEq] at h
        obtain ⟨rfl, rfl⟩ := h
        have := hob _ rfl
        exact ⟨_, by simp [wr_eq, binOp, Op.shift, show ¬ m < 0 by omega], .int _ _⟩
      · simp only [Option.some.injEq, Prod.mk.injEq] at h
        obtain ⟨rfl, rfl⟩ := h
        have := hob _ rfl
        exact ⟨_, by simp [binOp, Op.shift, show ¬ m < 0 by omega], .int _ _⟩
      · rename_i hn1 hn2
        split at h
        · cases h
        · rename_i hk
          simp only [decide_eq_true_eq] at hk
          subst hk
          cases op <;> simp only [Option.some.injEq, Prod.mk.injEq, reduceCtorEq] at h <;> (try exact absurd rfl hn1) <;> (try exact absurd rfl hn2) <;> obtain ⟨rfl, rfl⟩ := h
          case add | sub | mul => exact ⟨_, by simp [wr_eq, binOp, Op.intArith], .int _ _⟩
          case quo | rem => have := hob _ rfl; exact ⟨_, by simp [wr_eq, binOp, Op.intDiv, this], .int _ _⟩
          case and | or | xor => exact ⟨_, by simp [wr_eq, binOp, Op.intBits], .int _ _⟩
          all_goals exact ⟨_, by simp [binOp, Op.intCmp], .bool _⟩
    · cases h
  · rename_i s
    split at h
    · rename_i s'
      cases hx; cases hy
      have hg : (eqGuard op t xo yo (.string s) (.string s')).run P w = .ok () w := by cases op <;> simp [eqGuard]
      simp only [Sem.run_bind, hg, Result.andThen_ok]
      split at h
      · simp only [Option.some.injEq, Prod.mk.injEq] at h
        obtain ⟨rfl, rfl⟩ := h
        have := hob _ rfl
        refine ⟨_, ?_, .str _⟩
        have e : ¬ (((s.size + s'.size : Nat) : Int) > IntKind.i64.max) := by
          have : IntKind.i64.max = 9223372036854775807 := by decide
          rw [this]; unfold maxInt at *; omega
        simp only [binOp, Op.stringOp, if_neg e, Sem.run_pure]
      · simp only [Option.some.injEq, Prod.mk.injEq] at h
        obtain ⟨rfl, rfl⟩ := h
        exact ⟨_, by simp [binOp, Op.stringOp], .bool _⟩
      · simp only [Option.some.injEq, Prod.mk.injEq] at h
        obtain ⟨rfl, rfl⟩ := h
        exact ⟨_, by simp [binOp, Op.stringOp], .bool _⟩
      · cases h
    · cases h
  · split at h
    · split at h
      · rename_i r' hr
        simp only [Option.some.injEq, Prod.mk.injEq] at h
        obtain ⟨rfl, rfl⟩ := h
        obtain ⟨h1, h2, h3, h4⟩ := aeq_sound (w := w) G hr hx hy
        refine ⟨.bool (valB r'), ?_, ?_⟩
        · simp only [Sem.run_bind, h3, Result.andThen_ok, h4 .eql (.inl rfl), h2, if_true]
        · cases r' <;> simp [isB] at h1 <;> constructor
      · cases h
    · split at h
      · rename_i r' hr
        simp only [Option.some.injEq, Prod.mk.injEq] at h
        obtain ⟨rfl, rfl⟩ := h
        obtain ⟨h1, h2, h3, h4⟩ := aeq_sound (w := w) G hr hx hy
        refine ⟨.bool (!valB r'), ?_, ?_⟩
        · simp only [Sem.run_bind, h3, Result.andThen_ok, h4 .neq (.inr rfl), h2, reduceCtorEq, if_false]
        · cases r' <;> simp [isB] at h1 <;> constructor
      · cases h
    · cases h

theorem maxL_sound {k : IntKind} : ∀ (l : List (AV S)) (n : Int) (r : AV S), maxL k n l = some r → ∀ us, VRs X E l us → ∃ z, (us.foldlM Builtin.max2 (.int k n)).run P w = .ok z w ∧ VR X E r z
  | [], n, r, h, us, hu => by
    injection h with h; subst h
    rw [hu.inv_nil]
    exact ⟨_, by simp, .int _ _⟩
  | .int k' m :: l, n, r, h, us, hu => by
    obtain ⟨u, us, rfl, h1, h2⟩ := hu.inv_cons
    cases h1
    obtain ⟨z, hz, hr⟩ := maxL_sound l _ r h us h2
    exact ⟨z, by simpa [List.foldlM_cons, Builtin.max2] using hz, hr⟩
  | .top :: _, _, _, h, _, _ | .tt :: _, _, _, h, _, _ | .ff :: _, _, _, h, _, _ | .bool _ :: _, _, _, h, _, _ | .str _ :: _, _, _, h, _, _ | .nilp :: _, _, _, h, _, _
  | .ptr .. :: _, _, _, h, _, _ | .ip .. :: _, _, _, h, _, _ | .nils :: _, _, _, h, _, _ | .emp :: _, _, _, h, _, _ | .slc .. :: _, _, _, h, _, _ | .imm .. :: _, _, _, h, _, _
  | .nilm :: _, _, _, h, _, _ | .map _ :: _, _, _, h, _, _ | .nilf :: _, _, _, h, _, _ | .fn .. :: _, _, _, h, _, _ | .nili :: _, _, _, h, _, _ | .iface .. :: _, _, _, h, _, _
  | .agg _ :: _, _, _, h, _, _ | .tup _ :: _, _, _, h, _, _ => by cases h
theorem minL_sound {k : IntKind} : ∀ (l : List (AV S)) (n : Int) (r : AV S), minL k n l = some r → ∀ us, VRs X E l us → ∃ z, (us.foldlM Builtin.min2 (.int k n)).run P w = .ok z w ∧ VR X E r z
  | [], n, r, h, us, hu => by
    injection h with h; subst h
    rw [hu.inv_nil]
    exact ⟨_, by simp, .int _ _⟩
  | .int k' m :: l, n, r, h, us, hu => by
    obtain ⟨u, us, rfl, h1, h2⟩ := hu.inv_cons
    cases h1
    obtain ⟨z, hz, hr⟩ := minL_sound l _ r h us h2
    exact ⟨z, by simpa [List.foldlM_cons, Builtin.min2] using hz, hr⟩
  | .top :: _, _, _, h, _, _ | .tt :: _, _, _, h, _, _ | .ff :: _, _, _, h, _, _ | .bool _ :: _, _, _, h, _, _ | .str _ :: _, _, _, h, _, _ | .nilp :: _, _, _, h, _, _
  | .ptr .. :: _, _, _, h, _, _ | .ip .. :: _, _, _, h, _, _ | .nils :: _, _, _, h, _, _ | .emp :: _, _, _, h, _, _ | .slc .. :: _, _, _, h, _, _ | .imm .. :: _, _, _, h, _, _
  | .nilm :: _, _, _, h, _, _ | .map _ :: _, _, _, h, _, _ | .nilf :: _, _, _, h, _, _ | .fn .. :: _, _, _, h, _, _ | .nili :: _, _, _, h, _, _ | .iface .. :: _, _, _, h, _, _
  | .agg _ :: _, _, _, h, _, _ | .tup _ :: _, _, _, h, _, _ => by cases h

theorem aconvert_sound (G : Good P X) {src dst : TypeId} {x r : AV S} (h : aconvert X src dst x = some r) {u : Value} (hx : VR X E x u) :
    ∃ z, (convert src dst u).run P w = .ok z w ∧ VR X E r z := by
  unfold aconvert at h
  split at h
  · cases h
  rename_i ho
  obtain ⟨d, hs⟩ : ∃ d, P.underlying src = some d := by
    rcases G.lay.ds src with h' | h'
    · rw [h'] at ho; cases ho
    · cases hu : P.underlying src with
      | none => rw [hu] at h'; cases h'
      | some d => exact ⟨d, rfl⟩
  split at h
  · cases hx
    split at h
    · rename_i k hd
      injection h with h; subst h
      exact ⟨_, by simp [wr_eq, convert, run_underlying hs, run_underlying (G.lay.int hd), Conv.intToInt], .int _ _⟩
    · cases h
  · cases hx
    split at h
    · rename_i h1 h2
      injection h with h; subst h
      exact ⟨_, by simp [convert, run_underlying (G.lay.str h1), run_underlying (G.lay.str h2)], .str _⟩
    · cases h
  · cases h

theorem run_mapM {α β : Type} (f : α → Sem β) (g : α → β) : ∀ (l : List α), (∀ x ∈ l, (f x).run P w = .ok (g x) w) → (l.mapM f).run P w = .ok (l.map g) w
  | [], _ => by simp
  | x :: r, h => by
    have h1 := h x (by simp)
    have h2 := run_mapM f g r (fun y hy => h y (by simp [hy]))
    simp [List.mapM_cons, h1, h2]

theorem foldl_over : ∀ (vs : List Value) (off k : Nat) (cells : Array Value), off + k + vs.length ≤ cells.size →
    ((vs.zipIdx k).foldl (fun cs (p : Value × Nat) => cs.setIfInBounds (off + p.2) p.1) cells).toList = cells.toList.take (off + k) ++ vs ++ cells.toList.drop (off + k + vs.length)
  | [], off, k, cells, h => by simp
  | v :: vs, off, k, cells, h => by
    simp only [List.zipIdx_cons, List.foldl_cons]
    rw [foldl_over vs off (k + 1) _ (by simp at h ⊢; omega)]
    have e := list_seg_step cells.toList (off + k) v vs (by simp at h ⊢; omega)
    simpa [Array.toList_setIfInBounds, Nat.add_assoc] using e

theorem vr_whole {x : AV S} {v : Value} (h : VR X E x v) (hw : whole x = true) : VRs X E (cellsOf x) v.cells.toList :=
  vr_cells h (fun e => by subst e; cases hw) (fun cs e => by subst e; cases hw)

theorem fill_sound {place : Nat → Option (Nat × Nat)} : ∀ (ps : List (Nat × AV S)) (cs cs' : List (AV S)), fillA place cs ps = some cs' → ∀ (cells : Array Value) (qs : List (Nat × Value)), VRs X E cs cells.toList →
    qs.map (·.1) = ps.map (·.1) → (∀ (i : Nat) (p : Nat × AV S) (q : Nat × Value), ps[i]? = some p → qs[i]? = some q → VR X E p.2 q.2) → ∃ out, Instr.fill place cells qs = some out ∧ VRs X E cs' out.toList
  | [], cs, cs', h, cells, qs, hc, hq, _ => by
    injection h with h; subst h
    cases qs with
    | nil => exact ⟨cells, rfl, hc⟩
    | cons => simp at hq
  | (i, v) :: ps, cs, cs', h, cells, qs, hc, hq, hp => by
    cases qs with
    | nil => simp at hq
    | cons q qs =>
      obtain ⟨j, u⟩ := q
      simp only [List.map_cons, List.cons.injEq] at hq
      obtain ⟨rfl, hq⟩ := hq
      have hvu := hp 0 _ _ rfl rfl
      unfold fillA at h
      split at h
      · cases h
      · rename_i off size hpl
        split at h
        · rename_i hb
          simp only [Bool.and_eq_true] at hb
          have b1 := Nat.eq_of_beq_eq_true hb.1.1
          have b2 := Nat.le_of_ble_eq_true hb.1.2
          have hvs := vr_whole hvu hb.2
          have hlen : u.cells.size = size := by rw [← b1]; simpa using hvs.1.symm
          have hcl : cs.length = cells.size := by simpa using hc.1
          have hfo := foldl_over u.cells.toList off 0 cells (by simp; omega)
          have hov := hc.over off hvs
          simp only [Nat.add_zero] at hfo
          rw [← hfo] at hov
          obtain ⟨out, h1, h2⟩ := fill_sound ps _ cs' h _ qs hov hq (fun i p q hp' hq' => hp (i + 1) p q (by simpa using hp') (by simpa using hq'))
          refine ⟨out, ?_, h2⟩
          have hnot : ¬ (u.cells.size ≠ size ∨ off + u.cells.size > cells.size) := by omega
          simp only [Instr.fill, hpl]
          rw [if_neg (by simpa using hnot)]
          rw [← h1]
          congr 1
          apply Array.ext'
          rw [← Array.foldl_toList, Array.toList_zipIdx]
        · cases h

theorem parts_fst (fr : Fr S) (a : Act) (ps : Array (Nat × Operand)) : ((ps.map fun p => (p.1, a.eval p.2)).toList).map (·.1) = (ps.toList.map fun p => (p.1, opd fr p.2)).map (·.1) := by
  simp [Function.comp_def]
theorem parts_vr {fr : Fr S} {a : Act} (hf : FR X E fr a) (ps : Array (Nat × Operand)) : ∀ (i : Nat) (p : Nat × AV S) (q : Nat × Value), (ps.toList.map fun p => (p.1, opd fr p.2))[i]? = some p →
    ((ps.map fun p => (p.1, a.eval p.2)).toList)[i]? = some q → VR X E p.2 q.2 := by
  intro i p q hp hq
  simp only [List.getElem?_map, Array.toList_map, Option.map_eq_some_iff] at hp hq
  obtain ⟨x, hx, rfl⟩ := hp
  obtain ⟨y, hy, rfl⟩ := hq
  rw [hx] at hy; injection hy with hy; subst hy
  exact vr_opd hf _

theorem zeroCells_sound (G : Good P X) {t : TypeId} (hs : 0 < X.L.size t) (hz : (zeroCells X t).length = X.L.size t) :
    ∃ i z, P.info? t = some i ∧ i.size = X.L.size t ∧ i.bytes = X.L.bytes t ∧ i.zero = some z ∧ z.cells.size = i.size ∧ VRs X E (zeroCells X t) z.cells.toList := by
  obtain ⟨i, z, h1, h2, h3, h4, h5, h6⟩ := G.lay.info t hs
  refine ⟨i, z, h1, h2, h3, h4, h5, ?_⟩
  rcases h6 with h6 | h6
  · unfold zeroCells at hz; rw [h6] at hz; simp at hz; omega
  · unfold zeroCells; rw [h6]; exact vrs_ofCells _

theorem mapM_places (G : Good P X) : ∀ (gs : List Field), (∀ f ∈ gs, ∃ i, P.info? f.type = some i ∧ i.size = X.L.size f.type) →
    gs.mapM (fun f => (P.info? f.type).map fun i => (f.offset, i.size)) = some (gs.map fun f => (f.offset, X.L.size f.type))
  | [], _ => rfl
  | f :: gs, h => by
    obtain ⟨i, hi, hs⟩ := h f (by simp)
    have ih := mapM_places G gs (fun g hg => h g (by simp [hg]))
    simp [List.mapM_cons, hi, ih, hs]

theorem abuild_sound (G : Good P X) {t : TypeId} {ps : Array (Nat × Operand)} {fr : Fr S} {a : Act} (hf : FR X E fr a) {r : AV S} (h : abuild X t (ps.toList.map fun p => (p.1, opd fr p.2)) = some r) :
    ∃ z, (Instr.build t (ps.map fun p => (p.1, a.eval p.2))).run P w = .ok z w ∧ VR X E r z := by
  unfold abuild at h
  split at h
  · cases h
  · rename_i hb
    simp only [Bool.and_eq_true, Nat.blt_eq] at hb
    obtain ⟨i, z, hi, hs, _, hz, hzs, hzv⟩ := zeroCells_sound (E := E) G hb.1 (Nat.eq_of_beq_eq_true hb.2)
    split at h
    · rename_i fs hd
      split at h
      · rename_i cs hc
        injection h with h; subst h
        obtain ⟨gs, hu, hgs⟩ := G.lay.struct hd
        have hpl : (fun i => (nth fs i).map fun p => (p.1, X.L.size p.2)) = (((gs.toList.map fun f => (f.offset, X.L.size f.type)).toArray)[·]?) := by
          funext i
          rw [nth_eq, ← hgs]
          simp [Function.comp_def]
        rw [hpl] at hc
        obtain ⟨out, h1, h2⟩ := fill_sound _ _ _ hc z.cells _ hzv (parts_fst fr a ps) (parts_vr hf ps)
        refine ⟨.agg out, run_build w t _ out ?_, vr_agg_mk h2⟩
        have hm := mapM_places G gs.toList (fun f hf => by
          have := G.lay.finfo t fs hd (f.offset, f.type) (by rw [← hgs]; exact List.mem_map.2 ⟨f, hf, rfl⟩)
          exact this)
        unfold Program.built
        simp only [hi, hu, hz, hm, h1]
      · cases h
    · rename_i n e hd
      split at h
      · rename_i hse
        rw [Nat.blt_eq] at hse
        obtain ⟨ie, ze, hie, hes, _⟩ := G.lay.info e hse
        split at h
        · rename_i cs hc
          injection h with h; subst h
          obtain ⟨out, h1, h2⟩ := fill_sound _ _ _ hc z.cells _ hzv (parts_fst fr a ps) (parts_vr hf ps)
          refine ⟨.agg out, run_build w t _ out ?_, vr_agg_mk h2⟩
          unfold Program.built
          simp only [hi, G.lay.array hd, hz, hie, hes, h1]
        · cases h
      · cases h
    · cases h

theorem vrs_map {fr : Fr S} {a : Act} (hf : FR X E fr a) (l : List Operand) : VRs X E (l.map (opd fr)) (l.map a.eval) := by
  induction l with
  | nil => exact VRs.nil
  | cons x r ih => exact VRs.cons (vr_opd hf x) ih
theorem lenS_sound {x : AV S} {n : Nat} (h : lenS x = some n) {u : Value} (hx : VR X E x u) : ∃ aa c, u = .slice aa n c := by
  cases x <;> simp [lenS] at h <;> subst h
  · cases hx; exact ⟨_, _, rfl⟩
  · cases hx <;> exact ⟨_, _, rfl⟩
  · cases hx <;> exact ⟨_, _, rfl⟩
  · rename_i e xs
    cases hx with
    | imm0 => exact ⟨_, _, rfl⟩
    | imm1 => exact ⟨_, _, rfl⟩
    | imm _ _ b off len cap c el fz h1 h2 => subst h2; exact ⟨_, _, rfl⟩
theorem alen_sound (G : Good P X) {t ty : TypeId} {x r : AV S} (h : alen X t x = some r) {u : Value} (hx : VR X E x u) : ∃ z, (Builtin.len_ #[t] ty #[u]).run P w = .ok z w ∧ VR X E r z := by
  unfold alen at h
  split at h
  · rename_i n e hd
    injection h with h; subst h
    exact ⟨_, by simp [Builtin.len_, run_underlying (G.lay.array hd), goInt], .int _ _⟩
  · rename_i hd
    split at h
    · injection h with h; subst h
      cases hx
      exact ⟨_, by simp [Builtin.len_, run_underlying (G.lay.str hd), goInt], .int _ _⟩
    · cases h
  · rename_i e hd
    split at h
    · rename_i n hn
      injection h with h; subst h
      obtain ⟨aa, c, rfl⟩ := lenS_sound hn hx
      exact ⟨_, by simp [Builtin.len_, run_underlying (G.lay.slice hd), goInt], .int _ _⟩
    · cases h
  · cases h

theorem still_sound {H : AH S} {v : Option (AV S)} {r : Res S} (h : still H v = some r) : r.ob = none ∧ r.H = H ∧ v = some r.v := by
  cases v with
  | none => cases h
  | some v => injection h with h; subst h; exact ⟨rfl, rfl, rfl⟩

/-- an operation that only computes or reads -/
theorem quiet_sound (G : Good P X) {o : Oper} {r : Res S} (h : quiet X fr H o.op = some r) (hob : ∀ p, r.ob = some p → p) (hf : FR X E fr a) (hr : HR X E H w) :
    r.H = H ∧ ∃ u, (execOp a.eval o).run P w = .ok (.value u) w ∧ VR X E r.v u := by
  have lift : ∀ {s : Sem Value} {u : Value}, s.run P w = .ok u w → (do pure (.value (← s)) : Sem Next).run P w = .ok (.value u) w := by
    intro s u h; simp [h]
  unfold quiet at h
  split at h
  · rename_i x ho
    injection h with h; subst h
    exact ⟨rfl, _, by simp [execOp, ho], vr_opd hf x⟩
  · rename_i x ho
    injection h with h; subst h
    exact ⟨rfl, _, by simp [execOp, ho], vr_opd hf x⟩
  · rename_i c x y ho
    have hc := vr_opd hf c
    split at h
    · rename_i hcv
      injection h with h; subst h
      rw [hcv] at hc; generalize hcc : a.eval c = cc at hc; cases hc
      exact ⟨rfl, _, by simp [execOp, ho, hcc, asBool], vr_opd hf x⟩
    · rename_i hcv
      injection h with h; subst h
      rw [hcv] at hc; generalize hcc : a.eval c = cc at hc; cases hc
      exact ⟨rfl, _, by simp [execOp, ho, hcc, asBool], vr_opd hf y⟩
    · rename_i t hcv
      rw [hcv] at hc; generalize hcc : a.eval c = cc at hc; cases hc
      split at h
      · rename_i p q hb
        have hb := oB2_spec hb
        injection h with h; subst h
        have e1 := vr_isB (vr_opd hf x) hb.1.1
        have e2 := vr_isB (vr_opd hf y) hb.2.1
        rw [hb.1.2] at e1; rw [hb.2.2] at e2
        refine ⟨rfl, .bool (bif t then p else q), ?_, .bool _⟩
        cases t <;> simp [execOp, ho, hcc, asBool, e1, e2]
      · split at h
        · injection h with h; subst h
          exact ⟨rfl, _, by simp [execOp, ho, hcc, asBool], vr_opd hf x⟩
        · injection h with h; subst h
          exact ⟨rfl, _, by simp [execOp, ho, hcc, asBool], vr_opd hf y⟩
    · cases h
  · rename_i t ps ho
    obtain ⟨h1, h2, h3⟩ := still_sound h
    obtain ⟨z, hz, hv⟩ := abuild_sound (w := w) G hf h3
    exact ⟨h2, z, by simp only [execOp, ho]; exact lift hz, hv⟩
  · rename_i t x ho
    obtain ⟨h1, z, hz, hv⟩ := aload_sound G h hob hr (vr_opd hf x)
    exact ⟨h1, z, by simp only [execOp, ho]; exact lift hz, hv⟩
  · rename_i x ho
    have hx := vr_opd hf x
    split at h
    · rename_i hxv
      injection h with h; subst h
      rw [hxv] at hx; generalize hcc : a.eval x = cc at hx
      refine ⟨rfl, cc, ?_, hx⟩
      cases hx; simp [execOp, ho, hcc]
    · rename_i hxv
      injection h with h; subst h
      rw [hxv] at hx; generalize hcc : a.eval x = cc at hx
      refine ⟨rfl, cc, ?_, hx⟩
      cases hx; simp [execOp, ho, hcc]
    · cases h
  · rename_i op t x y yt ho
    unfold stillOb at h
    split at h
    · rename_i p v hb
      injection h with h; subst h
      obtain ⟨z, hz, hv⟩ := abin_sound (w := w) G hb hob (vr_opd hf x) (vr_opd hf y) x y
      exact ⟨rfl, z, by simp only [execOp, ho]; exact lift hz, hv⟩
    · cases h
  · rename_i op t x ho
    obtain ⟨h1, h2, h3⟩ := still_sound h
    obtain ⟨z, hz, hv⟩ := aun_sound (P := P) (w := w) h3 (vr_opd hf x)
    exact ⟨h2, z, by simp only [execOp, ho]; exact lift hz, hv⟩
  · rename_i s d x ho
    obtain ⟨h1, h2, h3⟩ := still_sound h
    obtain ⟨z, hz, hv⟩ := aconvert_sound (w := w) G h3 (vr_opd hf x)
    exact ⟨h2, z, by simp only [execOp, ho]; exact lift hz, hv⟩
  · rename_i f first caps ho
    split at h
    · rename_i hfirst
      injection h with h; subst h
      have e : first = #[] := Array.toList_inj.1 (by simpa using hfirst)
      subst e
      refine ⟨rfl, .func (.func f) #[] (caps.map a.eval), by simp [execOp, ho, Instr.makeFunc], .fn _ _ _ ?_ ?_⟩
      · simp
      · have := (vrs_map hf caps.toList).2
        simpa using this
    · cases h
  · rename_i t x lo hi mx ho
    obtain ⟨h1, z, hz, hv⟩ := aslice_sound G h hob hr (vr_opd hf x) (OptR.map hf) (OptR.map hf) (OptR.map hf)
    exact ⟨h1, z, by simp only [execOp, ho]; exact lift hz, hv⟩
  · rename_i s x f ho
    obtain ⟨h1, h2, h3⟩ := still_sound h
    obtain ⟨z, hz, hv⟩ := afieldAddr_sound (w := w) G h3 (vr_opd hf x)
    exact ⟨h2, z, by simp only [execOp, ho]; exact lift hz, hv⟩
  · rename_i t x f ho
    obtain ⟨h1, h2, h3⟩ := still_sound h
    obtain ⟨z, hz, hv⟩ := afield_sound (w := w) G h3 (vr_opd hf x)
    exact ⟨h2, z, by simp only [execOp, ho]; exact lift hz, hv⟩
  · rename_i t x i ho
    obtain ⟨h1, z, hz, hv⟩ := aindexAddr_sound G h hob hr (vr_opd hf x) (vr_opd hf i)
    exact ⟨h1, z, by simp only [execOp, ho]; exact lift hz, hv⟩
  · rename_i t x i ho
    obtain ⟨h1, z, hz, hv⟩ := aindex_sound (w := w) G h hob (vr_opd hf x) (vr_opd hf i)
    exact ⟨h1, z, by simp only [execOp, ho]; exact lift hz, hv⟩
  · rename_i x i ho
    have hx := vr_opd hf x
    split at h
    · rename_i vs hxv
      obtain ⟨h1, h2, h3⟩ := still_sound h
      rw [hxv] at hx; generalize hcc : a.eval x = cc at hx
      obtain ⟨ds, rfl, hds⟩ := vr_tup hx
      rw [nth_eq] at h3
      obtain ⟨u, hu, hv⟩ := hds.get h3
      have hu' : ds[i]? = some u := by simpa using hu
      exact ⟨h2, u, by simp [execOp, ho, hcc, Instr.extract, hu'], hv⟩
    · cases h
  · rename_i args argTypes ho
    split at h
    · rename_i x hx
      split at h
      · rename_i t ht
        obtain ⟨h1, h2, h3⟩ := still_sound h
        have ha := vrs_map hf args.toList
        rw [hx] at ha
        obtain ⟨u, us, hus, hu, hn⟩ := ha.inv_cons
        have e := hn.inv_nil; subst e
        obtain ⟨z, hz, hv⟩ := alen_sound (w := w) (ty := o.type) G h3 hu
        refine ⟨h2, z, ?_, hv⟩
        have e1 : args.map a.eval = #[u] := Array.toList_inj.1 (by simpa using hus)
        have e2 : argTypes = #[t] := Array.toList_inj.1 (by simpa using ht)
        subst e2
        simp [execOp, ho, resolve, invoke, builtin, e1, hz]
      · cases h
    · cases h
  · rename_i args argTypes ho
    split at h
    · rename_i k n l hx
      obtain ⟨h1, h2, h3⟩ := still_sound h
      have ha := vrs_map hf args.toList
      rw [hx] at ha
      obtain ⟨u, us, hus, hu, hn⟩ := ha.inv_cons
      cases hu
      obtain ⟨z, hz, hv⟩ := maxL_sound (P := P) (w := w) _ _ _ h3 us hn
      refine ⟨h2, z, ?_, hv⟩
      have e1 : (args.map a.eval).toList = .int k n :: us := by simpa using hus
      simp [execOp, ho, resolve, invoke, builtin, Builtin.max_, hus, hz]
    · cases h
  · rename_i args argTypes ho
    split at h
    · rename_i k n l hx
      obtain ⟨h1, h2, h3⟩ := still_sound h
      have ha := vrs_map hf args.toList
      rw [hx] at ha
      obtain ⟨u, us, hus, hu, hn⟩ := ha.inv_cons
      cases hu
      obtain ⟨z, hz, hv⟩ := minL_sound (P := P) (w := w) _ _ _ h3 us hn
      refine ⟨h2, z, ?_, hv⟩
      simp [execOp, ho, resolve, invoke, builtin, Builtin.min_, hus, hz]
    · cases h
  · cases h
end Ev
