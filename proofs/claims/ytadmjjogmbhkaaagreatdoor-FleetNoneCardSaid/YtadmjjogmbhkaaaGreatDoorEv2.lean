/- The operations that only compute or read: what the interpreter says of them holds of the model. -/
import Derived.Test.YtadmjjogmbhkaaaGreatDoorEv1
namespace Ev
open Go
variable {S : Sig}

def Ds.of : TypeDesc → Ds
  | .int k => .int k
  | .bool => .bool
  | .string => .str
  | .slice e => .slice e
  | .pointer e => .ptr e
  | .struct fs => .struct (fs.toList.map fun f => (f.offset, f.type))
  | .array n e => .array n e
  | .map k e => .map k e
  | .func _ _ _ => .func
  | .interface _ => .iface
  | _ => .other

/-- a value that names no place of the abstract heap -/
def noLoc : AV S → Bool
  | .tt | .ff | .bool _ | .int _ _ | .str _ | .nilp | .nils | .emp | .imm _ _ | .nilm | .nilf | .nili => true
  | _ => false

structure LayOk (P : Program) (L : Lay) : Prop where
  ds : ∀ t, L.ds t = .other ∨ (P.underlying t).map Ds.of = some (L.ds t)
  finfo : ∀ t fs, L.ds t = .struct fs → ∀ p ∈ fs, ∃ i, P.info? p.2 = some i ∧ i.size = L.size p.2
  info : ∀ t, 0 < L.size t → ∃ i z, P.info? t = some i ∧ i.size = L.size t ∧ i.bytes = L.bytes t ∧ i.zero = some z ∧ z.cells.size = i.size ∧ ((L.row t).zero = [] ∨ z.cells.toList = (L.row t).zero)

structure Good (P : Program) (X : Ctx S) : Prop where
  lay : LayOk P X.L
  enc_len : ∀ e x, (X.enc e x).length = X.L.size e
  enc_one : ∀ e x a, a ∈ X.enc e x → one a = true
  enc_noLoc : ∀ e x a, a ∈ X.enc e x → noLoc a = true
  dec : ∀ e r x, X.dec e r = some x → ∀ E us, VRs X E r us → VRs X E (X.enc e x) us
  zero : ∀ e, X.has e = true → ∀ E i z, P.info? e = some i → i.zero = some z → VRs X E (X.enc e (X.zero e)) z.cells.toList
  eqT : ∀ t cs cs' b, X.eqT t = true → eqCells cs cs' = some b → cs.length = X.L.size t → cs'.length = X.L.size t → ∀ E ds ds' w, VRs X E cs ds → VRs X E cs' ds' →
    (Op.equal t (.agg ds.toArray) (.agg ds'.toArray)).run P w = .ok b w ∧ P.eqGuardType P.depth t = false
  arr : ∀ t n e, X.asLst t = true → X.L.ds t = .array n e → 0 < X.L.size e ∧ n ≤ maxInt ∧ ∃ i z, P.info? t = some i ∧ i.zero = some z ∧ z.cells.size = n * X.L.size e ∧
    ∀ E k, k < n → VRs X E (X.enc e (X.zero e)) ((z.cells.toList.drop (k * X.L.size e)).take (X.L.size e))

/-- further: what maps need of a key's and of an element's type -/
structure GoodM (P : Program) (X : Ctx S) : Prop where
  key : ∀ e, X.isKey e = true → (∃ k, X.L.ds e = .int k ∧ ∀ y, ∃ n, X.enc e y = [.int k n]) ∨ (X.L.ds e = .str ∧ ∀ y, ∃ s, X.enc e y = [.str s])
  val : ∀ e, X.isVal e = true → ∃ i z, P.info? e = some i ∧ i.zero = some z ∧ i.size = X.L.size e ∧ (∀ E, VR X E (valOf X e (X.zero e)) z) ∧ (isAggD (X.L.ds e) = true ∨ X.L.size e = 1)

variable {P : Program} {X : Ctx S} {E : Env} {fr : Fr S} {H : AH S} {a : Act} {w : World}

section lay
variable {L : Lay} (G : LayOk P L)
include G
theorem LayOk.slice {t e : Nat} (h : L.ds t = .slice e) : P.underlying t = some (.slice e) := by
  rcases G.ds t with h' | h'
  · rw [h] at h'; cases h'
  · rw [h] at h'
    cases hu : P.underlying t with
    | none => rw [hu] at h'; cases h'
    | some d => rw [hu] at h'; cases d <;> simp [Ds.of] at h'; subst h'; rfl
theorem LayOk.array {t n e : Nat} (h : L.ds t = .array n e) : P.underlying t = some (.array n e) := by
  rcases G.ds t with h' | h'
  · rw [h] at h'; cases h'
  · rw [h] at h'
    cases hu : P.underlying t with
    | none => rw [hu] at h'; cases h'
    | some d => rw [hu] at h'; cases d <;> simp [Ds.of] at h'; obtain ⟨rfl, rfl⟩ := h'; rfl
theorem LayOk.int {t : Nat} {k : IntKind} (h : L.ds t = .int k) : P.underlying t = some (.int k) := by
  rcases G.ds t with h' | h'
  · rw [h] at h'; cases h'
  · rw [h] at h'
    cases hu : P.underlying t with
    | none => rw [hu] at h'; cases h'
    | some d => rw [hu] at h'; cases d <;> simp [Ds.of] at h'; subst h'; rfl
theorem LayOk.str {t : Nat} (h : L.ds t = .str) : P.underlying t = some .string := by
  rcases G.ds t with h' | h'
  · rw [h] at h'; cases h'
  · rw [h] at h'
    cases hu : P.underlying t with
    | none => rw [hu] at h'; cases h'
    | some d => rw [hu] at h'; cases d <;> simp [Ds.of] at h'; rfl
theorem LayOk.bool {t : Nat} (h : L.ds t = .bool) : P.underlying t = some .bool := by
  rcases G.ds t with h' | h'
  · rw [h] at h'; cases h'
  · rw [h] at h'
    cases hu : P.underlying t with
    | none => rw [hu] at h'; cases h'
    | some d => rw [hu] at h'; cases d <;> simp [Ds.of] at h'; rfl
theorem LayOk.ptr {t e : Nat} (h : L.ds t = .ptr e) : P.underlying t = some (.pointer e) := by
  rcases G.ds t with h' | h'
  · rw [h] at h'; cases h'
  · rw [h] at h'
    cases hu : P.underlying t with
    | none => rw [hu] at h'; cases h'
    | some d => rw [hu] at h'; cases d <;> simp [Ds.of] at h'; subst h'; rfl
theorem LayOk.map {t k e : Nat} (h : L.ds t = .map k e) : P.underlying t = some (.map k e) := by
  rcases G.ds t with h' | h'
  · rw [h] at h'; cases h'
  · rw [h] at h'
    cases hu : P.underlying t with
    | none => rw [hu] at h'; cases h'
    | some d => rw [hu] at h'; cases d <;> simp [Ds.of] at h'; obtain ⟨rfl, rfl⟩ := h'; rfl
theorem LayOk.struct {t : Nat} {fs : List (Nat × TypeId)} (h : L.ds t = .struct fs) : ∃ gs : Array Field, P.underlying t = some (.struct gs) ∧ gs.toList.map (fun f => (f.offset, f.type)) = fs := by
  rcases G.ds t with h' | h'
  · rw [h] at h'; cases h'
  · rw [h] at h'
    cases hu : P.underlying t with
    | none => rw [hu] at h'; cases h'
    | some d => rw [hu] at h'; cases d <;> simp [Ds.of] at h'; exact ⟨_, rfl, h'⟩
theorem LayOk.agg {t : Nat} (h : isAggD (L.ds t) = true) : (isAgg t).run P w = .ok true w := by
  cases hd : L.ds t <;> rw [hd] at h <;> simp [isAggD] at h
  · obtain ⟨gs, h1, _⟩ := G.struct hd; simp [isAgg, run_underlying h1]
  · simp [isAgg, run_underlying (G.array hd)]
theorem LayOk.notAgg {t : Nat} (hk : isOther (L.ds t) = false) (h : isAggD (L.ds t) = false) : (isAgg t).run P w = .ok false w := by
  rcases G.ds t with h' | h'
  · rw [h'] at hk; cases hk
  · cases hu : P.underlying t with
    | none => rw [hu] at h'; cases h'
    | some d =>
      rw [hu] at h'
      simp at h'
      rw [← h'] at h
      cases d <;> simp [Ds.of, isAggD] at h <;> simp [isAgg, run_underlying hu]
end lay

theorem run_sizeOf {t : TypeId} {i : TypeInfo} (hi : P.info? t = some i) : (Go.sizeOf t).run P w = .ok i.size w := by simp [Go.sizeOf, typeInfo, hi]
theorem run_zeroValue {t : TypeId} {i : TypeInfo} {z : Value} (hi : P.info? t = some i) (hz : i.zero = some z) : (zeroValue t).run P w = .ok z w := by simp [zeroValue, typeInfo, hi, hz]

theorem addr_add (b o n : Nat) : (⟨b, o, none⟩ : Addr).add n = ⟨b, o + n, none⟩ := by unfold Addr.add; split <;> simp_all

/-- cells of one block, by the list -/
theorem seg_get {c : Array Value} {el : TypeId} {fz : Nat × Nat} {b off n : Nat} (hg : w.heap[b]? = some (.cells c el fz)) :
    ∀ j v, ((c.toList.drop off).take n)[j]? = some v → w.cell? ((⟨b, off, none⟩ : Addr).add j) = some v := by
  intro j v h
  rw [addr_add, cell_of_row w b _ c el fz hg]
  rw [List.getElem?_take] at h
  split at h
  · rw [List.getElem?_drop] at h; simpa using h
  · cases h
theorem run_loadVar_agg {c : Array Value} {el : TypeId} {fz : Nat × Nat} {b off : Nat} {t : TypeId} {i : TypeInfo} (hg : w.heap[b]? = some (.cells c el fz))
    (ha : (isAgg t).run P w = .ok true w) (hi : P.info? t = some i) (hr : off + i.size ≤ c.size) :
    (loadVar t ⟨b, off, none⟩).run P w = .ok (.agg ((c.toList.drop off).take i.size).toArray) w := by
  have hl : ((c.toList.drop off).take i.size).length = i.size := by simp; omega
  have h := run_loadCells_list (P := P) w ⟨b, off, none⟩ ((c.toList.drop off).take i.size) (seg_get hg)
  rw [hl] at h
  simp [loadVar, ha, run_sizeOf hi, h]
theorem run_load_cell {c : Array Value} {el : TypeId} {fz : Nat × Nat} {b off : Nat} {v : Value} (hg : w.heap[b]? = some (.cells c el fz)) (hv : c.toList[off]? = some v) :
    (load ⟨b, off, none⟩).run P w = .ok v w := by
  have hc : w.cell? ⟨b, off, none⟩ = some v := by rw [cell_of_row w b off c el fz hg]; simpa using hv
  simp [load, Sem.run, hc]
theorem run_loadVar_one {c : Array Value} {el : TypeId} {fz : Nat × Nat} {b off : Nat} {t : TypeId} {v : Value} (hg : w.heap[b]? = some (.cells c el fz))
    (ha : (isAgg t).run P w = .ok false w) (hv : c.toList[off]? = some v) : (loadVar t ⟨b, off, none⟩).run P w = .ok v w := by
  have hc : w.cell? ⟨b, off, none⟩ = some v := by rw [cell_of_row w b off c el fz hg]; simpa using hv
  simp [loadVar, ha, hc]

/-- what 'loadIn' answers, the model loads -/
theorem loadIn_sound (G : Good P X) {t : TypeId} {cs : List (AV S)} {sub : Nat} {v : AV S} (h : loadIn X t cs sub = some v) {c : Array Value} {el : TypeId} {fz : Nat × Nat} {b base : Nat}
    (hg : w.heap[b]? = some (.cells c el fz)) (hv : VRs X E cs ((c.toList.drop base).take cs.length)) :
    ∃ u, (loadVar t ⟨b, base + sub, none⟩).run P w = .ok u w ∧ VR X E v u := by
  unfold loadIn at h
  split at h
  · rename_i ha
    split at h
    · rename_i hb
      simp only [Bool.and_eq_true, Nat.blt_eq] at hb
      have hb1 := Nat.le_of_ble_eq_true hb.1
      injection h with h; subst h
      obtain ⟨i, z, hi, hs, _⟩ := G.lay.info t hb.2
      have hlen : cs.length ≤ c.size - base := by have := hv.1; simp at this; omega
      have hc0 : 0 < cs.length := by omega
      refine ⟨_, run_loadVar_agg hg (G.lay.agg ha) hi (by rw [hs]; omega), vr_agg_mk ?_⟩
      rw [hs]
      have := (hv.drop sub).take (X.L.size t)
      rw [List.drop_take, List.drop_drop, List.take_take] at this
      rw [show min (X.L.size t) (cs.length - sub) = X.L.size t by omega] at this
      exact this
    · cases h
  · rename_i ha
    split at h
    · cases h
    · rename_i ho
      split at h
      · rename_i v' r hd
        injection h with h; subst h
        have hget : cs[sub]? = some v' := by
          have := congrArg (fun l => l[0]?) hd
          simpa [List.getElem?_drop] using this
        obtain ⟨u, hu, hvu⟩ := hv.get hget
        rw [List.getElem?_take] at hu
        split at hu
        · rw [List.getElem?_drop] at hu
          exact ⟨u, run_loadVar_one hg (G.lay.notAgg ho ha) hu, hvu⟩
        · cases hu
      · cases h
theorem over_get {cs : List (AV S)} {s : Nat} (hs : s < cs.length) (v : AV S) (j : Nat) : (over cs s [v])[j]? = if j = s then some v else cs[j]? := by
  unfold over
  have hl : (cs.take s).length = s := by simp; omega
  by_cases e : j = s
  · subst e
    rw [if_pos rfl, List.append_assoc, List.getElem?_append_right (by omega), hl, Nat.sub_self]; rfl
  · rw [if_neg e, List.append_assoc]
    rcases Nat.lt_or_ge j s with h | h
    · rw [List.getElem?_append_left (by omega), List.getElem?_take, if_pos h]
    · rw [List.getElem?_append_right (by omega), hl, List.getElem?_append_right (by simp; omega), List.getElem?_drop]
      congr 1; simp; omega

/-- a pointer's block, when it is read -/
theorem aload_sound (G : Good P X) {t : TypeId} {x : AV S} {r : Res S} (h : aload X t H x = some r) (hob : ∀ p, r.ob = some p → p) (hr : HR X E H w) {v : Value} (hx : VR X E x v) :
    r.H = H ∧ ∃ u, (Instr.loadAt t v).run P w = .ok u w ∧ VR X E r.v u := by
  unfold aload at h
  split at h
  · rename_i l row sub
    cases hx with
    | ptr _ _ _ b sh wd tot o hio ho =>
      subst ho
      split at h
      · rename_i cs hcs
        split at h
        · rename_i h0
          have h0 := Nat.eq_of_beq_eq_true h0
          subst h0
          split at h
          · rename_i v hv
            injection h with h; subst h
            refine ⟨rfl, ?_⟩
            obtain ⟨p, hp, hb⟩ := hr.blk l (getB_lt (by rw [hcs]; exact fun h => by cases h))
            rw [hio] at hp; injection hp with hp; subst hp
            rw [hcs] at hb
            obtain ⟨c, el, hg, hsh, hvr⟩ := hb
            subst hsh
            obtain ⟨u, hu, hvu⟩ := loadIn_sound G hv (base := 0) hg (by rw [List.drop_zero, hvr.1, List.take_length]; exact hvr)
            refine ⟨u, ?_, hvu⟩
            simp only [Instr.loadAt, Instr.sureAddr, Sem.run_bind, Sem.run_pure, Result.andThen_ok]
            simpa using hu
          · cases h
        · cases h
      · rename_i e xs hl
        split at h
        · rename_i v hv
          injection h with h; subst h
          refine ⟨rfl, ?_⟩
          have hlt := hob _ rfl
          obtain ⟨p, hp, hb⟩ := hr.blk l (getB_lt (by rw [hl]; exact fun h => by cases h))
          rw [hio] at hp; injection hp with hp; subst hp
          rw [hl] at hb
          obtain ⟨c, el, hg, hwd, hw0, hlen, htot, hsz, hrow⟩ := hb
          have hx := hrow row (xs[row]) (by simp [hlt])
          have hD : xs.getD row (X.zero e) = xs[row] := by simp [List.getD_eq_getElem?_getD, hlt]
          rw [hD] at hv
          obtain ⟨u, hu, hvu⟩ := loadIn_sound G hv (base := sh + row * wd) hg (by rw [G.enc_len, ← hwd]; exact hx)
          refine ⟨u, ?_, hvu⟩
          simp only [Instr.loadAt, Instr.sureAddr, Sem.run_bind, Sem.run_pure, Result.andThen_ok]
          exact hu
        · cases h
      · rename_i e xs r s vo hl
        split at h
        · cases h
        · rename_i hao
          have hao : isAggD (X.L.ds t) = false ∧ isOther (X.L.ds t) = false := by simpa using hao
          obtain ⟨p, hp, hb⟩ := hr.blk l (getB_lt (by rw [hl]; exact fun h => by cases h))
          rw [hio] at hp; injection hp with hp; subst hp
          rw [hl] at hb
          obtain ⟨c, el, hg, hwd, hw0, hlen, htot, hsz, hrl, hsl, hrow⟩ := hb
          have fin : ∀ (i : Nat) x (a : AV S), xs[i]? = some x → (if i = r then over (X.enc e x) s [vo] else X.enc e x)[sub]? = some a → ∃ u, (Instr.loadAt t (.pointer (some ⟨b, sh + i * wd + sub, none⟩))).run P w = .ok u w ∧ VR X E a u := by
            intro i x a hx ha
            obtain ⟨u, hu, hvu⟩ := (hrow i x hx).get ha
            rw [List.getElem?_take] at hu
            split at hu
            · rw [List.getElem?_drop] at hu
              refine ⟨u, ?_, hvu⟩
              simp only [Instr.loadAt, Instr.sureAddr, Sem.run_bind, Sem.run_pure, Result.andThen_ok]
              exact run_loadVar_one hg (G.lay.notAgg hao.2 hao.1) hu
            · cases hu
          split at h
          · rename_i hs
            have hs := Nat.eq_of_beq_eq_true hs; subst hs
            injection h with h; subst h
            refine ⟨rfl, ?_⟩
            have hrr : row = r := hob _ rfl
            subst hrr
            refine fin row xs[row] vo (by simp [hrl]) ?_
            rw [if_pos rfl, over_get (by rw [G.enc_len, ← hwd]; exact hsl), if_pos rfl]
          · rename_i hs
            have hs : sub ≠ s := fun e => by subst e; rw [Nat.beq_refl] at hs; cases hs
            split at h
            · rename_i v hv
              injection h with h; subst h
              refine ⟨rfl, ?_⟩
              have hlt : row < xs.length := hob _ rfl
              have hD : xs.getD row (X.zero e) = xs[row] := by simp [List.getD_eq_getElem?_getD, hlt]
              rw [hD] at hv
              unfold loadIn at hv
              rw [hao.1, hao.2] at hv
              simp only at hv
              split at hv
              · rename_i v' rr hd
                injection hv with hv; subst hv
                have hget : (X.enc e xs[row])[sub]? = some v' := by
                  have := congrArg (fun l => l[0]?) hd
                  simpa [List.getElem?_drop] using this
                refine fin row xs[row] v' (by simp [hlt]) ?_
                split
                · rw [over_get (by rw [G.enc_len, ← hwd]; exact hsl), if_neg hs]; exact hget
                · exact hget
              · cases hv
            · cases h
      · cases h
  · rename_i cs sub
    split at h
    · rename_i v hv
      injection h with h; subst h
      refine ⟨rfl, ?_⟩
      cases hx with
      | ip _ _ b base o c el fz him ho hr2 hvr =>
        subst ho
        have hg := hr.im _ _ him
        have hvrs : VRs X E cs ((c.toList.drop base).take cs.length) := by
          refine ⟨by simp; omega, fun i a u ha hu => ?_⟩
          rw [List.getElem?_take] at hu
          split at hu
          · rw [List.getElem?_drop] at hu; exact hvr i a u ha hu
          · cases hu
        obtain ⟨u, hu, hvu⟩ := loadIn_sound G hv hg hvrs
        refine ⟨u, ?_, hvu⟩
        simp only [Instr.loadAt, Instr.sureAddr, Sem.run_bind, Sem.run_pure, Result.andThen_ok]
        exact hu
    · cases h
  · cases h

theorem afieldAddr_sound (G : Good P X) {s : TypeId} {x r : AV S} {f : Nat} (h : afieldAddr X s x f = some r) {v : Value} (hx : VR X E x v) :
    ∃ u, (Instr.fieldAt s v f).run P w = .ok u w ∧ VR X E r u := by
  unfold afieldAddr at h
  split at h
  · rename_i fs hd
    split at h
    · rename_i off ft hn
      rw [nth_eq] at hn
      obtain ⟨gs, hu, hgs⟩ := G.lay.struct hd
      have hg : ∃ g, gs[f]? = some g ∧ g.offset = off ∧ g.type = ft := by
        rw [← hgs] at hn
        simp only [List.getElem?_map, Option.map_eq_some_iff] at hn
        obtain ⟨g, hg, he⟩ := hn
        simp only [Prod.mk.injEq] at he
        exact ⟨g, by simpa using hg, he.1, he.2⟩
      obtain ⟨g, hg, rfl, rfl⟩ := hg
      split at h
      · cases h
      · rename_i hz
        have hz : 0 < X.L.size g.type := by
          rcases Nat.eq_zero_or_pos (X.L.size g.type) with h0 | h0
          · rw [h0] at hz; cases hz
          · exact h0
        obtain ⟨i, z, hi, hs, _⟩ := G.lay.info _ hz
        have hi0 : ¬ i.size = 0 := by omega
        have hfp : ∀ (b o : Nat), (fieldPlace ⟨b, o, none⟩ g).run P w = .ok ⟨b, o + g.offset, none⟩ w := by
          intro b o
          simp only [fieldPlace, Sem.run_bind, run_sizeOf hi, Result.andThen_ok, if_neg hi0, Sem.run_pure, addr_add]
        split at h
        · injection h with h; subst h
          cases hx with
          | ptr _ _ _ b sh wd tot o hio ho =>
            refine ⟨.pointer (some ⟨b, o + g.offset, none⟩), ?_, .ptr _ _ _ b sh wd tot _ hio (by omega)⟩
            simp [Instr.fieldAt, run_underlying hu, hg, Instr.sureAddr, hfp]
        · injection h with h; subst h
          cases hx with
          | ip _ _ b base o c el fz h1 h2 h3 h4 =>
            refine ⟨.pointer (some ⟨b, o + g.offset, none⟩), ?_, .ip _ _ b base _ c el fz h1 (by omega) h3 h4⟩
            simp [Instr.fieldAt, run_underlying hu, hg, Instr.sureAddr, hfp]
        · cases h
    · cases h
  · cases h

theorem part_sound (G : Good P X) {t : TypeId} {cs : List (AV S)} {sub : Nat} {v : AV S} (h : loadIn X t cs sub = some v) {ds : Array Value} (hv : VRs X E cs ds.toList) :
    ∃ u, (part t ds sub).run P w = .ok u w ∧ VR X E v u := by
  unfold loadIn at h
  split at h
  · rename_i ha
    split at h
    · rename_i hb
      simp only [Bool.and_eq_true, Nat.blt_eq] at hb
      have hb1 := Nat.le_of_ble_eq_true hb.1
      injection h with h; subst h
      obtain ⟨i, z, hi, hs, _⟩ := G.lay.info t hb.2
      refine ⟨.agg (ds.extract sub (sub + i.size)), ?_, vr_agg_mk ?_⟩
      · simp [part, G.lay.agg ha, run_sizeOf hi]
      · have := (hv.drop sub).take (X.L.size t)
        have e : (ds.extract sub (sub + i.size)).toList = (ds.toList.drop sub).take (X.L.size t) := by
          rw [hs]; simp [Array.toList_extract, List.extract, Nat.add_sub_cancel_left]
        rw [e]; exact this
    · cases h
  · rename_i ha
    split at h
    · cases h
    · rename_i ho
      split at h
      · rename_i v' r hd
        injection h with h; subst h
        have hget : cs[sub]? = some v' := by
          have := congrArg (fun l => l[0]?) hd
          simpa [List.getElem?_drop] using this
        obtain ⟨u, hu, hvu⟩ := hv.get hget
        refine ⟨u, ?_, hvu⟩
        have hu' : ds[sub]? = some u := by simpa using hu
        simp [part, G.lay.notAgg ho ha, hu']
      · cases h

theorem afield_sound (G : Good P X) {t : TypeId} {x r : AV S} {f : Nat} (h : afield X t x f = some r) {v : Value} (hx : VR X E x v) :
    ∃ u, (Instr.field t v f).run P w = .ok u w ∧ VR X E r u := by
  unfold afield at h
  split at h
  · rename_i fs hd
    split at h
    · rename_i off ft hn
      rw [nth_eq] at hn
      obtain ⟨gs, hu, hgs⟩ := G.lay.struct hd
      have hg : ∃ g, gs[f]? = some g ∧ g.offset = off ∧ g.type = ft := by
        rw [← hgs] at hn
        simp only [List.getElem?_map, Option.map_eq_some_iff] at hn
        obtain ⟨g, hg, he⟩ := hn
        simp only [Prod.mk.injEq] at he
        exact ⟨g, by simpa using hg, he.1, he.2⟩
      obtain ⟨g, hg, rfl, rfl⟩ := hg
      split at h
      · obtain ⟨ds, rfl, hds⟩ := vr_agg hx
        obtain ⟨u, h1, h2⟩ := part_sound (w := w) G h hds
        exact ⟨u, by simp [Instr.field, run_underlying hu, hg, asAgg, h1], h2⟩
      · cases h
    · cases h
  · cases h

theorem aindex_sound (G : Good P X) {t : TypeId} {x i : AV S} {r : Res S} (h : aindex X t x i H = some r) (hob : ∀ p, r.ob = some p → p) {v j : Value} (hx : VR X E x v) (hi : VR X E i j) :
    r.H = H ∧ ∃ u, (Instr.index t v j).run P w = .ok u w ∧ VR X E r.v u := by
  unfold aindex at h
  split at h
  · rename_i k n
    cases hi with
    | int =>
    split at h
    · rename_i hd
      split at h
      · rename_i s
        injection h with h; subst h
        cases hx with
        | str =>
        obtain ⟨h0, h1⟩ := hob _ rfl
        refine ⟨rfl, _, ?_, .int _ _⟩
        have hlt : n.toNat < s.size := by omega
        have hlt' : n.toNat < s.data.toList.length := by simpa using hlt
        have hget : s[n.toNat]? = some s[n.toNat] := by
          rw [getElem?_pos]
        have hD : s.data.toList.getD n.toNat 0 = s[n.toNat] := by
          rw [List.getD_eq_getElem?_getD, List.getElem?_eq_getElem hlt']
          rfl
        rw [hD]
        simp only [Instr.index, asIntOf, Sem.run_bind, Sem.run_pure, Result.andThen_ok, run_underlying (G.lay.str hd), if_pos h0, hget]
      · cases h
    · rename_i n' e hd
      split at h
      · rename_i cs
        split at h
        · rename_i v' hl
          split at h
          · rename_i hsz
            injection h with h; subst h
            obtain ⟨h0, h1⟩ := hob _ rfl
            obtain ⟨ds, rfl, hds⟩ := vr_agg hx
            obtain ⟨u, hu, hvu⟩ := part_sound (w := w) G hl hds
            refine ⟨rfl, u, ?_, hvu⟩
            rw [Nat.blt_eq] at hsz
            obtain ⟨i, z, hi, hs, _⟩ := G.lay.info e hsz
            simp only [Instr.index, asIntOf, Sem.run_bind, Sem.run_pure, Result.andThen_ok, run_underlying (G.lay.array hd), if_pos (And.intro h0 h1), run_sizeOf hi, hs, hu]
          · cases h
        · cases h
      · cases h
    · cases h
  · cases h

theorem aindexAddr_sound (G : Good P X) {t : TypeId} {x i : AV S} {r : Res S} (h : aindexAddr X t H x i = some r) (hob : ∀ p, r.ob = some p → p) (hr : HR X E H w) {v j : Value} (hx : VR X E x v) (hi : VR X E i j) :
    r.H = H ∧ ∃ u, (Instr.indexAt t v j).run P w = .ok u w ∧ VR X E r.v u := by
  unfold aindexAddr at h
  split at h
  · rename_i k n
    cases hi with
    | int =>
    split at h
    · rename_i e hd
      split at h
      · cases h
      · rename_i hsz
        rw [Nat.blt_eq] at hsz
        obtain ⟨i, z, hi, hs, _⟩ := G.lay.info e hsz
        split at h
        · rename_i l off len cl
          split at h
          · rename_i e' xs hl
            split at h
            · rename_i he
              have he := Nat.eq_of_beq_eq_true he; subst he
              injection h with h; subst h
              obtain ⟨h0, h1⟩ := hob _ rfl
              refine ⟨rfl, ?_⟩
              obtain ⟨p, hp, hb⟩ := hr.blk l (getB_lt (by rw [hl]; exact fun h => by cases h))
              rw [hl] at hb
              cases hx with
              | slc _ _ _ _ b sh wd tot o cap hio ho h2 h3 h4 h5 =>
                rw [hio] at hp; injection hp with hp; subst hp
                obtain ⟨c, el, hg, hwd, hw0, hlen, htot, hcs, hrow⟩ := hb
                refine ⟨.pointer (some ⟨b, o + n.toNat * X.L.size e, none⟩), ?_, .ptr _ _ _ b sh wd tot _ hio (by rw [ho, hwd, Nat.add_mul]; omega)⟩
                simp only [Instr.indexAt, asIntOf, Sem.run_bind, Sem.run_pure, Result.andThen_ok, run_underlying (G.lay.slice hd)]
                rw [if_pos ⟨h0, h1⟩]
                simp only [Sem.run_bind, run_sizeOf hi, Result.andThen_ok, Sem.run_pure, hs, addr_add]
              | void0 => exfalso; omega
              | zero => exfalso; omega
            · cases h
          · rename_i e' xs rr ss vv hl
            split at h
            · rename_i he
              have he := Nat.eq_of_beq_eq_true he; subst he
              injection h with h; subst h
              obtain ⟨h0, h1⟩ := hob _ rfl
              refine ⟨rfl, ?_⟩
              obtain ⟨p, hp, hb⟩ := hr.blk l (getB_lt (by rw [hl]; exact fun h => by cases h))
              rw [hl] at hb
              cases hx with
              | slc _ _ _ _ b sh wd tot o cap hio ho h2 h3 h4 h5 =>
                rw [hio] at hp; injection hp with hp; subst hp
                obtain ⟨c, el, hg, hwd, hw0, hlen, htot, hcs, hrow⟩ := hb
                refine ⟨.pointer (some ⟨b, o + n.toNat * X.L.size e, none⟩), ?_, .ptr _ _ _ b sh wd tot _ hio (by rw [ho, hwd, Nat.add_mul]; omega)⟩
                simp only [Instr.indexAt, asIntOf, Sem.run_bind, Sem.run_pure, Result.andThen_ok, run_underlying (G.lay.slice hd)]
                rw [if_pos ⟨h0, h1⟩]
                simp only [Sem.run_bind, run_sizeOf hi, Result.andThen_ok, Sem.run_pure, hs, addr_add]
              | void0 => exfalso; omega
              | zero => exfalso; omega
            · cases h
          · cases h
        · rename_i e' xs
          split at h
          · rename_i he
            have he := Nat.eq_of_beq_eq_true he; subst he
            injection h with h; subst h
            obtain ⟨h0, h1⟩ := hob _ rfl
            refine ⟨rfl, ?_⟩
            cases hx with
            | imm0 => exfalso; have h9 : n < ((0 : Nat) : Int) := h1; clear h1; omega
            | imm1 => exfalso; have : n < ((0 : Nat) : Int) := h1; omega
            | imm _ _ b off len cap c el fz him hl h2 h3 h4 h5 =>
              subst hl
              have hlt : n.toNat < xs.length := by omega
              have hD : xs.getD n.toNat (X.zero e) = xs[n.toNat] := by simp [List.getD_eq_getElem?_getD, hlt]
              have hmul : (n.toNat + 1) * X.L.size e ≤ xs.length * X.L.size e := Nat.mul_le_mul_right _ (by omega)
              rw [Nat.add_mul] at hmul
              refine ⟨.pointer (some ⟨b, off + n.toNat * X.L.size e, none⟩), ?_, .ip _ _ b (off + n.toNat * X.L.size e) _ c el fz him (by omega) (by rw [G.enc_len]; omega) ?_⟩
              · simp only [Instr.indexAt, asIntOf, Sem.run_bind, Sem.run_pure, Result.andThen_ok, run_underlying (G.lay.slice hd)]
                rw [if_pos ⟨h0, h1⟩]
                simp only [Sem.run_bind, run_sizeOf hi, Result.andThen_ok, Sem.run_pure, hs, addr_add]
              · intro j a u ha hu
                rw [hD] at ha
                exact h5 n.toNat j _ a u (by simp [hlt]) ha hu
          · cases h
        · cases h
    · rename_i n' e hd
      split at h
      · cases h
      · rename_i hsz
        rw [Nat.blt_eq] at hsz
        obtain ⟨i, z, hi, hs, _⟩ := G.lay.info e hsz
        have hrun : ∀ (b o : Nat), 0 ≤ n ∧ n < (n' : Int) → (Instr.indexAt t (.pointer (some ⟨b, o, none⟩)) (.int k n)).run P w = .ok (.pointer (some ⟨b, o + n.toNat * X.L.size e, none⟩)) w := by
          intro b o hb
          simp only [Instr.indexAt, Instr.sureAddr, asIntOf, Sem.run_bind, Sem.run_pure, Result.andThen_ok, run_underlying (G.lay.array hd)]
          rw [if_pos hb]
          simp only [Sem.run_bind, run_sizeOf hi, Result.andThen_ok, Sem.run_pure, hs, addr_add]
        split at h
        · rename_i l row sub
          cases hx with
          | ptr _ _ _ b sh wd tot o hio ho =>
          split at h
          · rename_i e' xs hl
            split at h
            · rename_i he
              simp only [Bool.and_eq_true] at he
              have he1 := Nat.eq_of_beq_eq_true he.1.1; subst he1
              have he2 := Nat.eq_of_beq_eq_true he.1.2; subst he2
              have he3 := Nat.eq_of_beq_eq_true he.2; subst he3
              injection h with h; subst h
              have hb := hob _ rfl
              obtain ⟨p, hp, hbb⟩ := hr.blk l (getB_lt (by rw [hl]; exact fun h => by cases h))
              rw [hl] at hbb
              rw [hio] at hp; injection hp with hp; subst hp
              obtain ⟨c, el, hg, hwd, hw0, hlen, htot, hcs, hrow⟩ := hbb
              exact ⟨rfl, _, hrun b o hb, .ptr _ _ _ b sh wd tot _ hio (by rw [ho, hwd]; omega)⟩
            · cases h
          · injection h with h; subst h
            have hb := hob _ rfl
            exact ⟨rfl, _, hrun b o hb, .ptr _ _ _ b sh wd tot _ hio (by rw [ho]; omega)⟩
          · cases h
        · cases h
    · cases h
  · cases h

theorem asIntOf_endOf {d : Nat} {x : Option (AV S)} {y : Option Value} {i : Int} (h : endOf d x = some i) (hx : ∀ v, x = some v → ∃ u, y = some u ∧ VR X E v u) (hn : x = none → y = none) :
    (x = none ∧ y = none ∧ i = d) ∨ ∃ k, y = some (.int k i) := by
  unfold endOf at h
  split at h
  · injection h with h; exact .inl ⟨rfl, hn rfl, h.symm⟩
  · injection h with h; subst h
    obtain ⟨u, rfl, hu⟩ := hx _ rfl
    cases hu with
    | int => exact .inr ⟨_, rfl⟩
  · cases h

theorem run_sliceBound {i : Int} {k : IntKind} {y : Nat} {c : BoundsCode} (h : 0 ≤ i ∧ i ≤ y) : (Instr.sliceBound (.int k i) y c).run P w = .ok i.toNat w := by
  simp only [Instr.sliceBound, asIntOf, Sem.run_bind, Sem.run_pure, Result.andThen_ok, if_pos h]

/-- the bounds of a slice expression without a third index -/
theorem run_sliceBounds {s : Bool} {len cap : Nat} {l h : Int} {lo hi : Option Value} (hl : lo = none ∧ l = 0 ∨ ∃ k, lo = some (.int k l)) (hh : hi = none ∧ h = len ∨ ∃ k, hi = some (.int k h))
    (h0 : 0 ≤ l) (h1 : l ≤ h) (h2 : h ≤ cap) : (Instr.sliceBounds s len cap lo hi none).run P w = .ok (l.toNat, h.toNat, cap) w := by
  have b1 : ∀ k c, (Instr.sliceBound (.int k l) h.toNat c).run P w = .ok l.toNat w := fun k c => run_sliceBound ⟨h0, by omega⟩
  have b2 : ∀ k c, (Instr.sliceBound (.int k h) cap c).run P w = .ok h.toNat w := fun k c => run_sliceBound ⟨by omega, h2⟩
  rcases hl with ⟨rfl, rfl⟩ | ⟨k, rfl⟩
  · rcases hh with ⟨rfl, rfl⟩ | ⟨k', rfl⟩
    · simp [Instr.sliceBounds]
    · simp [Instr.sliceBounds, b2]
  · rcases hh with ⟨rfl, rfl⟩ | ⟨k', rfl⟩
    · simp only [Int.toNat_natCast] at b1
      simp [Instr.sliceBounds, b1]
    · simp [Instr.sliceBounds, b1, b2]
theorem run_sliceBounds3 {s : Bool} {len cap : Nat} {l h m : Int} {lo hi : Option Value} {km : IntKind} (hl : lo = none ∧ l = 0 ∨ ∃ k, lo = some (.int k l)) (hh : ∃ k, hi = some (.int k h))
    (h0 : 0 ≤ l) (h1 : l ≤ h) (h2 : h ≤ m) (h3 : m ≤ cap) : (Instr.sliceBounds s len cap lo hi (some (.int km m))).run P w = .ok (l.toNat, h.toNat, m.toNat) w := by
  have b1 : ∀ k c, (Instr.sliceBound (.int k l) h.toNat c).run P w = .ok l.toNat w := fun k c => run_sliceBound ⟨h0, by omega⟩
  have b2 : ∀ k c, (Instr.sliceBound (.int k h) m.toNat c).run P w = .ok h.toNat w := fun k c => run_sliceBound ⟨by omega, by omega⟩
  have b3 : ∀ k c, (Instr.sliceBound (.int k m) cap c).run P w = .ok m.toNat w := fun k c => run_sliceBound ⟨by omega, h3⟩
  obtain ⟨k', rfl⟩ := hh
  rcases hl with ⟨rfl, rfl⟩ | ⟨k, rfl⟩
  · simp [Instr.sliceBounds, b2, b3]
  · simp [Instr.sliceBounds, b1, b2, b3]

theorem endOf_some {d : Nat} {x : Option (AV S)} {ρ : Option Value} {i : Int} (h : endOf d x = some i) (hx : ∀ v, x = some v → ∃ u, ρ = some u ∧ VR X E v u) (hn : x = none → ρ = none) :
    ρ = none ∧ i = d ∨ ∃ k, ρ = some (.int k i) := by
  rcases asIntOf_endOf h hx hn with ⟨_, h1, h2⟩ | h1
  · exact .inl ⟨h1, h2⟩
  · exact .inr h1

/-- operands that may be there -/
def OptR (X : Ctx S) (E : Env) (x : Option (AV S)) (y : Option Value) : Prop := (∀ v, x = some v → ∃ u, y = some u ∧ VR X E v u) ∧ (x = none → y = none)

theorem OptR.map {x : Option Operand} (hf : FR X E fr a) : OptR X E (x.map (opd fr)) (x.map a.eval) := by
  cases x with
  | none => exact ⟨fun v h => by simp at h, fun _ => rfl⟩
  | some o => exact ⟨fun v h => by simp at h; subst h; exact ⟨_, rfl, vr_opd hf o⟩, fun h => by simp at h⟩

theorem run_sliceAt {t e : TypeId} {i : TypeInfo} {aa : Option Addr} {len cap l h m : Nat} {lo hi mx : Option Value} (hu : P.underlying t = some (.slice e)) (hi0 : P.info? e = some i)
    (hb : (Instr.sliceBounds true len cap lo hi mx).run P w = .ok (l, h, m) w) :
    (Instr.sliceAt t (.slice aa len cap) lo hi mx).run P w = .ok (.slice (if m = l then aa else aa.map (·.add (l * i.size))) (h - l) (m - l)) w := by
  simp [Instr.sliceAt, Instr.slice, run_underlying hu, hb, run_sizeOf hi0]

theorem aslice_sound (G : Good P X) {t : TypeId} {x : AV S} {lo hi mx : Option (AV S)} {r : Res S} (h : aslice X t x lo hi mx H = some r) (hob : ∀ p, r.ob = some p → p) (hr : HR X E H w)
    {v : Value} {lo' hi' mx' : Option Value} (hx : VR X E x v) (hlo : OptR X E lo lo') (hhi : OptR X E hi hi') (hmx : OptR X E mx mx') :
    r.H = H ∧ ∃ u, (Instr.sliceAt t v lo' hi' mx').run P w = .ok u w ∧ VR X E r.v u := by
  have hgiven : ∀ {h : Int}, isGiven hi = true → (hi' = none ∧ h = 0 ∨ ∃ k, hi' = some (.int k h)) → ∃ k, hi' = some (.int k h) := by
    intro h hg hh
    rcases hh with ⟨hn, _⟩ | hh
    · cases hi with
      | none => cases hg
      | some v => obtain ⟨u, hu, _⟩ := hhi.1 v rfl; rw [hn] at hu; cases hu
    · exact hh
  unfold aslice at h
  split at h
  · -- a string
    rename_i s
    split at h
    · rename_i hd
      split at h
      · rename_i l hh h1 h2
        injection h with h; subst h
        obtain ⟨o0, o1, o2⟩ := hob _ rfl
        have e := hmx.2 rfl; subst e
        cases hx with
        | str =>
        refine ⟨rfl, _, ?_, .str _⟩
        have hb := run_sliceBounds (P := P) (w := w) (s := false) (len := s.size) (cap := s.size) (endOf_some h1 hlo.1 hlo.2) (endOf_some h2 hhi.1 hhi.2) o0 o1 o2
        simp [Instr.sliceAt, Instr.slice, run_underlying (G.lay.str hd), hb]
      · cases h
    · cases h
  · -- a slice of the call's own
    rename_i b off len cl
    split at h
    · rename_i e hd
      split at h
      · rename_i hsz
        rw [Nat.blt_eq] at hsz
        obtain ⟨i, z, hi0, hs, _⟩ := G.lay.info e hsz
        have hu := G.lay.slice hd
        split at h
        · rename_i e' xs hl
          split at h
          · rename_i he
            have he := Nat.eq_of_beq_eq_true he; subst he
            obtain ⟨p, hp, hbb⟩ := hr.blk b (getB_lt (by rw [hl]; exact fun h => by cases h))
            rw [hl] at hbb
            split at h
            · rename_i l hh h1 h2
              have H1 := endOf_some h1 hlo.1 hlo.2
              have H2 := endOf_some h2 hhi.1 hhi.2
              split at h
              · injection h with h; subst h
                obtain ⟨o0, o1, o2⟩ := hob _ rfl
                have e := hmx.2 rfl; subst e
                refine ⟨rfl, ?_⟩
                cases hx with
                | slc _ _ _ _ bb sh wd tot o cap hio ho h3 h4 h5 h6 =>
                  rw [hio] at hp; injection hp with hp; subst hp
                  obtain ⟨c, el, hg, hwd, hw0, hlen, htot, hcs, hrow⟩ := hbb
                  have hb := run_sliceBounds (P := P) (w := w) (s := true) (len := len) (cap := cap) H1 H2 o0 o1 (by omega)
                  refine ⟨_, run_sliceAt hu hi0 hb, ?_⟩
                  by_cases hz : cap = l.toNat
                  · rw [if_pos hz, show hh.toNat - l.toNat = 0 by omega, show cap - l.toNat = 0 by omega]
                    exact .zero _ _ _ _ _ hio
                  · rw [if_neg hz]
                    simp only [Option.map_some, addr_add]
                    refine .slc _ _ _ _ bb sh wd tot _ _ hio (by rw [ho, hs, hwd, Nat.add_mul]; omega) (by omega) (by omega) (by omega) ?_
                    intro hc
                    cases hi with
                    | none =>
                      rcases H2 with ⟨_, e2⟩ | ⟨k, e2⟩
                      · have := h6 hc; omega
                      · rw [hhi.2 rfl] at e2; cases e2
                    | some v => cases hc
                | void0 _ _ _ hio =>
                  have hb := run_sliceBounds (P := P) (w := w) (s := true) (len := 0) (cap := 0) H1 H2 o0 o1 (by simpa using o2)
                  refine ⟨_, run_sliceAt hu hi0 hb, ?_⟩
                  have e1 : l.toNat = 0 := by omega
                  have e2 : hh.toNat = 0 := by omega
                  rw [e1, e2]
                  simp only [Nat.sub_self, Option.map_none, ite_self]
                  exact .void0 _ _ _ hio
                | zero _ _ _ aa p' hio =>
                  have hb := run_sliceBounds (P := P) (w := w) (s := true) (len := 0) (cap := 0) H1 H2 o0 o1 (by simpa using o2)
                  refine ⟨_, run_sliceAt hu hi0 hb, ?_⟩
                  have e1 : l.toNat = 0 := by omega
                  have e2 : hh.toNat = 0 := by omega
                  rw [e1, e2]
                  simp only [Nat.sub_self, if_true]
                  exact .zero _ _ _ _ _ hio
              · rename_i km m
                split at h
                · rename_i hgv
                  injection h with h; subst h
                  obtain ⟨o0, o1, o2, o3⟩ := hob _ rfl
                  obtain ⟨mu, rfl, hmu⟩ := hmx.1 _ rfl
                  cases hmu with
                  | int =>
                  have H2' : ∃ k, hi' = some (.int k hh) := by
                    rcases H2 with ⟨hn, _⟩ | h2
                    · cases hi with
                      | none => cases hgv
                      | some v => obtain ⟨u, hu, _⟩ := hhi.1 v rfl; rw [hn] at hu; cases hu
                    · exact h2
                  refine ⟨rfl, ?_⟩
                  cases hx with
                  | slc _ _ _ _ bb sh wd tot o cap hio ho h3 h4 h5 h6 =>
                    rw [hio] at hp; injection hp with hp; subst hp
                    obtain ⟨c, el, hg, hwd, hw0, hlen, htot, hcs, hrow⟩ := hbb
                    have hb := run_sliceBounds3 (P := P) (w := w) (s := true) (len := len) (cap := cap) (km := km) H1 H2' o0 o1 (by omega) (show m ≤ (cap : Int) by omega)
                    refine ⟨_, run_sliceAt hu hi0 hb, ?_⟩
                    by_cases hz : m.toNat = l.toNat
                    · rw [if_pos hz, show hh.toNat - l.toNat = 0 by omega, show m.toNat - l.toNat = 0 by omega]
                      exact .zero _ _ _ _ _ hio
                    · rw [if_neg hz]
                      simp only [Option.map_some, addr_add]
                      exact .slc _ _ _ _ bb sh wd tot _ _ hio (by rw [ho, hs, hwd, Nat.add_mul]; omega) (by omega) (by omega) (by omega) (fun _ => by omega)
                  | void0 _ _ _ hio =>
                    have hb := run_sliceBounds3 (P := P) (w := w) (s := true) (len := 0) (cap := 0) (km := km) H1 H2' o0 o1 (by omega) (show m ≤ ((0 : Nat) : Int) from o3)
                    refine ⟨_, run_sliceAt hu hi0 hb, ?_⟩
                    have e1 : l.toNat = 0 := by omega
                    have e2 : hh.toNat = 0 := by omega
                    have e3 : m.toNat = 0 := by omega
                    rw [e1, e2, e3]
                    simp only [Nat.sub_self, Option.map_none, ite_self]
                    exact .void0 _ _ _ hio
                  | zero _ _ _ aa p' hio =>
                    have hb := run_sliceBounds3 (P := P) (w := w) (s := true) (len := 0) (cap := 0) (km := km) H1 H2' o0 o1 (by omega) (show m ≤ ((0 : Nat) : Int) from o3)
                    refine ⟨_, run_sliceAt hu hi0 hb, ?_⟩
                    have e1 : l.toNat = 0 := by omega
                    have e2 : hh.toNat = 0 := by omega
                    have e3 : m.toNat = 0 := by omega
                    rw [e1, e2, e3]
                    simp only [Nat.sub_self, if_true]
                    exact .zero _ _ _ _ _ hio
                · cases h
              · cases h
            · cases h
          · cases h
        · cases h
      · cases h
    · cases h
  · -- an immutable slice
    rename_i e' xs
    split at h
    · rename_i e hd
      split at h
      · rename_i hsz
        simp only [Bool.and_eq_true, Nat.blt_eq] at hsz
        have he := Nat.eq_of_beq_eq_true hsz.2; subst he
        obtain ⟨i, z, hi0, hs, _⟩ := G.lay.info e hsz.1
        have hu := G.lay.slice hd
        split at h
        · rename_i l hh h1 h2
          have H1 := endOf_some h1 hlo.1 hlo.2
          have H2 := endOf_some h2 hhi.1 hhi.2
          split at h
          · injection h with h; subst h
            obtain ⟨o0, o1, o2⟩ := hob _ rfl
            have e := hmx.2 rfl; subst e
            refine ⟨rfl, ?_⟩
            cases hx with
            | imm _ _ b off len cap c el fz him hl h3 h4 h5 h6 =>
              subst hl
              have hb := run_sliceBounds (P := P) (w := w) (s := true) (len := xs.length) (cap := cap) H1 H2 o0 o1 (by omega)
              refine ⟨_, run_sliceAt hu hi0 hb, ?_⟩
              by_cases hz : cap = l.toNat
              · have e0 : (xs.take hh.toNat).drop l.toNat = [] := by
                  apply List.eq_nil_of_length_eq_zero; simp; omega
                rw [if_pos hz, e0, show hh.toNat - l.toNat = 0 by omega]
                exact .imm1 _ _ _
              · rw [if_neg hz]
                simp only [Option.map_some, addr_add]
                have hm1 : hh.toNat * X.L.size e ≤ xs.length * X.L.size e := Nat.mul_le_mul_right _ (by omega)
                have hm2 : (hh.toNat - l.toNat) * X.L.size e = hh.toNat * X.L.size e - l.toNat * X.L.size e := Nat.sub_mul _ _ _
                have hm3 : l.toNat * X.L.size e ≤ hh.toNat * X.L.size e := Nat.mul_le_mul_right _ (by omega)
                refine .imm _ _ b _ _ _ c el fz him (by simp; omega) (by omega) (by omega) (by rw [hs]; omega) ?_
                intro k j x aa uu hx ha hu'
                rw [List.getElem?_drop, List.getElem?_take] at hx
                split at hx
                · refine h6 (l.toNat + k) j x aa uu hx ha ?_
                  rw [← hu', hs, Nat.add_mul]; congr 1; omega
                · cases hx
            | imm0 =>
              have hb := run_sliceBounds (P := P) (w := w) (s := true) (len := 0) (cap := 0) H1 H2 o0 o1 (by simpa using o2)
              refine ⟨_, run_sliceAt hu hi0 hb, ?_⟩
              have o2' : hh ≤ ((0 : Nat) : Int) := o2
              have e1 : l.toNat = 0 := by omega
              have e2 : hh.toNat = 0 := by omega
              rw [e1, e2]
              simp only [Nat.sub_self, Option.map_none, ite_self, List.take_nil, List.drop_nil]
              exact .imm0 _
            | imm1 _ aa cap =>
              have o2' : hh ≤ ((0 : Nat) : Int) := o2
              have hb := run_sliceBounds (P := P) (w := w) (s := true) (len := 0) (cap := cap) H1 H2 o0 o1 (by omega)
              refine ⟨_, run_sliceAt hu hi0 hb, ?_⟩
              have e1 : l.toNat = 0 := by omega
              have e2 : hh.toNat = 0 := by omega
              rw [e1, e2]
              simp only [Nat.sub_self, List.take_nil, List.drop_nil, Option.map_some]
              split <;> exact .imm1 _ _ _
          · rename_i km m
            split at h
            · rename_i hgv
              injection h with h; subst h
              obtain ⟨o0, o1, o2⟩ := hob _ rfl
              subst o0; subst o1; subst o2
              obtain ⟨mu, rfl, hmu⟩ := hmx.1 _ rfl
              cases hmu with
              | int =>
              have H2' : ∃ k, hi' = some (.int k 0) := by
                rcases H2 with ⟨hn, _⟩ | h2
                · cases hi with
                  | none => cases hgv
                  | some v => obtain ⟨u, hu, _⟩ := hhi.1 v rfl; rw [hn] at hu; cases hu
                · exact h2
              refine ⟨rfl, ?_⟩
              have hv : ∃ aa len cap, v = .slice aa len cap := by cases hx <;> exact ⟨_, _, _, rfl⟩
              obtain ⟨aa, len, cap, rfl⟩ := hv
              have hb := run_sliceBounds3 (P := P) (w := w) (s := true) (len := len) (cap := cap) (km := km) H1 H2' (by omega) (by omega) (by omega) (show (0 : Int) ≤ (cap : Int) by omega)
              refine ⟨_, run_sliceAt hu hi0 hb, ?_⟩
              simp only [Int.toNat_zero, Nat.sub_self, if_true]
              cases aa with
              | none => exact .emp0
              | some aa => exact .emp1 _
            · cases h
          · cases h
        · cases h
      · cases h
    · cases h
  · cases h
end Ev
