/- The concrete run: a call that was run by itself, on the memory that it sees, is taken over where it comes. -/
import Derived.Test.YtadmjjogmbhkaaaGreatDoorCe10
namespace Ev
open Go
variable {P : Program} {X : Ctx S0}

def eqVL : List V → List V → Bool
  | [], [] => true
  | a :: r, b :: s => match eqV a b with
    | true => eqVL r s
    | false => false
  | _, _ => false
def eqES : List (V × V) → List (V × V) → Bool
  | [], [] => true
  | a :: r, b :: s => match eqV a.1 b.1 && eqV a.2 b.2 with
    | true => eqES r s
    | false => false
  | _, _ => false
def eqCB : CB → CB → Bool
  | .dead, .dead => true
  | .arr wd cs, .arr wd' cs' => Nat.beq wd wd' && eqVL cs cs'
  | .mp k e es, .mp k' e' es' => Nat.beq k k' && (Nat.beq e e' && eqES es es')
  | _, _ => false
theorem eqVL_sound : ∀ {a b : List V}, eqVL a b = true → a = b
  | [], [], _ => rfl
  | [], _ :: _, h => by cases h
  | _ :: _, [], h => by cases h
  | a :: r, b :: s, h => by
    unfold eqVL at h
    split at h
    · rename_i h1; rw [eqV_sound h1, eqVL_sound h]
    · cases h
theorem eqES_sound : ∀ {a b : List (V × V)}, eqES a b = true → a = b
  | [], [], _ => rfl
  | [], _ :: _, h => by cases h
  | _ :: _, [], h => by cases h
  | (a1, a2) :: r, (b1, b2) :: s, h => by
    unfold eqES at h
    split at h
    · rename_i h1
      simp only [Bool.and_eq_true] at h1
      rw [eqV_sound h1.1, eqV_sound h1.2, eqES_sound h]
    · cases h
theorem eqCB_sound {a b : CB} (h : eqCB a b = true) : a = b := by
  unfold eqCB at h
  split at h
  · rfl
  · simp only [Bool.and_eq_true] at h
    rw [Nat.eq_of_beq_eq_true h.1, eqVL_sound h.2]
  · simp only [Bool.and_eq_true] at h
    rw [Nat.eq_of_beq_eq_true h.1, Nat.eq_of_beq_eq_true h.2.1, eqES_sound h.2.2]
  · cases h

/-- results side by side -/
def eqV2 (a b : V) : Bool := match a, b with
  | .tup xs, .tup ys => eqVL xs ys
  | a, b => eqV a b
theorem eqV2_sound {a b : V} (h : eqV2 a b = true) : a = b := by
  unfold eqV2 at h
  split at h
  · rw [eqVL_sound h]
  · exact eqV_sound h

/-- blocks, by their numbers -/
noncomputable def putAll {R : Type} : List (Nat × CB) → Tr CB → (Tr CB → R) → R
  | [], t, K => K t
  | p :: r, t, K => Tr.put .dead p.2 64 t p.1 fun t => putAll r t K
def insAll : List (Nat × CB) → Tr CB → Tr CB
  | [], t => t
  | p :: r, t => insAll r (Tr.ins .dead p.2 64 t p.1)
def lookL : List (Nat × CB) → Nat → Option CB
  | [], _ => none
  | p :: r, m => match lookL r m with
    | some c => some c
    | none => if m = p.1 then some p.2 else none
def small : List (Nat × CB) → Bool
  | [] => true
  | p :: r => Nat.blt p.1 4294967296 && small r
def inL (m : Nat) : List (Nat × CB) → Bool
  | [] => false
  | p :: r => Nat.beq p.1 m || inL m r
/-- they are there -/
noncomputable def subH : List (Nat × CB) → Tr CB → Bool
  | [], _ => true
  | p :: r, h => match eqCB p.2 (h.get .dead p.1) with
    | true => subH r h
    | false => false
/-- they are there, or given up -/
noncomputable def subD : List (Nat × CB) → Tr CB → Bool
  | [], _ => true
  | p :: r, h => match (match p.2 with | .dead => true | _ => eqCB p.2 (h.get .dead p.1)) with
    | true => subD r h
    | false => false
theorem lookL_cons (p : Nat × CB) (r : List (Nat × CB)) (m : Nat) : lookL (p :: r) m = match lookL r m with
    | some c => some c
    | none => if m = p.1 then some p.2 else none := rfl
theorem putAll_eq {R : Type} : ∀ (bs : List (Nat × CB)) (t : Tr CB) (K : Tr CB → R), putAll bs t K = K (insAll bs t)
  | [], _, _ => rfl
  | p :: r, t, K => by
    show Tr.put .dead p.2 64 t p.1 (fun t => putAll r t K) = _
    rw [Tr.put_eq, putAll_eq r]
    rfl
theorem hp_insAll : ∀ (bs : List (Nat × CB)) (t : Tr CB), small bs = true → ∀ m, hp (insAll bs t) m = (lookL bs m).getD (hp t m)
  | [], _, _, _ => rfl
  | p :: r, t, hs, m => by
    simp only [small, Bool.and_eq_true] at hs
    show hp (insAll r (Tr.ins .dead p.2 64 t p.1)) m = _
    rw [hp_insAll r _ hs.2 m, hp_ins t p.1 p.2 hs.1, lookL_cons]
    cases lookL r m with
    | some c => rfl
    | none => by_cases e : m = p.1 <;> simp [e]
theorem inL_look : ∀ {bs : List (Nat × CB)} {m : Nat}, inL m bs = true ↔ lookL bs m ≠ none
  | [], m => by simp [inL, lookL]
  | p :: r, m => by
    rw [lookL_cons]
    unfold inL
    rw [Bool.or_eq_true, inL_look (bs := r) (m := m)]
    cases lookL r m with
    | some c => simp
    | none =>
      by_cases e : m = p.1
      · subst e; simp
      · have : Nat.beq p.1 m = false := by cases h : Nat.beq p.1 m with | false => rfl | true => exact absurd (Nat.eq_of_beq_eq_true h).symm e
        simp [e, this]
theorem subH_look : ∀ {bs : List (Nat × CB)} {h : Tr CB}, subH bs h = true → ∀ {m : Nat} {c : CB}, lookL bs m = some c → c = hp h m
  | [], _, _, _, _, hl => by cases hl
  | p :: r, h, hs, m, c, hl => by
    unfold subH at hs
    split at hs
    · rename_i he
      unfold lookL at hl
      split at hl
      · rename_i c' hc; injection hl with hl; subst hl; exact subH_look hs hc
      · split at hl
        · rename_i e; injection hl with hl; subst hl; subst e; exact eqCB_sound he
        · cases hl
    · cases hs
theorem subD_look : ∀ {bs : List (Nat × CB)} {h : Tr CB}, subD bs h = true → ∀ {m : Nat} {c : CB}, lookL bs m = some c → c ≠ .dead → c = hp h m
  | [], _, _, _, _, hl, _ => by cases hl
  | p :: r, h, hs, m, c, hl, hn => by
    unfold subD at hs
    split at hs
    · rename_i he
      unfold lookL at hl
      split at hl
      · rename_i c' hc; injection hl with hl; subst hl; exact subD_look hs hc hn
      · split at hl
        · rename_i e; injection hl with hl; subst hl; subst e
          split at he
          · rename_i e; exact absurd e hn
          · exact eqCB_sound he
        · cases hl
    · cases hs

/-- what a call was found to do -/
structure Memo where
  f : FuncId
  as : List V
  hG : List (Nat × CB)
  n0 : Nat
  v : V
  hR : List (Nat × CB)
  n1 : Nat
noncomputable def memo1 (M : Memo) : FuncId → List V → Tr CB → Nat → Option Cr := fun f as h n => match Nat.beq f M.f with
  | true => match Nat.beq n M.n0 && (eqVL M.as as && subH M.hG h) with
    | true => some (putAll M.hR h fun h' => .ok M.v h' M.n1)
    | false => none
  | false => none
def coverL (hG hR : List (Nat × CB)) (n0 : Nat) : Bool := small hG && small hR && hG.all (fun p => inL p.1 hR) && hR.all (fun p => inL p.1 hG || Nat.ble n0 p.1)
noncomputable def memoRun (M : Memo) (c : Cr) : Bool := match c with
  | .ok v h n => eqV2 M.v v && (subD M.hR h && Nat.ble n M.n1)
  | .bad _ => false

theorem mem_look {bs : List (Nat × CB)} {p : Nat × CB} (h : p ∈ bs) : inL p.1 bs = true := by
  induction bs with
  | nil => cases h
  | cons q r ih =>
    unfold inL
    rcases List.mem_cons.1 h with rfl | h
    · simp
    · simp [ih h]
theorem look_mem : ∀ {bs : List (Nat × CB)} {m : Nat} {c : CB}, lookL bs m = some c → ∃ p ∈ bs, p.1 = m
  | [], _, _, h => by cases h
  | p :: r, m, c, h => by
    unfold lookL at h
    split at h
    · rename_i c' hc
      obtain ⟨q, h1, h2⟩ := look_mem hc
      exact ⟨q, List.mem_cons_of_mem _ h1, h2⟩
    · split at h
      · rename_i e; exact ⟨p, List.mem_cons_self, e.symm⟩
      · cases h

open Classical in
theorem memo_ok (G : Good P X) (C : GoodC P X) (hm : P.follows .mixedOrders = true) {xt : FuncId → List V → Option V} {orc : FuncId → List V → Tr CB → Nat → Option Cr} {fuel d : Nat} (horc : OrcOk P X orc)
    (hxt : ∀ f as v, xt f as = some v → ∀ (E : Env) (w : World) (us : Array Value), VRs X E as us.toList → ∃ u, (callFunc f us).run P w = .ok (.value u) w ∧ VR X E v u) (M : Memo)
    (hen : ∀ args w, (callFunc M.f args).run P w = .ok (.enter M.f args) w) (hcov : coverL M.hG M.hR M.n0 = true)
    (hrun : putAll M.hG .lf (fun hg => memoRun M (runF X P xt orc fuel d M.f M.as hg M.n0)) = true) : OrcOk P X (memo1 M) := by
  intro f as h n v h' n' hc E w us hv hr hfresh
  simp only [coverL, Bool.and_eq_true, List.all_eq_true, Bool.or_eq_true] at hcov
  obtain ⟨⟨⟨sG, sR⟩, cG⟩, cR⟩ := hcov
  replace hc : (match memo1 M f as h n with
    | some r => r
    | none => .bad (.s "")) = .ok v h' n' := hc
  split at hc
  · rename_i r hq
    subst hc
    unfold memo1 at hq
    split at hq
    · rename_i hf
      have hf := Nat.eq_of_beq_eq_true hf
      subst hf
      split at hq
      · rename_i hcond
        simp only [Bool.and_eq_true] at hcond
        obtain ⟨q1, q2, q3⟩ := hcond
        have q1 := Nat.eq_of_beq_eq_true q1
        have q2 := eqVL_sound q2
        subst q1
        rw [← q2] at hv
        injection hq with hq
        rw [putAll_eq] at hq
        injection hq with e1 e2 e3
        subst e1; subst e2; subst e3
        rw [putAll_eq] at hrun
        unfold memoRun at hrun
        split at hrun
        · rename_i vr hr' nr hrn
          simp only [Bool.and_eq_true] at hrun
          obtain ⟨t1, t2, t3⟩ := hrun
          have t1 := eqV2_sound t1
          have t3 := Nat.le_of_ble_eq_true t3
          have gpl : ∀ l, hp (insAll M.hG .lf) l = (lookL M.hG l).getD .dead := fun l => hp_insAll _ _ sG l
          have g1l : ∀ l, hp (insAll M.hR .lf) l = (lookL M.hR l).getD .dead := fun l => hp_insAll _ _ sR l
          have hpart : ∀ l, hp (insAll M.hG .lf) l ≠ .dead → hp (insAll M.hG .lf) l = hp h l := by
            intro l hl
            rw [gpl] at hl ⊢
            cases hk : lookL M.hG l with
            | none => rw [hk] at hl; exact absurd rfl hl
            | some c => exact subH_look q3 hk
          have hp1 : ∀ l, hp (insAll M.hR .lf) l ≠ .dead → hp (insAll M.hR .lf) l = hp hr' l := by
            intro l hl
            rw [g1l] at hl ⊢
            cases hk : lookL M.hR l with
            | none => rw [hk] at hl; exact absurd rfl hl
            | some c => rw [hk] at hl; exact subD_look t2 hk hl
          have hfG : Fresh M.n0 E (hp (insAll M.hG .lf)) := fun l hl => ⟨(hfresh l hl).1, by
            refine Classical.byContradiction fun hn => ?_
            have := hpart l hn
            rw [this] at hn
            exact hn (hfresh l hl).2⟩
          rcases runF_sound G C hm (fuel := fuel) horc hxt d M.f M.as _ M.n0 vr hr' nr hrn E w us hv (hr.part hpart) hfG with ⟨h1, h2⟩ | ⟨u, h1, _⟩
          · refine .inl ⟨h1, h2.mono ?_⟩
            rintro e w' ⟨u, E', he, hvu, hch, hfr, hcx, hle⟩
            have hcx1 : CX (· < M.n0) E (hp (insAll M.hG .lf)) w E' (hp (insAll M.hR .lf)) w' := by
              refine ⟨hcx.io, hcx.free, fun l hl hd => ?_, fun b ⟨l, sh, wd, tot, k1, k2⟩ => hcx.own b ⟨l, sh, wd, tot, ?_, k2⟩, hcx.size, hcx.frame, hcx.os, hcx.tape, hcx.output⟩
              · refine Classical.byContradiction fun hn => ?_
                have := hp1 l hn
                rw [this] at hn
                exact hn (hcx.dead l hl hd)
              · rw [← hp1 l k1]; exact k1
            obtain ⟨m1, m2⟩ := hr.merge hpart (hch.part hp1) hcx1
            have hfun : (fun l => if hp (insAll M.hG .lf) l = .dead ∧ hp h l ≠ .dead then hp h l else hp (insAll M.hR .lf) l) = hp (insAll M.hR h) := by
              funext l
              rw [hp_insAll M.hR h sR, g1l]
              cases hk : lookL M.hR l with
              | none =>
                by_cases hd : hp h l = .dead
                · rw [if_neg (fun q => q.2 hd)]; exact hd.symm
                · refine if_pos ⟨Classical.byContradiction fun hn => ?_, hd⟩
                  rw [gpl] at hn
                  cases hg : lookL M.hG l with
                  | none => rw [hg] at hn; exact hn rfl
                  | some c =>
                    obtain ⟨p, hp, rfl⟩ := look_mem hg
                    exact inL_look.1 (cG p hp) hk
              | some c =>
                refine if_neg fun q => ?_
                obtain ⟨p, hpm, hpe⟩ := look_mem hk
                rcases cR p hpm with hin | hge
                · rw [hpe] at hin
                  have hne := inL_look.1 hin
                  cases hg : lookL M.hG l with
                  | none => exact hne hg
                  | some c' =>
                    have := subH_look q3 hg
                    rw [gpl, hg] at q
                    exact q.2 (this ▸ q.1)
                · have hge := Nat.le_of_ble_eq_true hge
                  rw [hpe] at hge
                  exact q.2 (hfresh l hge).2
            rw [hfun] at m1 m2
            refine ⟨u, E', he, t1 ▸ hvu, m1, fun l hl => ⟨(hfr l (by omega)).1, ?_⟩, m2, by omega⟩
            have h0 := (hfr l (by omega)).2
            rw [← hfun]
            show (if _ then _ else _) = _
            split
            · exact (hfresh l (by omega)).2
            · refine Classical.byContradiction fun hn => ?_
              have := hp1 l hn
              rw [this] at hn
              exact hn h0
          · rw [hen] at h1; cases h1
        · cases hrun
      · cases hq
    · cases hq
  · cases hc
end Ev
