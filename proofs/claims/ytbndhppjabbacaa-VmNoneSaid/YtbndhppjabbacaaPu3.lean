/- Plain functions: sums of 192 bits, as the code reckons them; atoms. -/
import Derived.Test.YtbndhppjabbacaaPu2
namespace Ev
open Go
def ad64 (x y c : Int) : Int × Int := ((x + y + c) % 18446744073709551616, (x + y + c) / 18446744073709551616)
def sum2 (o x : SumR) : SumR :=
  ⟨(ad64 o.a x.a 0).1, (ad64 o.b x.b (ad64 o.a x.a 0).2).1, (ad64 o.c x.c (ad64 o.b x.b (ad64 o.a x.a 0).2).2).1⟩
def sumL (l : List SumR) : SumR := l.foldl sum2 ⟨0, 0, 0⟩
def In64 (n : Int) : Prop := 0 ≤ n ∧ n < 18446744073709551616
structure SumOk (s : SumR) : Prop where
  a : In64 s.a
  b : In64 s.b
  c : In64 s.c
theorem ad64_ok {x y c : Int} (hx : In64 x) (hy : In64 y) (hc : 0 ≤ c ∧ c ≤ 1) : In64 (ad64 x y c).1 ∧ 0 ≤ (ad64 x y c).2 ∧ (ad64 x y c).2 ≤ 1 := by
  unfold ad64 In64 at *
  dsimp only
  omega
theorem sum2_ok {o x : SumR} (ho : SumOk o) (hx : SumOk x) : SumOk (sum2 o x) := by
  have h1 := ad64_ok ho.a hx.a (c := 0) (by omega)
  have h2 := ad64_ok ho.b hx.b h1.2
  have h3 := ad64_ok ho.c hx.c h2.2
  exact ⟨h1.1, h2.1, h3.1⟩
theorem zero_ok : SumOk ⟨0, 0, 0⟩ := ⟨⟨by decide, by decide⟩, ⟨by decide, by decide⟩, ⟨by decide, by decide⟩⟩
theorem sumF_ok : ∀ (l : List SumR) (o : SumR), SumOk o → (∀ s, s ∈ l → SumOk s) → SumOk (l.foldl sum2 o)
  | [], o, ho, _ => ho
  | x :: r, o, ho, h => sumF_ok r _ (sum2_ok ho (h x (by simp))) fun s hs => h s (List.mem_cons_of_mem _ hs)
theorem sumL_ok {l : List SumR} (h : ∀ s, s ∈ l → SumOk s) : SumOk (sumL l) := sumF_ok l _ zero_ok h
theorem wr_u64_in (n : Int) : In64 (wr .u64 n) := by
  rw [wr_eq]
  unfold In64
  simp only [IntKind.wrap]
  split
  · rename_i hc; simp [IntKind.bits, IntKind.signed] at hc
  · simp [IntKind.bits]; omega
def xr (n : Int) : Int := wr .u64 (BitVec.ofInt IntKind.u64.bits (if IntKind.u64.signed then -1 else IntKind.u64.max) ^^^ BitVec.ofInt IntKind.u64.bits n).toNat
def negS (a : SumR) : SumR := sumL [⟨xr a.a, xr a.b, xr a.c⟩, ⟨1, 0, 0⟩]
theorem one_ok : SumOk ⟨1, 0, 0⟩ := ⟨⟨by decide, by decide⟩, ⟨by decide, by decide⟩, ⟨by decide, by decide⟩⟩
theorem xr_ok (a : SumR) : SumOk ⟨xr a.a, xr a.b, xr a.c⟩ := ⟨wr_u64_in _, wr_u64_in _, wr_u64_in _⟩
theorem negS_two (a : SumR) : ∀ s, s ∈ [(⟨xr a.a, xr a.b, xr a.c⟩ : SumR), ⟨1, 0, 0⟩] → SumOk s := by
  intro s hs
  simp only [List.mem_cons, List.not_mem_nil, or_false] at hs
  rcases hs with hs | hs
  · subst hs; exact xr_ok a
  · subst hs; exact one_ok
theorem negS_ok (a : SumR) : SumOk (negS a) := sumL_ok (negS_two a)
def belowS (a : SumR) : Bool := a.c.fdiv (2 ^ (min (63 : Int).toNat IntKind.u64.bits)) == 1
def lessS (a b : SumR) : Bool := belowS (sumL [a, negS b])
def sizeS (x : Int) : Int := if x < 0 then wr .u64 (0 - wr .u64 x) else wr .u64 x
def lo32 (a : Int) : Int := wr .u64 (BitVec.ofInt IntKind.u64.bits a &&& BitVec.ofInt IntKind.u64.bits 4294967295).toNat
def sh32 (a : Int) : Int := a.fdiv (2 ^ (min (32 : Int).toNat IntKind.u64.bits))
def mulT (x y : Int) : Int := wr .u64 (wr .u64 (sh32 x * lo32 y) + sh32 (wr .u64 (lo32 x * lo32 y)))
def mulHi (x y : Int) : Int := wr .u64 (wr .u64 (wr .u64 (sh32 x * sh32 y) + sh32 (mulT x y)) + sh32 (wr .u64 (lo32 (mulT x y) + wr .u64 (lo32 x * sh32 y))))
def mulLo (x y : Int) : Int := wr .u64 (x * y)
def rawS (x y : Int) : SumR := ⟨mulLo (sizeS x) (sizeS y), mulHi (sizeS x) (sizeS y), 0⟩
def prodS (x y : Int) : SumR := if (decide (x < 0) == decide (y < 0)) = false then negS (rawS x y) else rawS x y
theorem rawS_ok (x y : Int) : SumOk (rawS x y) := ⟨wr_u64_in _, wr_u64_in _, zero_ok.c⟩
theorem prodS_ok (x y : Int) : SumOk (prodS x y) := by
  unfold prodS
  split
  · exact negS_ok _
  · exact rawS_ok _ _
def termsS (names : List ByteArray) (row : List Int) (l : List TermR) : List SumR := l.map fun t => prodS t.Times (valueF names row t.Name)
def atomSum (nd : NodeR) (names : List ByteArray) (row : List Int) : SumR := sumL (termsS names row nd.Terms)
def atomS (nd : NodeR) (names : List ByteArray) (row : List Int) : Bool × Bool :=
  if lessS (prodS 9223372036854775807 4294967296) (atomSum nd names row) = true ∨ lessS (atomSum nd names row) (prodS (-9223372036854775808) 4294967296) = true then (false, true)
  else (!lessS (prodS nd.Num 4294967296) (atomSum nd names row), false)
theorem termsS_ok (names : List ByteArray) (row : List Int) (l : List TermR) : ∀ s, s ∈ termsS names row l → SumOk s := by
  intro s hs
  unfold termsS at hs
  rw [List.mem_map] at hs
  obtain ⟨t, _, rfl⟩ := hs
  exact prodS_ok _ _
end Ev
