/- Plain facts: trailing zeros by the table of math/bits; the jumps of decreasing length. No program in sight. -/
import Derived.Test.YthpghcidocjanaaDoorP2
namespace Go.Proofs.YthpghcidocjanaaDoor

def tzTab : List Nat := [0, 1, 56, 2, 57, 49, 28, 3, 61, 58, 42, 50, 38, 29, 17, 4, 62, 47, 59, 36, 45, 43, 51, 22, 53, 39, 33, 30, 24, 18, 12, 5, 63, 55, 48, 27, 60, 41, 37, 16, 46, 35, 44, 21, 52, 32, 23, 11, 54, 26, 40, 15, 34, 20, 31, 10, 25, 14, 19, 9, 13, 8, 7, 6]
def tzIx (r : Nat) : Nat := ((r &&& (18446744073709551616 - r)) * 285870213051353865 % 18446744073709551616) / 288230376151711744
def tz (r : Nat) : Nat := tzTab.getD (tzIx r) 0
def tzOk (r : Nat) : Bool := r == 0 || (decide (tzIx r < 64) && decide (tz r < 14) && ((r &&& (r - 1)) + 2 ^ tz r == r))
theorem tz_all : (List.range 8192).all tzOk = true := by decide +kernel

theorem tz_spec {r : Nat} (h0 : 0 < r) (h : r < 8192) : tzIx r < 64 ∧ tz r < 14 ∧ (r &&& (r - 1)) + 2 ^ tz r = r := by
  have := List.all_eq_true.1 tz_all r (by simpa using h)
  unfold tzOk at this
  simp only [Bool.or_eq_true, Bool.and_eq_true, beq_iff_eq, decide_eq_true_eq] at this
  rcases this with h' | ⟨⟨h1, h2⟩, h3⟩
  · omega
  · exact ⟨h1, h2, h3⟩

section
variable {n : Nat} {p : Nat → Int}

/-- What is 2^i steps above each node. -/
def upAt (p : Nat → Int) (i v : Nat) : Int := anc p (2 ^ i) v

theorem upAt_zero (v : Nat) : upAt p 0 v = p v := anc_one v

theorem upAt_succ (h : Par n p) {v : Nat} (hv : v < n) (i : Nat) : upAt p (i + 1) v = if upAt p i v < 0 then -1 else upAt p i (upAt p i v).toNat := by
  unfold upAt
  rw [Nat.pow_succ, Nat.mul_two]
  exact anc_add h hv _ _

/-- The walk of steps: after the bits from i on, c steps were gone. -/
structure Steps (n : Nat) (p : Nat → Int) (v i c u : Nat) : Prop where
  at_ : anc p c v = (u : Nat)
  lt : u < n
  le : c ≤ dep n p v
  left : dep n p v - c < 2 ^ i

theorem Steps.next (h : Forest n p) {v i c u : Nat} (hv : v < n) (hs : Steps n p v (i + 1) c u) :
    (upAt p i u < 0 ∧ Steps n p v i c u) ∨ ∃ u', upAt p i u = (u' : Nat) ∧ u' < n ∧ Steps n p v i (c + 2 ^ i) u' := by
  obtain ⟨h1, h2, h3, h4⟩ := hs
  obtain ⟨x, hx, _, hd⟩ := h.anc_dep hv h3
  have hxu : x = u := by omega
  subst hxu
  rw [Nat.pow_succ] at h4
  by_cases hle : 2 ^ i ≤ dep n p x
  · right
    obtain ⟨y, hy, hyn, _⟩ := h.anc_dep h2 hle
    refine ⟨y, hy, hyn, ?_, hyn, by omega, by omega⟩
    rw [anc_add h.par hv, if_neg (by omega), h1]
    simpa using hy
  · left
    have hneg : upAt p i x < 0 := by
      have := (h.anc_iff h2 (2 ^ i))
      unfold upAt
      omega
    exact ⟨hneg, h1, h2, h3, by omega⟩

theorem Steps.done (h : Forest n p) {v c u : Nat} (hv : v < n) (hs : Steps n p v 0 c u) : c = dep n p v := by
  have := hs.le
  have := hs.left
  simp at this
  omega

theorem Steps.start (h : Forest n p) {v i : Nat} (hv : v < n) (hn : n ≤ 2 ^ i) : Steps n p v i 0 v := by
  have := h.dep_lt hv
  exact ⟨rfl, hv, Nat.zero_le _, by omega⟩
end

end Go.Proofs.YthpghcidocjanaaDoor
