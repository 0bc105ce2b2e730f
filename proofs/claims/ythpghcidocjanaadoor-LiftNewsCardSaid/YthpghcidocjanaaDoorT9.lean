/- Walks: Common. -/
import Derived.Test.YthpghcidocjanaaDoorT8
import Derived.Test.YthpghcidocjanaaDoorP4
import Derived.Test.YthpghcidocjanaaDoorQ
namespace Go.Proofs.YthpghcidocjanaaDoor
open Go.RowKit

def cmnR (n : Nat) (p : Nat → Int) (a b : Int) : Option Int := if (0 ≤ a ∧ a < n) ∧ 0 ≤ b ∧ b < n then cmn n p a.toNat b.toNat else none

section
variable {w : World} {b0 n : Nat} {p : Nat → Int}

/-- The root's contract, two ways. -/
theorem Full.root_none {w : World} {b0 n : Nat} {p : Nat → Int} (h : Full w b0 n p) (ht : TzTab w) {v : Int} (hv : ¬ (0 ≤ v ∧ v < n)) :
    Calls Tryd.prog 15 #[.pointer (some ⟨b0, 0, none⟩), .int .i64 v] w fun e w' => e = retIB 0 false ∧ Same' w w' := by
  have := h.root ht v
  unfold rootR at this
  rw [if_neg hv] at this
  exact this

theorem Full.root_some {w : World} {b0 n : Nat} {p : Nat → Int} (h : Full w b0 n p) (ht : TzTab w) {v : Nat} (hv : v < n) :
    Calls Tryd.prog 15 #[.pointer (some ⟨b0, 0, none⟩), .int .i64 v] w fun e w' => e = retIB (anc p (dep n p v) v) true ∧ Same' w w' := by
  have := h.root ht v
  unfold rootR at this
  rw [if_pos (by omega)] at this
  exact this

set_option maxHeartbeats 400000 in
theorem Full.common_out (h : Full w b0 n p) (ht : TzTab w) {a b : Int} (hab : ¬ ((0 ≤ a ∧ a < n) ∧ 0 ≤ b ∧ b < n)) :
    Calls Tryd.prog 17 #[.pointer (some ⟨b0, 0, none⟩), .int .i64 a, .int .i64 b] w fun e w' => e = retIB 0 false ∧ Same' w w' := by
  by_cases ha : 0 ≤ a ∧ a < n
  · have hb : ¬ (0 ≤ b ∧ b < n) := fun hb => hab ⟨ha, hb⟩
    have C2 := hide (fun W (hf : Same' w W) => (h.keep hf).root_none (ht.keep hf id) hb)
    have C1 := h.root_some ht (v := a.toNat) (by omega)
    rw [show ((a.toNat : Nat) : Int) = a by omega] at C1
    generalize anc p (dep n p a.toNat) a.toNat = r at C1
    have C1 := hide C1
    clear h ht ha hb hab
    go_enter Tryd.func17, Tryd.ntmps17
    go_wp2_with (first | (go_at_call 15; refine C1.out.mono ?_; clear C1; rintro e w' ⟨rfl, hf⟩) | (go_at_call 15; refine (C2.out _ hf).mono ?_; clear C2; rintro e w'' ⟨rfl, hf2⟩))
    go_ret2
    exact ⟨rfl, hf.trans hf2⟩
  · have C1 := h.root_none ht ha
    have C2 := hide (fun W (hf : Same' w W) => (h.keep hf).root (ht.keep hf id) b)
    unfold ret2 at C2
    generalize (rootR n p b).getD 0 = x at C2
    generalize (rootR n p b).isSome = t at C2
    have C1 := hide C1
    clear h ht ha hab
    go_enter Tryd.func17, Tryd.ntmps17
    go_wp2_with (first | (go_at_call 15; refine C1.out.mono ?_; clear C1; rintro e w' ⟨rfl, hf⟩) | (go_at_call 15; refine (C2.out _ hf).mono ?_; clear C2; rintro e w'' ⟨rfl, hf2⟩))
    go_ret2
    exact ⟨rfl, hf.trans hf2⟩

set_option maxHeartbeats 400000 in
theorem Full.common_apart (h : Full w b0 n p) (ht : TzTab w) {a b : Nat} (ha : a < n) (hb : b < n) (hne : anc p (dep n p a) a ≠ anc p (dep n p b) b) :
    Calls Tryd.prog 17 #[.pointer (some ⟨b0, 0, none⟩), .int .i64 a, .int .i64 b] w fun e w' => e = retIB 0 false ∧ Same' w w' := by
  have C1 := hide (h.root_some ht ha)
  have C2 := hide (fun W (hf : Same' w W) => (h.keep hf).root_some (ht.keep hf id) hb)
  have hr : ((anc p (dep n p a) a) != (anc p (dep n p b) b)) = true := by simpa using hne
  generalize anc p (dep n p a) a = r at C1 hr
  generalize anc p (dep n p b) b = s at C2 hr
  clear h ht ha hb hne
  go_enter Tryd.func17, Tryd.ntmps17
  go_wp2_with (first | (go_at_call 15; refine C1.out.mono ?_; clear C1; rintro e w' ⟨rfl, hf⟩) | (go_at_call 15; refine (C2.out _ hf).mono ?_; clear C2; rintro e w'' ⟨rfl, hf2⟩))
  go_ret2
  exact ⟨rfl, hf.trans hf2⟩

end

end Go.Proofs.YthpghcidocjanaaDoor
