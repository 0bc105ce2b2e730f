/- Walks: Common in all cases, Above, Dist. -/
import Derived.Test.YthpghcidocjanaaDoorT10
namespace Go.Proofs.YthpghcidocjanaaDoor
open Go.RowKit

section
variable {w : World} {b0 n : Nat} {p : Nat → Int}

theorem Full.common (h : Full w b0 n p) (ht : TzTab w) (a b : Int) :
    Calls Tryd.prog 17 #[.pointer (some ⟨b0, 0, none⟩), .int .i64 a, .int .i64 b] w fun e w' => e = ret2 (cmnR n p a b) ∧ Same' w w' := by
  by_cases hab : (0 ≤ a ∧ a < n) ∧ 0 ≤ b ∧ b < n
  · obtain ⟨x, rfl⟩ : ∃ x : Nat, a = x := ⟨a.toNat, by omega⟩
    obtain ⟨y, rfl⟩ : ∃ y : Nat, b = y := ⟨b.toNat, by omega⟩
    have e : cmnR n p x y = cmn n p x y := by unfold cmnR; rw [if_pos hab]; simp
    rw [e]
    have hx : x < n := by omega
    have hy : y < n := by omega
    by_cases hr : anc p (dep n p x) x = anc p (dep n p y) y
    · by_cases hle : dep n p x ≤ dep n p y
      · exact h.common_same ht hx hy hle hr x y (.inr ⟨rfl, rfl⟩)
      · rw [cmn_comm h.1 hx hy]
        exact h.common_same ht hy hx (by omega) hr.symm x y (.inl ⟨rfl, rfl, by omega⟩)
    · rw [cmn_none_of_roots h.1 hx hy hr]
      exact h.common_apart ht hx hy hr
  · have e : cmnR n p a b = none := by unfold cmnR; rw [if_neg hab]
    rw [e]
    exact h.common_out ht hab

/-- Whether a is b or above it. -/
def abvR (n : Nat) (p : Nat → Int) (a b : Int) : Bool := decide (cmnR n p a b = some a)

set_option maxHeartbeats 400000 in
theorem Full.above (h : Full w b0 n p) (ht : TzTab w) (a b : Int) :
    Calls Tryd.prog 25 #[.pointer (some ⟨b0, 0, none⟩), .int .i64 a, .int .i64 b] w fun e w' => e = .returned (.bool (abvR n p a b)) ∧ Same' w w' := by
  have C := h.common ht a b
  unfold abvR
  cases ho : cmnR n p a b with
  | none =>
    rw [ho] at C
    have C : Calls Tryd.prog 17 #[.pointer (some ⟨b0, 0, none⟩), .int .i64 a, .int .i64 b] w fun e w' => e = retIB 0 false ∧ Same' w w' := C
    have C := hide C
    clear h ht ho
    go_enter Tryd.func25, Tryd.ntmps25
    go_wp2_with (go_at_call 17; refine C.out.mono ?_; clear C; rintro e w' ⟨rfl, hf⟩)
    go_ret
    exact ⟨rfl, hf⟩
  | some c =>
    rw [ho] at C
    have C : Calls Tryd.prog 17 #[.pointer (some ⟨b0, 0, none⟩), .int .i64 a, .int .i64 b] w fun e w' => e = retIB c true ∧ Same' w w' := C
    have C := hide C
    clear h ht ho
    go_enter Tryd.func25, Tryd.ntmps25
    go_wp2_with (go_at_call 17; refine C.out.mono ?_; clear C; rintro e w' ⟨rfl, hf⟩)
    go_ret
    exact ⟨ret_bool (by rw [Bool.eq_iff_iff]; simp), hf⟩

theorem cmn_lt (hF : Forest n p) {a b : Nat} (ha : a < n) {c : Int} (h : cmn n p a b = some c) : ∃ k : Nat, c = k ∧ k < n ∧ dep n p k ≤ dep n p a := by
  rcases cmn_cases (n := n) (p := p) a b with ⟨i, j, h', e⟩ | ⟨_, e⟩
  · rw [e] at h
    cases h
    obtain ⟨u, h1, h2, h3⟩ := hF.anc_dep ha h'.li
    exact ⟨u, h1, h2, by omega⟩
  · rw [e] at h; cases h

def dstR (n : Nat) (p : Nat → Int) (a b : Int) : Option Int := (cmnR n p a b).map fun c => depR n p a + depR n p b - 2 * depR n p c

set_option maxHeartbeats 1000000 in
set_option maxRecDepth 100000 in
theorem Full.dist (h : Full w b0 n p) (ht : TzTab w) (a b : Int) :
    Calls Tryd.prog 18 #[.pointer (some ⟨b0, 0, none⟩), .int .i64 a, .int .i64 b] w fun e w' => e = ret2 (dstR n p a b) ∧ Same' w w' := by
  have C := h.common ht a b
  unfold dstR
  cases ho : cmnR n p a b with
  | none =>
    rw [ho] at C
    have C : Calls Tryd.prog 17 #[.pointer (some ⟨b0, 0, none⟩), .int .i64 a, .int .i64 b] w fun e w' => e = retIB 0 false ∧ Same' w w' := C
    have C := hide C
    clear h ht ho
    go_enter Tryd.func18, Tryd.ntmps18
    go_wp2_with (go_at_call 17; refine C.out.mono ?_; clear C; rintro e w' ⟨rfl, hf⟩)
    go_ret2
    exact ⟨rfl, hf⟩
  | some c =>
    rw [ho] at C
    have hab : (0 ≤ a ∧ a < n) ∧ 0 ≤ b ∧ b < n := by
      by_cases hh : (0 ≤ a ∧ a < n) ∧ 0 ≤ b ∧ b < n
      · exact hh
      · unfold cmnR at ho; rw [if_neg hh] at ho; cases ho
    obtain ⟨x, rfl⟩ : ∃ x : Nat, a = x := ⟨a.toNat, by omega⟩
    obtain ⟨y, rfl⟩ : ∃ y : Nat, b = y := ⟨b.toNat, by omega⟩
    have hx : x < n := by omega
    have hy : y < n := by omega
    have hcn : cmn n p x y = some c := by unfold cmnR at ho; rw [if_pos hab] at ho; simpa using ho
    obtain ⟨k, rfl, hk, _⟩ := cmn_lt h.1 hx hcn
    have C : Calls Tryd.prog 17 #[.pointer (some ⟨b0, 0, none⟩), .int .i64 x, .int .i64 y] w fun e w' => e = retIB (k : Nat) true ∧ Same' w w' := C
    have C := hide C
    have dx := h.1.dep_lt hx
    have dy := h.1.dep_lt hy
    have dk := h.1.dep_lt hk
    have e1 : depR n p x = (dep n p x : Nat) := by unfold depR; rw [if_pos (by omega)]; simp
    have e2 : depR n p y = (dep n p y : Nat) := by unfold depR; rw [if_pos (by omega)]; simp
    have e3 : depR n p k = (dep n p k : Nat) := by unfold depR; rw [if_pos (by omega)]; simp
    have HE := hide (And.intro e1 (And.intro e2 e3))
    have hn := h.2.1
    obtain ⟨_, _, g, gd, hT⟩ := h
    have HT := hide hT
    clear hT ht ho hab hcn e1 e2 e3
    go_enter Tryd.func18, Tryd.ntmps18
    go_wp2_with (go_at_call 17; refine C.out.mono ?_; clear C; rintro e w1 ⟨rfl, hf⟩)
    have T := HT.out.same hf
    have cd := T.cd
    have ca : w1.cell? ⟨gd, x, none⟩ = some (.int .i64 (dep n p x : Nat)) := T.depth.cell x hx
    have cb : w1.cell? ⟨gd, y, none⟩ = some (.int .i64 (dep n p y : Nat)) := T.depth.cell y hy
    have ck : w1.cell? ⟨gd, k, none⟩ = some (.int .i64 (dep n p k : Nat)) := T.depth.cell k hk
    clear T
    generalize dep n p x = u at *
    generalize dep n p y = v at *
    generalize dep n p k = t at *
    have i1 : IntKind.i64.wrap ((u : Int) + (v : Int)) = (u : Int) + v := by rw [IntKind.wrap_i64]; omega
    have i2 : IntKind.i64.wrap (2 * (t : Int)) = 2 * (t : Int) := by rw [IntKind.wrap_i64]; omega
    have i3 : IntKind.i64.wrap ((u : Int) + (v : Int) - 2 * (t : Int)) = (u : Int) + v - 2 * t := by rw [IntKind.wrap_i64]; omega
    go_quiet (fail)
    go_wp2
    go_ret2
    refine ⟨?_, hf.drewN _⟩
    show retIB ((u : Int) + v - 2 * t) true = retIB (depR n p x + depR n p y - 2 * depR n p k) true
    rw [HE.out.1, HE.out.2.1, HE.out.2.2]
end

end Go.Proofs.YthpghcidocjanaaDoor
