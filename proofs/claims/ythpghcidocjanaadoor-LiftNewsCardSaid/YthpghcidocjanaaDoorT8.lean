/- Walks: Up in all cases, Root. -/
import Derived.Test.YthpghcidocjanaaDoorT7
namespace Go.Proofs.YthpghcidocjanaaDoor
open Go.RowKit

/-- What two results are handed back. -/
abbrev retIB (x : Int) (t : Bool) : Ending := .returned (.tuple #[.int .i64 x, .bool t])

set_option maxRecDepth 100000 in
set_option maxHeartbeats 1000000 in
theorem Up_no {w : World} {ao : Option Addr} {v : Int} (k : Int) (C : ∀ W, Same' w W → Calls Tryd.prog 26 #[.pointer ao, .int .i64 v] W fun e w' => e = .returned (.bool false) ∧ W = w') :
    Calls Tryd.prog 16 #[.pointer ao, .int .i64 v, .int .i64 k] w fun e w' => e = retIB 0 false ∧ Same' w w' := by
  have C := hide C
  go_enter Tryd.func16, Tryd.ntmps16
  go_wp2
  go_quiet ((go_at_call 26; exact Calls.quiet_of_same ((C.out _ ((((Fr.refl _ w).alloc _).alloc _).drewN _)).mono fun _ _ h => ⟨h.1, h.2.symm⟩)))
  go_wp2
  go_ret2
  exact ⟨rfl, (((Fr.refl _ w).alloc _).alloc _).drewN _⟩

section
variable {w : World} {b n gd : Nat} {g : Nat → Nat} {p : Nat → Int}

set_option maxRecDepth 100000 in
set_option maxHeartbeats 1000000 in
theorem Up_neg (hT : Tab w b n g gd (upAt p) (fun v => (dep n p v : Nat))) {v : Nat} (hv : v < n) {k : Int} (hk : k < 0) :
    Calls Tryd.prog 16 #[.pointer (some ⟨b, 0, none⟩), .int .i64 v, .int .i64 k] w fun e w' => e = retIB 0 false ∧ Same' w w' := by
  have C := hide (fun (W : World) (hf : Same' w W) => (hT.same hf).node_is (v : Int) (t := true) (by unfold inN; simp; omega))
  have h1 : decide (k < 0) = true := by simp; omega
  clear hT
  go_enter Tryd.func16, Tryd.ntmps16
  go_wp2
  go_quiet ((go_at_call 26; exact Calls.quiet_of_same ((C.out _ ((((Fr.refl _ w).alloc _).alloc _).drewN _)).mono fun _ _ h => ⟨h.1, h.2.symm⟩)))
  go_wp2
  go_ret2
  exact ⟨rfl, (((Fr.refl _ w).alloc _).alloc _).drewN _⟩

set_option maxRecDepth 100000 in
set_option maxHeartbeats 1000000 in
theorem Up_far (hT : Tab w b n g gd (upAt p) (fun v => (dep n p v : Nat))) {v : Nat} (hv : v < n) {k : Nat} (hk : dep n p v < k) :
    Calls Tryd.prog 16 #[.pointer (some ⟨b, 0, none⟩), .int .i64 v, .int .i64 k] w fun e w' => e = retIB 0 false ∧ Same' w w' := by
  have C := hide (fun (W : World) (hf : Same' w W) => (hT.same hf).node_is (v : Int) (t := true) (by unfold inN; simp; omega))
  have cd := hT.cd
  have cv : w.cell? ⟨gd, v, none⟩ = some (.int .i64 (dep n p v : Nat)) := hT.depth.cell v hv
  have h1 : decide ((k : Int) < 0) = false := by simp
  have h2 : decide (dep n p v < k) = true := by simp; omega
  have hbl := lt_of_block hT.hdr
  have hgl := hT.depth.lt
  clear hT
  go_enter Tryd.func16, Tryd.ntmps16
  go_wp2
  go_quiet ((go_at_call 26; exact Calls.quiet_of_same ((C.out _ ((((Fr.refl _ w).alloc _).alloc _).drewN _)).mono fun _ _ h => ⟨h.1, h.2.symm⟩)))
  go_wp2
  go_ret2
  exact ⟨rfl, (((Fr.refl _ w).alloc _).alloc _).drewN _⟩
end

/-- What Up hands back. -/
def upR (n : Nat) (p : Nat → Int) (v k : Int) : Option Int :=
  if 0 ≤ v ∧ v < n ∧ 0 ≤ k ∧ k ≤ dep n p v.toNat then some (anc p k.toNat v.toNat) else none

def ret2 (o : Option Int) : Ending := retIB (o.getD 0) o.isSome

theorem ret2_congr {e : Ending} {o o' : Option Int} (h : e = ret2 o) (ho : o = o') : e = ret2 o' := ho ▸ h

theorem Full.up {w : World} {b n : Nat} {p : Nat → Int} (h : Full w b n p) (ht : TzTab w) (v k : Int) :
    Calls Tryd.prog 16 #[.pointer (some ⟨b, 0, none⟩), .int .i64 v, .int .i64 k] w fun e w' => e = ret2 (upR n p v k) ∧ Same' w w' := by
  obtain ⟨hF, hn, g, gd, hT⟩ := h
  by_cases hv : 0 ≤ v ∧ v < n
  · obtain ⟨x, rfl⟩ : ∃ x : Nat, v = x := ⟨v.toNat, by omega⟩
    by_cases hk : 0 ≤ k
    · obtain ⟨j, rfl⟩ : ∃ j : Nat, k = j := ⟨k.toNat, by omega⟩
      by_cases hj : j ≤ dep n p x
      · have e : upR n p x j = some (anc p j x) := by
          unfold upR
          rw [if_pos (by simp; omega)]
          simp
        rw [e]
        exact callsIn_wide.1 (Up_in hT hF hn ht x j (by omega) hj)
      · have e : upR n p x j = none := by
          unfold upR
          rw [if_neg (by simp; omega)]
        rw [e]
        exact Up_far hT (by omega) (by omega)
    · have e : upR n p x k = none := by
        unfold upR
        rw [if_neg (by omega)]
      rw [e]
      exact Up_neg hT (by omega) (by omega)
  · have e : upR n p v k = none := by
      unfold upR
      rw [if_neg (by omega)]
    rw [e]
    exact Up_no k (fun W hf => (hT.same hf).node_is v (t := false) (by unfold inN; simp; omega))

/-- The root above a node. -/
def rootR (n : Nat) (p : Nat → Int) (v : Int) : Option Int := if 0 ≤ v ∧ v < n then some (anc p (dep n p v.toNat) v.toNat) else none

def depR (n : Nat) (p : Nat → Int) (v : Int) : Int := if 0 ≤ v ∧ v < n then (dep n p v.toNat : Nat) else 0

theorem Full.dpt {w : World} {b n : Nat} {p : Nat → Int} (h : Full w b n p) (v : Int) :
    Calls Tryd.prog 13 #[.pointer (some ⟨b, 0, none⟩), .int .i64 v] w fun e w' => e = .returned (.int .i64 (depR n p v)) ∧ w = w' := by
  obtain ⟨hF, hn, g, gd, hT⟩ := h
  by_cases hv : 0 ≤ v ∧ v < n
  · obtain ⟨x, rfl⟩ : ∃ x : Nat, v = x := ⟨v.toNat, by omega⟩
    have e : depR n p x = (dep n p x : Nat) := by unfold depR; rw [if_pos hv]; simp
    rw [e]
    exact Depth_at hT x (by omega)
  · have e : depR n p v = 0 := by unfold depR; rw [if_neg hv]
    rw [e]
    exact Depth_out v (hT.node_is v (t := false) (by unfold inN; simp; omega))

theorem rootR_eq (n : Nat) (p : Nat → Int) (v : Int) : upR n p v (depR n p v) = rootR n p v := by
  unfold upR rootR depR
  by_cases hv : 0 ≤ v ∧ v < n
  · rw [if_pos hv, if_pos (by simp; omega), if_pos hv]
    simp
  · rw [if_neg hv, if_neg (by omega), if_neg hv]

set_option maxHeartbeats 400000 in
theorem Full.root {w : World} {b n : Nat} {p : Nat → Int} (h : Full w b n p) (ht : TzTab w) (v : Int) :
    Calls Tryd.prog 15 #[.pointer (some ⟨b, 0, none⟩), .int .i64 v] w fun e w' => e = ret2 (rootR n p v) ∧ Same' w w' := by
  have C1 := hide (h.dpt v)
  have C2 := hide (h.up ht v (depR n p v))
  rw [rootR_eq] at C2
  clear h ht
  obtain ⟨d, hd⟩ : ∃ d, d = depR n p v := ⟨_, rfl⟩
  rw [← hd] at C1 C2
  clear hd
  unfold ret2 at C2 ⊢
  generalize (rootR n p v).getD 0 = x at C2 ⊢
  generalize (rootR n p v).isSome = t at C2 ⊢
  go_enter Tryd.func15, Tryd.ntmps15
  go_wp2_with (first | (go_at_call 13; refine C1.out.mono ?_; clear C1; rintro e w' ⟨rfl, rfl⟩) | (go_at_call 16; refine C2.out.mono ?_; clear C2; rintro e w' ⟨rfl, hf⟩))
  go_ret2
  exact ⟨rfl, hf⟩

end Go.Proofs.YthpghcidocjanaaDoor
