/- Walks: Len, node, Depth. -/
import Derived.Test.YthpghcidocjanaaDoorT2
namespace Go.Proofs.YthpghcidocjanaaDoor
open Go.RowKit

abbrev Same' (w w' : World) : Prop := Fr (fun _ => False) w w'

set_option maxHeartbeats 400000 in
theorem Len_nil (w : World) : Calls Tryd.prog 24 #[.pointer none] w fun e w' => e = .returned (.int .i64 0) ∧ w = w' := by
  go_enter Tryd.func24, Tryd.ntmps24
  go_wp2
  go_ret
  exact ⟨rfl, rfl⟩

set_option maxHeartbeats 400000 in
theorem Len_at {w : World} {b n c : Nat} {ao : Option Addr} (h : w.cell? ⟨b, 15, none⟩ = some (.slice ao n c)) : Calls Tryd.prog 24 #[.pointer (some ⟨b, 0, none⟩)] w fun e w' => e = .returned (.int .i64 (n : Nat)) ∧ w = w' := by
  go_enter Tryd.func24, Tryd.ntmps24
  go_wp2
  go_ret
  exact ⟨rfl, rfl⟩

def inN (n : Nat) (v : Int) : Bool := decide (0 ≤ v ∧ v < n)

theorem ret_bool' {a b : Bool} (h : a = b) : Ending.returned (.bool a) = .returned (.bool b) := by rw [h]

set_option maxHeartbeats 400000 in
theorem node_of {w : World} {t : Value} {n : Nat} (v : Int) (hc : Calls Tryd.prog 24 #[t] w fun e w' => e = .returned (.int .i64 (n : Nat)) ∧ w = w') :
    Calls Tryd.prog 26 #[t, .int .i64 v] w fun e w' => e = .returned (.bool (inN n v)) ∧ w = w' := by
  have C := hide hc
  clear hc
  by_cases h0 : 0 ≤ v
  · by_cases h1 : v < n
    · have e : inN n v = true := by unfold inN; simp; omega
      rw [e]
      go_enter Tryd.func26, Tryd.ntmps26
      go_wp2_with (go_at_call 24; refine C.out.mono ?_; clear C; rintro e w' ⟨rfl, rfl⟩)
      go_ret
      exact ⟨rfl, rfl⟩
    · have e : inN n v = false := by unfold inN; simp; omega
      rw [e]
      go_enter Tryd.func26, Tryd.ntmps26
      go_wp2_with (go_at_call 24; refine C.out.mono ?_; clear C; rintro e w' ⟨rfl, rfl⟩)
      go_ret
      exact ⟨ret_bool' (by simp; omega), rfl⟩
  · have e : inN n v = false := by unfold inN; simp; omega
    rw [e]
    go_enter Tryd.func26, Tryd.ntmps26
    go_wp2
    go_ret
    exact ⟨ret_bool' (by simp), rfl⟩

set_option maxHeartbeats 400000 in
theorem Depth_out {w : World} {t : Value} (v : Int) (hc : Calls Tryd.prog 26 #[t, .int .i64 v] w fun e w' => e = .returned (.bool false) ∧ w = w') :
    Calls Tryd.prog 13 #[t, .int .i64 v] w fun e w' => e = .returned (.int .i64 0) ∧ w = w' := by
  have C := hide hc
  clear hc
  go_enter Tryd.func13, Tryd.ntmps13
  go_wp2_with (go_at_call 26; refine C.out.mono ?_; clear C; rintro e w' ⟨rfl, rfl⟩)
  go_ret
  exact ⟨rfl, rfl⟩

section
variable {w : World} {b n gd : Nat} {g : Nat → Nat} {p : Nat → Int} {U : Nat → Nat → Int} {D : Nat → Int}

theorem Tab.len (hT : Tab w b n g gd U D) : Calls Tryd.prog 24 #[.pointer (some ⟨b, 0, none⟩)] w fun e w' => e = .returned (.int .i64 (n : Nat)) ∧ w = w' := Len_at hT.cd

theorem Tab.node (hT : Tab w b n g gd U D) (v : Int) : Calls Tryd.prog 26 #[.pointer (some ⟨b, 0, none⟩), .int .i64 v] w fun e w' => e = .returned (.bool (inN n v)) ∧ w = w' := node_of v hT.len

theorem Tab.node_is (hT : Tab w b n g gd U D) (v : Int) {t : Bool} (ht : inN n v = t) : Calls Tryd.prog 26 #[.pointer (some ⟨b, 0, none⟩), .int .i64 v] w fun e w' => e = .returned (.bool t) ∧ w = w' := ht ▸ hT.node v

set_option maxHeartbeats 400000 in
theorem Depth_at (hT : Tab w b n g gd U D) (v : Nat) (hv : v < n) :
    Calls Tryd.prog 13 #[.pointer (some ⟨b, 0, none⟩), .int .i64 v] w fun e w' => e = .returned (.int .i64 (D v)) ∧ w = w' := by
  have C := hide (hT.node_is (v : Int) (t := true) (by unfold inN; simp; omega))
  have cd := hT.cd
  have cv : w.cell? ⟨gd, v, none⟩ = some (.int .i64 (D v)) := hT.depth.cell v hv
  clear hT
  go_enter Tryd.func13, Tryd.ntmps13
  go_wp2_with (go_at_call 26; refine C.out.mono ?_; clear C; rintro e w' ⟨rfl, rfl⟩)
  go_ret
  exact ⟨rfl, rfl⟩
end

end Go.Proofs.YthpghcidocjanaaDoor
