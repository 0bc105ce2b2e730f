/- Walks of the document's sets: what only reads. -/
import Derived.Test.YtiaddgagncmbeaaF4
namespace Go.Proofs.Ytiaddgagncmbeaa
open Go.RowKit

set_option maxHeartbeats 400000 in
theorem rvalid_nil (w : World) : Calls Try.prog 40 #[.pointer none] w fun e w' => e = .returned (.bool false) ∧ w = w' := by
  go_enter Try.func40, Try.ntmps40
  go_wp2
  go_ret
  exact ⟨rfl, rfl⟩

set_option maxHeartbeats 400000 in
theorem rvalid_at (b : Nat) (w : World) (h0 : w.cell? ⟨b, 0, none⟩ = some (.bool true)) :
    Calls Try.prog 40 #[.pointer (some ⟨b, 0, none⟩)] w fun e w' => e = .returned (.bool true) ∧ w = w' := by
  go_enter Try.func40, Try.ntmps40
  go_wp2
  go_ret
  exact ⟨rfl, rfl⟩

set_option maxHeartbeats 400000 in
theorem rhas_nil (w : World) (a : Int) : Calls Try.prog 41 #[.pointer none, .int .i64 a] w fun e w' => e = .returned (.bool false) ∧ w = w' := by
  go_enter Try.func41, Try.ntmps41
  go_wp2_with (go_at_call 40; refine (rvalid_nil _).mono ?_; rintro e w' ⟨rfl, rfl⟩)
  go_ret
  exact ⟨rfl, rfl⟩

set_option maxHeartbeats 1000000 in
theorem rhas_cells (b n c : Nat) (ao : Option Addr) (w : World) (a : Int) (h0 : w.cell? ⟨b, 0, none⟩ = some (.bool true)) (h1 : w.cell? ⟨b, 1, none⟩ = some (.slice ao n c)) (hn : n ≤ 65536) :
    Calls Try.prog 41 #[.pointer (some ⟨b, 0, none⟩), .int .i64 a] w fun e w' => e = .returned (.bool (in1 n a)) ∧ w = w' := by
  have C := hide (rvalid_at b w h0)
  by_cases ha : 0 ≤ a
  · by_cases hb : a < n
    · have t : in1 n a = true := by unfold in1; simp; omega
      rw [t]
      go_enter Try.func41, Try.ntmps41
      go_wp2_with (go_at_call 40; refine C.out.mono ?_; clear C; rintro e w' ⟨rfl, rfl⟩)
      go_ret
      exact ⟨rfl, rfl⟩
    · have t : in1 n a = false := by unfold in1; simp; omega
      rw [t]
      go_enter Try.func41, Try.ntmps41
      go_wp2_with (go_at_call 40; refine C.out.mono ?_; clear C; rintro e w' ⟨rfl, rfl⟩)
      go_ret
      exact ⟨ret_bool (by simp; omega), rfl⟩
  · have t : in1 n a = false := by unfold in1; simp; omega
    rw [t]
    go_enter Try.func41, Try.ntmps41
    go_wp2_with (go_at_call 40; refine C.out.mono ?_; clear C; rintro e w' ⟨rfl, rfl⟩)
    go_ret
    exact ⟨rfl, rfl⟩

namespace RefB
variable {M : Nat → Prop} {w w' : World} {b n : Nat} {S : St} {v : Value} {ap : Option Addr} {cp : Nat} {vs : List Value}

theorem has (h : RefB M w b n S v ap cp vs) (hn : n ≤ 65536) (a : Int) :
    Calls Try.prog 41 #[.pointer (some ⟨b, 0, none⟩), .int .i64 a] w fun e w' => e = .returned (.bool (in1 n a)) ∧ w = w' := by
  obtain ⟨ao, c, e, _⟩ := h.lab
  exact rhas_cells b n c ao w a h.c0 (e ▸ h.c1) hn

theorem has_is (h : RefB M w b n S v ap cp vs) (hn : n ≤ 65536) (a : Int) {t : Bool} (ht : in1 n a = t) :
    Calls Try.prog 41 #[.pointer (some ⟨b, 0, none⟩), .int .i64 a] w fun e w' => e = .returned (.bool t) ∧ w' = w :=
  (h.has hn a).mono fun e w' h => ⟨ht ▸ h.1, h.2.symm⟩
end RefB

set_option maxHeartbeats 1000000 in
theorem RSame_nil (w : World) (a b : Int) : Calls Try.prog 33 #[.pointer none, .int .i64 a, .int .i64 b] w fun e w' => e = .returned (.bool false) ∧ Same' w w' := by
  go_enter Try.func33, Try.ntmps33
  go_wp2
  go_quiet ((go_at_call 41; exact Calls.quiet_of_same ((rhas_nil _ _).mono fun e w' h => ⟨h.1, h.2.symm⟩)))
  go_wp2
  go_ret
  exact ⟨rfl, (Fr.refl _ w).drewN _⟩

set_option maxHeartbeats 400000 in
set_option maxRecDepth 100000 in
theorem RSame_out {M : Nat → Prop} {w : World} {b n : Nat} {S : St} {v : Value} {ap : Option Addr} {cp : Nat} {vs : List Value} (h : RefB M w b n S v ap cp vs) (hn : n ≤ 65536) (x y : Int) (hxy : in2 n x y = false) :
    Calls Try.prog 33 #[.pointer (some ⟨b, 0, none⟩), .int .i64 x, .int .i64 y] w fun e w' => e = .returned (.bool false) ∧ Same' w w' := by
  have H := hide (fun k => h.same ((Fr.refl _ w).drewN k))
  clear h
  by_cases hx : in1 n x = true
  · have hy : in1 n y = false := by
      unfold in2 at hxy
      unfold in1 at hx ⊢
      rw [hx] at hxy
      simpa using hxy
    have HX := hide hx
    have HY := hide hy
    clear hx hy hxy
    go_enter Try.func33, Try.ntmps33
    go_wp2
    go_quiet (first | (go_at_call_of 41 (x : Int); exact Calls.quiet_of_same ((H.out _).has_is hn x HX.out)) | (go_at_call_of 41 (y : Int); exact Calls.quiet_of_same ((H.out _).has_is hn y HY.out)))
    go_wp2
    go_ret
    exact ⟨rfl, (Fr.refl _ w).drewN _⟩
  · have HX := hide (Bool.eq_false_iff.2 hx)
    clear hx hxy
    go_enter Try.func33, Try.ntmps33
    go_wp2
    go_quiet ((go_at_call_of 41 (x : Int); exact Calls.quiet_of_same ((H.out _).has_is hn x HX.out)))
    go_wp2
    go_ret
    exact ⟨rfl, (Fr.refl _ w).drewN _⟩

set_option maxHeartbeats 400000 in
theorem RSame_in {M : Nat → Prop} {w : World} {b n : Nat} {S : St} {v : Value} {ap : Option Addr} {cp : Nat} {vs : List Value} (h : RefB M w b n S v ap cp vs) (hn : n ≤ 65536) (x y : Nat) (hx : x < n) (hy : y < n) :
    Calls Try.prog 33 #[.pointer (some ⟨b, 0, none⟩), .int .i64 x, .int .i64 y] w fun e w' => e = .returned (.bool (decide (S.lab n x = S.lab n y))) ∧ Same' w w' := by
  have H := hide (fun k => h.same ((Fr.refl _ w).drewN k))
  have HX : Hid (in1 n x = true) := by show in1 n x = true; unfold in1; simp; omega
  have HY : Hid (in1 n y = true) := by show in1 n y = true; unfold in1; simp; omega
  obtain ⟨ao, c, rfl, hc⟩ := h.lab.cell
  obtain ⟨g, rfl, _, cx⟩ := hc x hx
  obtain ⟨_, e1, _, cy⟩ := hc y hy
  simp only [Option.some.injEq, Addr.mk.injEq, and_true] at e1
  subst e1
  have h1 := h.c1
  clear h hc
  go_enter Try.func33, Try.ntmps33
  go_wp2
  go_quiet (first | (go_at_call_of 41 (x : Int); exact Calls.quiet_of_same ((H.out _).has_is hn x HX.out)) | (go_at_call_of 41 (y : Int); exact Calls.quiet_of_same ((H.out _).has_is hn y HY.out)))
  go_wp2
  go_ret
  refine ⟨ret_bool ?_, (Fr.refl _ w).drewN _⟩
  by_cases e : S.lab n x = S.lab n y
  · simp [e]
  · simp [e]
    omega

end Go.Proofs.Ytiaddgagncmbeaa
