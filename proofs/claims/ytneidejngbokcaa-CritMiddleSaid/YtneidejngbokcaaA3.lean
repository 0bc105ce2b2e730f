/- Walks: the document's list, sum, weights. -/
import Derived.Test.YtneidejngbokcaaA2
namespace Go.Proofs.Ytneidejngbokcaa
open Go.RowKit

set_option maxHeartbeats 1000000 in
theorem list_at {w : World} {ao : Option Addr} {n : Nat} (c : Nat) {f : Nat → Nat} (h : FlAt w ao n f) : Calls Try.prog 54 #[.slice ao n c] w fun e w' => e = .returned (.bool (valB n f)) ∧ w = w' := by
  have HL := hide h
  clear h
  by_cases h1 : n < 1
  · have d1 : decide ((n : Int) < 1) = true := by simp; omega
    rw [valB_out (.inl h1)]
    go_enter Try.func54, Try.ntmps54
    go_wp2_with fail
    go_ret
    exact ⟨rfl, rfl⟩
  by_cases h2 : 16385 < n
  · have d1 : decide ((n : Int) < 1) = false := by simp; omega
    have d2 : decide ((16385 : Int) < n) = true := by simp; omega
    rw [valB_out (.inr h2)]
    go_enter Try.func54, Try.ntmps54
    go_wp2_with fail
    go_ret
    exact ⟨rfl, rfl⟩
  have d1 : decide ((n : Int) < 1) = false := by simp; omega
  have d2 : decide ((16385 : Int) < n) = false := by simp; omega
  go_enter Try.func54, Try.ntmps54
  go_wp2_with fail
  go_loopg [3] n (fun z i wr => ∃ k : Nat, k + z = n ∧ i = .int .i64 k ∧ w = wr ∧ ∀ j, j < k → numB (f j) = true)
  case atStart => exact ⟨0, by omega, rfl, rfl, fun j hj => by omega⟩
  case round =>
    obtain ⟨k, hk, rfl, rfl, hall⟩ := hrel
    have HA := hide hall
    clear hall
    by_cases hlt : k < n
    · have hd : decide (k < n) = true := by simpa using hlt
      obtain ⟨ad, rfl, hc⟩ := HL.out k hlt
      have hki : (k : Int) < n := by omega
      obtain ⟨x, hx⟩ : ∃ x, x = f k := ⟨_, rfl⟩
      rw [← hx] at hc
      have HX := hide hx
      clear hx
      go_wp2_with fail
      · rename_i h
        have hb : numB x = false := by
          unfold numB geB leB ordr
          rcases h with ⟨h1, h2⟩ | ⟨h1, h2⟩ <;> (simp at h1 h2; simp [h1, h2])
        rw [HX.out] at hb
        have HB := hide (valB_bad hlt hb)
        go_ret
        exact ⟨by rw [HB.out]; rfl, rfl⟩
      · rename_i h
        have hb : numB x = true := by
          unfold numB geB leB ordr
          obtain ⟨h1 | h1, h2 | h2⟩ := h <;> (simp at h1 h2; simp [h1, h2])
        rw [HX.out] at hb
        have HB := hide hb
        go_roundg (gk - 1)
        case measure => omega
        case rel => exact ⟨k + 1, by omega, by go_num, rfl, fun j hj => by by_cases e : j = k; (· subst e; exact HB.out); exact HA.out j (by omega)⟩
      · rename_i h
        have hb : numB x = false := by
          unfold numB geB leB ordr
          have h1 : ¬ FloatKind.f64.format.order x 14280914418391842816 = some Ordering.gt := fun e => h (.inl e)
          have h2 : ¬ FloatKind.f64.format.order x 14280914418391842816 = some Ordering.eq := fun e => h (.inr e)
          simp [h1, h2]
        rw [HX.out] at hb
        have HB := hide (valB_bad hlt hb)
        go_ret
        exact ⟨by rw [HB.out]; rfl, rfl⟩
    · have hd : decide (k < n) = false := by simpa using hlt
      have HB := hide (valB_ok (n := n) (f := f) (by omega) (by omega) (fun i hi => HA.out i (by omega)))
      go_wp2_with fail
      go_ret
      exact ⟨by rw [HB.out]; rfl, rfl⟩

end Go.Proofs.Ytneidejngbokcaa
