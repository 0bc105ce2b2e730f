/- Walks: New, where it refuses at once. -/
import Derived.Test.YthpghcidocjanaaDoorT14
namespace Go.Proofs.YthpghcidocjanaaDoor
open Go.RowKit

/-- A pointer and an error. -/
abbrev retPE (a : Option Addr) (e : Int) : Ending := .returned (.tuple #[.pointer a, .int .i64 e])

set_option maxHeartbeats 400000 in
theorem New_big (w : World) (ao : Option Addr) (n c : Nat) (hn : 8192 < n) (hm : n ≤ 9223372036854775807) :
    Calls Tryd.prog 19 #[.slice ao n c] w fun e w' => e = retPE none 2 ∧ w = w' := by
  go_enter Tryd.func19, Tryd.ntmps19
  go_wp2
  go_ret2
  exact ⟨rfl, rfl⟩

set_option maxHeartbeats 400000 in
set_option maxRecDepth 100000 in
theorem New_par {w : World} {ao : Option Addr} {n : Nat} (c : Nat) {p : Nat → Int} (hK : KeyAt w ao n p) (hn : n ≤ 8192) (hp : ¬ Par n p) :
    Calls Tryd.prog 19 #[.slice ao n c] w fun e w' => e = retPE none 3 ∧ w = w' := by
  have HK := hide hK
  have HP := hide hp
  have hd : decide (8192 < n) = false := by simp; omega
  clear hK hp
  go_enter Tryd.func19, Tryd.ntmps19
  go_wp2
  go_loopg [21] n (fun f i wr => ∃ k : Nat, i = .int .i64 k ∧ k + f = n ∧ (∀ v, v < k → -1 ≤ p v ∧ p v < n) ∧ w = wr)
  case atStart => exact ⟨0, rfl, by omega, fun v hv => by omega, rfl⟩
  case round =>
    obtain ⟨k, rfl, hk, hall, rfl⟩ := hrel
    by_cases hlt : k < n
    · obtain ⟨ad, rfl, hc⟩ := HK.out k hlt
      have HA := hide hall
      clear hall
      by_cases h1 : p k < -1
      · have d1 : decide (p k < -1) = true := by simp; omega
        go_wp2
        go_ret2
        exact ⟨rfl, rfl⟩
      · have d1 : decide (p k < -1) = false := by simp; omega
        by_cases h2 : p k < n
        · have d2 : decide ((n : Int) ≤ p k) = false := by simp; omega
          have HX := hide (And.intro h1 h2)
          clear h1 h2
          go_wp2
          go_roundg (gk - 1)
          case measure => omega
          case rel => exact ⟨k + 1, by go_num, by omega, fun v hv => by
            by_cases e : v = k
            · subst e; have := HX.out; omega
            · exact HA.out v (by omega), rfl⟩
        · have d2 : decide ((n : Int) ≤ p k) = true := by simp; omega
          clear h1 h2
          go_wp2
          go_ret2
          exact ⟨rfl, rfl⟩
    · exact absurd (fun v hv => hall v (by omega)) HP.out

end Go.Proofs.YthpghcidocjanaaDoor
