/- Walks: steps, Len, node, Depth. -/
import Derived.Test.YthpghcidocjanaaDoorT1
import Derived.Test.YthpghcidocjanaaDoorRows
import Derived.BigRegion
import Derived.Deep.RegionWith
import Derived.Deep.LoopGhost
import Derived.Deep.OwnRows
import Derived.Deep.RegionLaw
namespace Go.Proofs.YthpghcidocjanaaDoor
open Go.RowKit

theorem wrap_nat {x : Nat} (h : x ≤ 4611686018427387904) : wrap64 (x : Int) = (x : Int) := by unfold wrap64; omega

theorem shl_val {c m : Nat} (hc : c < 8192) (hm : 2 ^ m ≤ 8192) : wrap64 ((c : Int) + wrap64 (2 ^ m)) = ((c + 2 ^ m : Nat) : Int) := by
  have e : ((2 : Int) ^ m) = ((2 ^ m : Nat) : Int) := by simp
  rw [e, wrap_nat (by omega), ← Int.natCast_add, wrap_nat (by omega)]

set_option maxHeartbeats 1000000 in
theorem steps_at {w : World} {b n gd : Nat} {g : Nat → Nat} {U : Nat → Nat → Int} {p : Nat → Int} {D : Nat → Int} (hT : Tab w b n g gd U D) (hF : Forest n p) (hn : n ≤ 8192) (v : Nat) (hv : v < n)
    (hU : ∀ q c u : Nat, q < 14 → anc p c v = (u : Nat) → u < n → U q u = upAt p q u) :
    Calls Tryd.prog 28 #[.pointer (some ⟨b, 0, none⟩), .int .i64 v] w fun e w' => e = .returned (.int .i64 (dep n p v : Nat)) ∧ w = w' := by
  have HT := hide hT
  have HF := hide hF
  have HU := hide hU
  have hst := Steps.start (i := 14) hF hv (by omega)
  clear hT hF hU
  go_enter Tryd.func28, Tryd.ntmps28
  go_wp2
  go_loopg [5, 6, 7] 14 (fun q c a i wr => ∃ (cc u : Nat), i = .int .i64 ((q : Int) - 1) ∧ q ≤ 14 ∧ a = .int .i32 (u : Nat) ∧ c = .int .i64 (cc : Nat) ∧ Steps n p v q cc u ∧ w = wr)
  case atStart => exact ⟨0, v, rfl, Nat.le_refl _, rfl, rfl, hst, rfl⟩
  case round =>
    obtain ⟨cc, u, rfl, hq, rfl, rfl, hs, rfl⟩ := hrel
    match gk, hq, hs with
    | 0, hq, hs =>
      have hd := hs.done HF.out hv
      have HD := hide hd
      clear hs hst hd
      go_wp2
      go_ret
      exact ⟨ret_nat HD.out, rfl⟩
    | m + 1, hq, hs =>
      have hm : m < 14 := by omega
      have hmi : ((m + 1 : Nat) : Int) - 1 = (m : Int) := by omega
      rw [hmi]
      have c1 := HT.out.cu hm
      have hu := hs.lt
      have cu : w.cell? ⟨g m, u, none⟩ = some (.int .i32 (upAt p m u)) := by
        rw [(HT.out.up m hm).cell u hu]
        unfold i32V
        rw [HU.out m cc u hm hs.at_ hu]
      have hcc : cc < 8192 := by have := hs.le; have := HF.out.dep_lt hv; omega
      have h2 : 2 ^ m ≤ 8192 := Nat.pow_le_pow_right (by omega) (show m ≤ 13 by omega)
      rcases hs.next HF.out hv with ⟨hneg, hs'⟩ | ⟨u', hu', hun, hs'⟩
      · have HS := hide hs'
        clear hs hs' hst hmi
        go_wp2
        go_roundg m
        case measure => omega
        case rel => exact ⟨cc, u, by go_num, by omega, rfl, rfl, HS.out, rfl⟩
      · have HS := hide hs'
        rw [hu'] at cu
        clear hs hs' hst hmi hu'
        go_wp2
        go_roundg m
        case measure => omega
        case rel =>
          rw [shl_val hcc h2]
          exact ⟨cc + 2 ^ m, u', by go_num, by omega, rfl, rfl, HS.out, rfl⟩

end Go.Proofs.YthpghcidocjanaaDoor
