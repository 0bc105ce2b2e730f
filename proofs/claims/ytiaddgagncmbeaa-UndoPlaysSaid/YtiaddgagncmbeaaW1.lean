/- Walks of the small methods of undo.Sets. -/
import Derived.Test.YtiaddgagncmbeaaRows
import Derived.Test.YtiaddgagncmbeaaS
namespace Go.Proofs.Ytiaddgagncmbeaa
open Go.RowKit

set_option maxHeartbeats 400000 in
theorem valid_nil (w : World) :
    Calls Try.prog 30 #[.pointer none] w fun e w' => e = .returned (.bool false) ∧ w = w' := by
  go_enter Try.func30, Try.ntmps30
  go_wp2
  go_ret
  exact ⟨rfl, rfl⟩

set_option maxHeartbeats 400000 in
theorem valid_at (b : Nat) (m : Bool) (w : World) (h0 : w.cell? ⟨b, 0, none⟩ = some (.bool m)) :
    Calls Try.prog 30 #[.pointer (some ⟨b, 0, none⟩)] w fun e w' => e = .returned (.bool m) ∧ w = w' := by
  go_enter Try.func30, Try.ntmps30
  go_wp2
  go_ret
  exact ⟨rfl, rfl⟩

set_option maxHeartbeats 400000 in
theorem root_any (b gp n cp : Nat) (p r d : Nat → Nat) (hF : Fo n p r d) (a : Nat) (ha : a < n) (w : World)
    (h1 : w.cell? ⟨b, 1, none⟩ = some (.slice (some ⟨gp, 0, none⟩) n cp)) (hc : ∀ i, i < n → w.cell? ⟨gp, i, none⟩ = some (.int .i64 (p i))) :
    Calls Try.prog 31 #[.pointer (some ⟨b, 0, none⟩), .int .i64 a] w fun e w' => e = .returned (.int .i64 (r a)) ∧ w = w' := by
  have HF := hide hF
  clear hF
  go_enter Try.func31, Try.ntmps31
  go_wp2
  go_loop [1] (fun x => ∃ k : Nat, k < n ∧ r k = r a ∧ x = .int .i64 k) (fun x => d (intOf x).toNat)
  case atStart => exact ⟨a, ha, rfl, rfl⟩
  case round =>
    obtain ⟨k, hk, hr, rfl⟩ := hrel
    have HR := hide hr
    clear hr
    have hck := hc k hk
    clear hc
    have hlt := HF.out.lt k hk
    by_cases hpk : p k = k
    · have e := HF.out.top k hk hpk
      have HP := hide hpk
      clear hpk
      have ht : ((p k : Int) == (k : Int)) = true := by rw [HP.out]; simp
      have ht' : ((p k : Int) != (k : Int)) = false := by rw [HP.out]; simp
      go_wp2
      go_ret
      exact ⟨ret_nat (by rw [← HR.out, e]), rfl⟩
    · have HP := hide hpk
      clear hpk
      have ht : ((p k : Int) == (k : Int)) = false := by have := HP.out; simp; omega
      have ht' : ((p k : Int) != (k : Int)) = true := by have := HP.out; simp; omega
      go_wp2
      go_round
      case rel => exact ⟨p k, hlt, by rw [(HF.out.go k hk HP.out).1, HR.out], rfl⟩
      case measure => simp [intOf]; exact (HF.out.go k hk HP.out).2

theorem SetsAt.root {w : World} {L : Lay} {n : Nat} {p s : Nat → Nat} {log : List Nat} (h : SetsAt w L n p s log) {r d : Nat → Nat} (hF : Fo n p r d) (a : Nat) (ha : a < n) :
    Calls Try.prog 31 #[.pointer (some ⟨L.b, 0, none⟩), .int .i64 a] w fun e w' => e = .returned (.int .i64 (r a)) ∧ w = w' :=
  root_any L.b L.gp n L.cp p r d hF a ha w h.c1 (fun i hi => h.par.cell i hi)

end Go.Proofs.Ytiaddgagncmbeaa
