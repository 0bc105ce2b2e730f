/- Walks: the document's sum. -/
import Derived.Test.YtneidejngbokcaaA3
import Derived.Test.YtneidejngbokcaaA5
import Derived.StillTailTactics
namespace Go.Proofs.Ytneidejngbokcaa
open Go.RowKit

abbrev Same' (w w' : World) : Prop := Fr (fun _ => False) w w'

theorem FlAt.keep {w w' : World} {ao : Option Addr} {n : Nat} {f : Nat → Nat} (h : FlAt w ao n f) (hf : Same' w w') : FlAt w' ao n f := fun i hi => by
  obtain ⟨ad, h1, h2⟩ := h i hi
  exact ⟨ad, h1, (hf.cell (block_lt_of_cell h2) id).trans h2⟩

/-- The sum of products, as the classes tell it. -/
def sumC (f g : Nat → Option Nat) : Nat → Option Nat
  | 0 => some 0
  | k + 1 => fop .add (sumC f g k) (fop .mul (f k) (g k))

set_option maxHeartbeats 1000000 in
theorem sum_at {w : World} {xo vo : Option Addr} {n : Nat} (c d : Nat) {f g : Nat → Nat} (hn : n ≤ 16385) (hx : FlAt w xo n f) (hv : FlAt w vo n g) : Calls Try.prog 56 #[.slice xo n c, .slice vo n d] w fun e w' => ∃ s, e = .returned (.float .f64 s) ∧ cls s = sumC (fun k => cls (f k)) (fun k => cls (g k)) n ∧ Same' w w' := by
  go_enter Try.func56, Try.ntmps56
  go_wp2_with fail
  go_loopg [5, 6] n (fun z s i wr => ∃ (k : Nat) (x : Nat), k + z = n ∧ i = .int .i64 k ∧ s = .float .f64 x ∧ cls x = sumC (fun k => cls (f k)) (fun k => cls (g k)) k ∧ Same' w wr)
  case atStart => exact ⟨0, 0, by omega, rfl, rfl, rfl, Fr.refl _ _⟩
  case round =>
    obtain ⟨k, x, hk, rfl, rfl, hcl, hf⟩ := hrel
    have HC := hide hcl
    clear hcl
    by_cases hlt : k < n
    · have hd : decide (k < n) = true := by simpa using hlt
      obtain ⟨ad, rfl, hc⟩ := (hx.keep hf) k hlt
      obtain ⟨bd, rfl, hc2⟩ := (hv.keep hf) k hlt
      have hki : (k : Int) < n := by omega
      go_wp2_with fail
      go_still_tail 8, (by kernel_rfl)
      refine wpList_arith _ rfl .mul 24 24 _ _ rfl (by simp) (f k) (g k) rfl rfl ?_
      intro r w' hr hw
      have hf' : Same' w w' := by
        rcases hw with rfl | rfl
        · exact hf.to rfl rfl rfl rfl
        · exact hf.to rfl rfl rfl rfl
      go_wp2_with (refine wpList_arith _ rfl .add 24 24 _ _ rfl (by simp) x r rfl rfl ?_)
      intro q w2 hq hw2
      have hf2 : Same' w w2 := by
        rcases hw2 with rfl | rfl
        · exact hf'
        · exact hf'.to rfl rfl rfl rfl
      go_wp2
      go_roundg (gk - 1)
      case measure => omega
      case rel => exact ⟨k + 1, q, by omega, by go_num, rfl, by rw [hq, HC.out]; rfl, hf2⟩
    · have hd : decide (k < n) = false := by simpa using hlt
      obtain rfl : k = n := by omega
      go_wp2_with fail
      go_ret
      exact ⟨x, rfl, HC.out, hf⟩
end Go.Proofs.Ytneidejngbokcaa
