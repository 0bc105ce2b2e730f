/- Walks: math/bits.TrailingZeros64, TrailingZeros. -/
import Derived.Test.YthpghcidocjanaaDoorT3
import Derived.Laws.BitsAllLaws
import Derived.Laws.BitsLemmas
namespace Go.Proofs.YthpghcidocjanaaDoor
open Go.RowKit

/-- The table of math/bits as the program's start lays it. -/
def TzTab (w : World) : Prop := ∀ i, i < 64 → w.cell? ⟨1, i, none⟩ = some (.int .u8 (tzTab.getD i 0 : Nat))

theorem TzTab.keep {w w' : World} {M : Nat → Prop} (h : TzTab w) (hf : Fr M w w') (hm : ¬ M 1) : TzTab w' := fun i hi =>
  (hf.cell (block_lt_of_cell (h i hi)) hm).trans (h i hi)

def ixI (r : Nat) : Int := IntKind.u64.wrap (bits BinOp.and IntKind.u64 (r : Int) (IntKind.u64.wrap (-(r : Int))) * 285870213051353865) / 288230376151711744

theorem ix_eq {r : Nat} (h0 : 0 < r) (h : r < 8192) : ixI r = (tzIx r : Int) := by
  have e : IntKind.u64.wrap (-(r : Int)) = ((18446744073709551616 - r : Nat) : Int) := by rw [IntKind.wrap_u64]; omega
  unfold ixI tzIx
  rw [e, u64_and_nat r _ (by omega) (by omega), IntKind.wrap_u64]
  omega

set_option maxHeartbeats 1000000 in
theorem tz64_gen (w : World) (r j z : Nat) (hx : IntKind.u64.wrap (bits BinOp.and IntKind.u64 (r : Int) (IntKind.u64.wrap (-(r : Int))) * 285870213051353865) / 288230376151711744 = (j : Int)) (hi : j < 64)
    (hc : w.cell? ⟨1, j, none⟩ = some (.int .u8 (z : Nat))) (hr : ((r : Int) == 0) = false) (hb : (z : Int) < 256) :
    Calls Tryd.prog 43 #[.int .u64 r] w fun e w' => e = .returned (.int .i64 (z : Nat)) ∧ w = w' := by
  go_enter Tryd.func43, Tryd.ntmps43
  go_wp2
  go_ret
  exact ⟨rfl, rfl⟩

theorem tz64_at (w : World) (ht : TzTab w) (r : Nat) (h0 : 0 < r) (h : r < 8192) :
    Calls Tryd.prog 43 #[.int .u64 r] w fun e w' => e = .returned (.int .i64 (tz r : Nat)) ∧ w = w' := by
  obtain ⟨hi, hz, _⟩ := tz_spec h0 h
  exact tz64_gen w r (tzIx r) (tz r) (ix_eq h0 h) hi (ht (tzIx r) hi) (by simp; omega) (by omega)

set_option maxHeartbeats 400000 in
theorem tz39_at (w : World) (ht : TzTab w) (r : Nat) (h0 : 0 < r) (h : r < 8192) :
    Calls Tryd.prog 39 #[.int .u64 r] w fun e w' => e = .returned (.int .i64 (tz r : Nat)) ∧ w = w' := by
  have C := hide (tz64_at w ht r h0 h)
  clear ht
  obtain ⟨z, hz⟩ : ∃ z, z = tz r := ⟨_, rfl⟩
  rw [← hz] at C ⊢
  clear hz
  go_enter Tryd.func39, Tryd.ntmps39
  go_wp2_with (go_at_call 43; refine C.out.mono ?_; clear C; rintro e w' ⟨rfl, rfl⟩)
  go_ret
  exact ⟨rfl, rfl⟩

end Go.Proofs.YthpghcidocjanaaDoor
