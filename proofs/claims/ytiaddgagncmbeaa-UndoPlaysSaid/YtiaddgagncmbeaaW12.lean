/- The walks of the laws' helpers: same, add, made. -/
import Derived.Test.YtiaddgagncmbeaaW11
namespace Go.Proofs.Ytiaddgagncmbeaa
open Go.RowKit

/-- A slice value whose first n elements are f 0, f 1, .. (nil where n is 0 included). -/
def Sl (w : World) (v : Value) (n : Nat) (f : Nat → Int) : Prop :=
  ∃ ao c, v = .slice ao n c ∧ ∀ i, i < n → ∃ g o, ao = some ⟨g, o, none⟩ ∧ w.cell? ⟨g, o + i, none⟩ = some (.int .i64 (f i))

theorem RowV.sl {w : World} {g cap n : Nat} {f : Nat → Nat} (h : RowV w g 3 cap n (numV f)) (c : Nat) : Sl w (.slice (some ⟨g, 0, none⟩) n c) n (fun i => (f i : Int)) :=
  ⟨_, c, rfl, fun i hi => ⟨g, 0, rfl, by rw [Nat.zero_add]; exact h.num i hi⟩⟩

theorem Sl.nil (w : World) (f : Nat → Int) : Sl w (.slice none 0 0) 0 f := ⟨_, _, rfl, fun i hi => by omega⟩

theorem Sl.same {w w' : World} {v : Value} {n : Nat} {f : Nat → Int} (h : Sl w v n f) (hf : Same' w w') : Sl w' v n f := by
  obtain ⟨ao, c, rfl, h⟩ := h
  refine ⟨ao, c, rfl, fun i hi => ?_⟩
  obtain ⟨g, o, hg, hc⟩ := h i hi
  exact ⟨g, o, hg, (hf.cell (block_lt_of_cell hc) (fun h => h)).trans hc⟩

set_option maxHeartbeats 1000000 in
theorem same_ne (w : World) (ao bo : Option Addr) (n m ca cb : Nat) (h : n ≠ m) :
    Calls Try.prog 17 #[.slice ao n ca, .slice bo m cb] w fun e w' => e = .returned (.bool false) ∧ w = w' := by
  have t : ((n : Int) != (m : Int)) = true := by simp; omega
  go_enter Try.func17, Try.ntmps17
  go_wp2
  go_ret
  exact ⟨rfl, rfl⟩

def eqTo (n : Nat) (f g : Nat → Int) : Bool := decide (∀ i, i < n → f i = g i)

set_option maxHeartbeats 1000000 in
theorem same_eq (w : World) (a b : Value) (n : Nat) (f g : Nat → Int) (ha : Sl w a n f) (hb : Sl w b n g) (hn : n ≤ 140737488351232) :
    Calls Try.prog 17 #[a, b] w fun e w' => e = .returned (.bool (eqTo n f g)) ∧ Same' w w' := by
  have HA := hide ha
  have HB := hide hb
  obtain ⟨ao, ca, rfl, _⟩ := ha
  obtain ⟨bo, cb, rfl, _⟩ := hb
  go_enter Try.func17, Try.ntmps17
  go_wp2
  go_loopg [5] n (fun q k wr => ∃ j : Nat, q + j = n ∧ k = .int .i64 j ∧ (∀ i, i < j → f i = g i) ∧ Same' w wr)
  case atStart => exact ⟨0, rfl, rfl, by intro i hi; omega, Fr.refl _ _⟩
  case round =>
    obtain ⟨j, hj, rfl, hall, hf⟩ := hrel
    have HALL := hide hall
    clear hall
    by_cases hlt : j < n
    · obtain ⟨ao', ca', ea, hA⟩ := HA.out.same hf
      obtain ⟨bo', cb', eb, hB⟩ := HB.out.same hf
      obtain ⟨ga, oa, ha, hca⟩ := hA j hlt
      obtain ⟨gb, ob, hb, hcb⟩ := hB j hlt
      simp only [Value.slice.injEq] at ea eb
      obtain ⟨rfl, _, rfl⟩ := ea
      obtain ⟨rfl, _, rfl⟩ := eb
      subst ha hb
      clear hA hB
      by_cases e : f j = g j
      · have HE := hide e
        have t : ((f j : Int) != g j) = false := by simp [e]
        clear e
        go_wp2
        go_quiet (fail)
        go_wp2
        go_roundg (n - (j + 1))
        case measure => omega
        case rel =>
          refine ⟨j + 1, by omega, by go_num, fun i hi => ?_, hf.drewN _⟩
          by_cases e : i = j
          · subst e; exact HE.out
          · exact HALL.out i (by omega)
      · have HE := hide e
        have t : ((f j : Int) != g j) = true := by simp [e]
        clear e
        go_wp2
        go_quiet (fail)
        go_wp2
        go_ret
        refine ⟨ret_bool ?_, hf.drewN _⟩
        unfold eqTo
        simp only [Bool.false_eq, decide_eq_false_iff_not]
        intro h
        exact HE.out (h j hlt)
    · obtain rfl : j = n := by omega
      go_wp2
      go_ret
      refine ⟨ret_bool ?_, hf⟩
      unfold eqTo
      simp only [Bool.true_eq, decide_eq_true_eq]
      exact HALL.out

end Go.Proofs.Ytiaddgagncmbeaa
