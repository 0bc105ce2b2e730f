/- Walks: works. -/
import Derived.Test.YtneidejngbokcaaC7
namespace Go.Proofs.Ytneidejngbokcaa
open Go.RowKit

theorem cls_word {a x : Nat} (h : cls a = some x) : a = x := by
  unfold cls at h
  split at h
  · cases h
  · exact Option.some.inj h

/-- Words by place. -/
def wds (l : List Nat) (i : Nat) : Nat := l.getD i 0

theorem fl_new (w : World) (l : List Nat) (vs : Array Value) (hl : vs = (l.map fun x => Value.float .f64 x).toArray) : FlAt (w.alloc (.cells vs 24)) (some ⟨w.heap.size, 0, none⟩) l.length (wds l) := fun i hi => by
  refine ⟨_, rfl, ?_⟩
  rw [add_at]
  subst hl
  have := cell_of_row (w.alloc (.cells (l.map fun x => Value.float .f64 x).toArray 24)) w.heap.size i _ _ _ (heap_alloc_new w _)
  rw [this]
  simp [wds, hi]

theorem works_peak : (pkS 3 (fun i => cls (wds [0, one, 0] i)) 4 5).1 = 4602678819172646912 := by decide +kernel
theorem works_mean : mnC 3 (fun i => cls (wds [one, 4611686018427387904, 4618441417868443648] i)) = some 4613937818241073152 := by decide +kernel
theorem works_cross {r : Nat} {bo : Bool} (h : CrOut 2 (fun i => cls (wds [0, one] i)) 2 (fun i => cls (wds [one, 0] i)) 4 r bo) : r = 4602678819172646912 ∧ bo = true := by
  have s0 : sgK 2 (fun i => cls (wds [0, one] i)) 2 (fun i => cls (wds [one, 0] i)) 4 0 = sg0 2 (fun i => cls (wds [0, one] i)) 2 (fun i => cls (wds [one, 0] i)) := by decide +kernel
  have s1 : sgK 2 (fun i => cls (wds [0, one] i)) 2 (fun i => cls (wds [one, 0] i)) 4 1 = sg0 2 (fun i => cls (wds [0, one] i)) 2 (fun i => cls (wds [one, 0] i)) := by decide +kernel
  have s2 : sgK 2 (fun i => cls (wds [0, one] i)) 2 (fun i => cls (wds [one, 0] i)) 4 2 ≠ sg0 2 (fun i => cls (wds [0, one] i)) 2 (fun i => cls (wds [one, 0] i)) := by decide +kernel
  rcases h with ⟨hb, k, hk, hr, hne, hall⟩ | ⟨hb, hr, hall⟩
  · have e : k = 2 := by
      by_cases h0 : k = 0
      · subst h0; exact absurd s0 hne
      by_cases h1 : k = 1
      · subst h1; exact absurd s1 hne
      by_cases h2 : k = 2
      · exact h2
      · exact absurd (hall 2 (by omega)) s2
    subst e
    exact ⟨by rw [hr]; decide +kernel, hb⟩
  · exact absurd (hall 2 (by omega)) s2

set_option maxRecDepth 100000 in
set_option maxHeartbeats 1000000 in
theorem works_at (w : World) : Calls Try.prog 14 #[] w fun e w' => e = .returned (.bool true) ∧ Same' w w' := by
  have o1 : FloatKind.f64.format.order 4602678819172646912 4602678819172646912 = some .eq := by decide +kernel
  have o2 : FloatKind.f64.format.order 4613937818241073152 4613937818241073152 = some .eq := by decide +kernel
  have v1 : valB 3 (wds [0, one, 0]) = true := by decide +kernel
  have v2 : valB 2 (wds [0, one]) = true := by decide +kernel
  have v3 : valB 2 (wds [one, 0]) = true := by decide +kernel
  have v4 : valB 3 (wds [one, 4611686018427387904, 4618441417868443648]) = true := by decide +kernel
  have C1 : Hid (∀ w : World, Calls Try.prog 23 #[.slice (some ⟨w.heap.size, 0, none⟩) 3 3, .int .i64 4] (w.alloc (.cells #[.float .f64 0, .float .f64 4607182418800017408, .float .f64 0] 24)) fun e w' => e = .returned (.tuple #[.float .f64 4602678819172646912, .int .i64 0]) ∧ Same' w w') :=
    fun w => (Peak23_ok (s := 4) 3 (fl_new w [0, one, 0] #[.float .f64 0, .float .f64 4607182418800017408, .float .f64 0] rfl) v1 (by omega) (by omega)).mono fun e w' ⟨h1, h2⟩ => ⟨h1.trans (by rw [← works_peak]; rfl), (same_alloc _ _).trans h2⟩
  have C2 : Hid (∀ w : World, Calls Try.prog 15 #[.slice (some ⟨w.heap.size, 0, none⟩) 2 2, .slice (some ⟨w.heap.size + 1, 0, none⟩) 2 2, .int .i64 4] ((w.alloc (.cells #[.float .f64 0, .float .f64 4607182418800017408] 24)).alloc (.cells #[.float .f64 4607182418800017408, .float .f64 0] 24)) fun e w' => e = .returned (.tuple #[.float .f64 4602678819172646912, .bool true, .int .i64 0]) ∧ Same' w w') :=
    fun w => (Cross15_ok (s := 4) 2 2 ((fl_new w [0, one] #[.float .f64 0, .float .f64 4607182418800017408] rfl).keep (same_alloc _ (.cells #[.float .f64 4607182418800017408, .float .f64 0] 24))) (by have := fl_new (w.alloc (.cells #[.float .f64 0, .float .f64 4607182418800017408] 24)) [one, 0] #[.float .f64 4607182418800017408, .float .f64 0] rfl; simpa using this) v2 v3 (by omega) (by omega)).mono fun e w' ⟨r, bo, h1, h2, h3⟩ => ⟨by
      obtain ⟨rfl, rfl⟩ := works_cross h2
      exact h1, ((same_alloc _ _).trans (same_alloc _ _)).trans h3⟩
  have C3 : Hid (∀ w : World, Calls Try.prog 19 #[.slice (some ⟨w.heap.size, 0, none⟩) 3 3] (w.alloc (.cells #[.float .f64 4607182418800017408, .float .f64 4611686018427387904, .float .f64 4618441417868443648] 24)) fun e w' => ∃ v, e = .returned (.tuple #[.float .f64 4613937818241073152, .float .f64 v, .int .i64 0]) ∧ Same' w w') :=
    fun w => (Mean19_ok 3 (fl_new w [one, 4611686018427387904, 4618441417868443648] #[.float .f64 4607182418800017408, .float .f64 4611686018427387904, .float .f64 4618441417868443648] rfl) v4).mono fun e w' ⟨a, v, h1, h2, _, h4⟩ => ⟨v, by
      obtain rfl := cls_word (h2.trans works_mean)
      exact h1, (same_alloc _ _).trans h4⟩
  clear v1 v2 v3 v4
  go_enter Try.func14, Try.ntmps14
  go_wp2_with (first
    | (go_at_call 23; refine (C1.out _).mono ?_; clear C1; rintro e w1 ⟨rfl, hf1⟩)
    | (go_at_call 15; refine (C2.out _).mono ?_; clear C2; rintro e w2 ⟨rfl, hf2⟩)
    | (go_at_call 19; refine (C3.out _).mono ?_; clear C3; rintro e w3 ⟨v, rfl, hf3⟩))
  go_ret
  exact ⟨rfl, (hf1.trans hf2).trans hf3⟩
end Go.Proofs.Ytneidejngbokcaa
