/- Walks of the document's sets: Row. -/
import Derived.Test.YtiaddgagncmbeaaF3
namespace Go.Proofs.Ytiaddgagncmbeaa
open Go.RowKit

/-- How many k from i on and below j have l k = i. -/
def cTo (l : Nat → Nat) (i j : Nat) : Nat := cnt j (fun k => decide (i ≤ k) && decide (l k = i))
theorem cTo_start (l : Nat → Nat) (i : Nat) : cTo l i i = 0 := by
  refine cnt_none fun k hk => ?_
  have : ¬ i ≤ k := by omega
  simp [this]
theorem cTo_succ {l : Nat → Nat} {i j : Nat} (h : i ≤ j) : cTo l i (j + 1) = cTo l i j + if l j = i then 1 else 0 := by
  show cnt j _ + (decide (i ≤ j) && decide (l j = i)).toNat = _
  rw [show decide (i ≤ j) = true by simp [h]]
  by_cases e : l j = i <;> simp [e, cTo]
theorem cTo_le (l : Nat → Nat) (i j : Nat) : cTo l i j ≤ j := cnt_le _ _

def rL (n : Nat) (l : Nat → Nat) : Nat → Nat
  | 0 => 0
  | i + 1 => max (rL n l i) (cTo l i n)
def rC (n : Nat) (l : Nat → Nat) : Nat → Nat
  | 0 => 0
  | i + 1 => rC n l i + if 0 < cTo l i n then 1 else 0
def rS (n : Nat) (l : Nat → Nat) : Nat → Nat
  | 0 => 0
  | i + 1 => rS n l i + cTo l i n * cTo l i n

theorem rL_le (n : Nat) (l : Nat → Nat) (i : Nat) : rL n l i ≤ n := by
  induction i with
  | zero => simp [rL]
  | succ i ih => have := cTo_le l i n; simp only [rL]; omega
theorem rC_le (n : Nat) (l : Nat → Nat) (i : Nat) : rC n l i ≤ i := by
  induction i with
  | zero => simp [rC]
  | succ i ih => simp only [rC]; split <;> omega
theorem rS_le {n : Nat} (hn : n ≤ 65536) (l : Nat → Nat) (i : Nat) : rS n l i ≤ i * (65536 * 65536) := by
  induction i with
  | zero => simp [rS]
  | succ i ih =>
    have h := cTo_le l i n
    have := Nat.mul_le_mul (show cTo l i n ≤ 65536 by omega) (show cTo l i n ≤ 65536 by omega)
    simp only [rS]
    omega

set_option maxHeartbeats 4000000 in
theorem Row_at (M : Nat → Prop) (w : World) (v : Value) (n : Nat) (l : Nat → Nat) (hn : n ≤ 65536) (hl : LabAt M w v n l) :
    Calls Try.prog 44 #[v] w fun e w' => e = .returned (.agg #[.int .i64 (rL n l n : Nat), .int .i64 (rC n l n : Nat), .int .i64 (rS n l n : Nat)]) ∧ Same' w w' := by
  obtain ⟨ao, c, rfl, hc⟩ := hl.cell
  have hcell : Hid (∀ i, i < n → ∃ g, ao = some ⟨g, 0, none⟩ ∧ ∀ w', Same' w w' → w'.cell? ⟨g, i, none⟩ = some (.int .i64 (l i : Nat))) := fun i hi => by
    obtain ⟨g, e1, _, h⟩ := hc i hi
    exact ⟨g, e1, fun w' hf => by rw [hf.cell (block_lt_of_cell h) id, h]⟩
  clear hc hl
  go_enter Try.func44, Try.ntmps44
  go_wp2
  generalize hB0 : w.heap.size = B0
  refine wp_world (fun w2 => Three w2 B0 52 0 0 0 ∧ Three w2 (B0 + 1) 52 0 0 0 ∧ Same' w w2) ?_ ?_
  · have q0 : Three (w.alloc (.cells #[.int .i64 0, .int .i64 0, .int .i64 0] 52)) B0 52 0 0 0 := by rw [← hB0]; exact heap_alloc_new w _
    refine ⟨(Below.heap_alloc _ _ B0 (by simp; omega)).trans q0, ?_, ((Fr.refl _ w).alloc _).alloc _⟩
    have := heap_alloc_new (w.alloc (.cells #[.int .i64 0, .int .i64 0, .int .i64 0] 52)) (.cells #[.int .i64 0, .int .i64 0, .int .i64 0] 52)
    rw [World.size_alloc, hB0] at this
    exact this
  rintro w2 ⟨t0, t1, hf2⟩
  have HB0 := hide hB0
  clear hB0
  go_wp2
  go_loopg [4] n (fun q i wr => ∃ j : Nat, q + j = n ∧ i = .int .i64 j ∧ Three wr B0 52 0 0 0 ∧ Three wr (B0 + 1) 52 (rL n l j) (rC n l j) (rS n l j) ∧ Same' w wr)
  case atStart => exact ⟨0, by omega, rfl, t0, t1, hf2⟩
  case round =>
    obtain ⟨j, hq, rfl, u0, u1, hfr⟩ := hrel
    have HU := hide (And.intro u0 (And.intro u1 hfr))
    by_cases hlt : j < n
    · clear u0 u1 hfr
      go_wp2
      go_loopg [5, 6] (n - j) (fun q x y wi => ∃ k : Nat, q + k = n ∧ j ≤ k ∧ y = .int .i64 k ∧ x = .int .i64 (cTo l j k : Nat) ∧ wi = wr)
      case atStart => exact ⟨j, by omega, Nat.le_refl _, rfl, by rw [cTo_start]; rfl, rfl⟩
      case round =>
        obtain ⟨k, hqk, hjk, rfl, rfl, rfl⟩ := hrel
        by_cases hkn : k < n
        · obtain ⟨g, rfl, hg⟩ := hcell.out k hkn
          have ck := hg _ HU.out.2.2
          have HE := hide (cTo_succ (l := l) hjk)
          have hle := cTo_le l j k
          clear hg
          by_cases e : l k = j
          · have t : ((l k : Int) == (j : Int)) = true := by rw [e]; simp
            have HE' : Hid (cTo l j (k + 1) = cTo l j k + 1) := by rw [HE.out, if_pos e]; exact hide rfl
            clear e HE
            go_wp2
            go_roundg (n - (k + 1))
            case measure => omega
            case rel => exact ⟨k + 1, by omega, by omega, by go_num, by rw [HE'.out]; go_num, rfl⟩
          · have t : ((l k : Int) == (j : Int)) = false := by simp; omega
            have HE' : Hid (cTo l j (k + 1) = cTo l j k) := by rw [HE.out, if_neg e]; exact hide rfl
            clear e HE
            go_wp2
            go_roundg (n - (k + 1))
            case measure => omega
            case rel => exact ⟨k + 1, by omega, by omega, by go_num, by rw [HE'.out], rfl⟩
        · obtain rfl : k = n := by omega
          have hle := cTo_le l j k
          have hcl := rC_le k l j
          have v0 := HU.out.2.1.c0
          have v1 := HU.out.2.1.c1
          have v2 := HU.out.2.1.c2
          have f0 := HU.out.2.1.free 0
          have f1 := HU.out.2.1.free 1
          have f2 := HU.out.2.1.free 2
          obtain ⟨cv, hcv⟩ : ∃ cv, cTo l j k = cv := ⟨_, rfl⟩
          obtain ⟨lv, hlv⟩ : ∃ lv, rL k l j = lv := ⟨_, rfl⟩
          obtain ⟨kv, hkv⟩ : ∃ kv, rC k l j = kv := ⟨_, rfl⟩
          obtain ⟨sv, hsv⟩ : ∃ sv, rS k l j = sv := ⟨_, rfl⟩
          have hsl := rS_le hn l j
          have HSL := hide hsl
          rw [hcv]
          rw [hcv] at hle
          rw [hkv] at hcl v1
          rw [hlv] at v0
          rw [hsv] at v2
          have hm2 : cv * cv ≤ 65536 * 65536 := Nat.mul_le_mul (by omega) (by omega)
          have hv := sq_val (n := j) (by omega) (hsv ▸ HSL.out) hm2
          have HV := hide hv
          have HC := hide (And.intro hcv (And.intro hlv (And.intro hkv hsv)))
          clear hcv hlv hkv hsv hsl hm2 hv
          by_cases h0 : 0 < cv
          · have hk1 : (kv : Int) + 1 = ((kv + 1 : Nat) : Int) := by omega
            have HK1 := hide hk1
            clear hk1
            by_cases h1 : lv < cv
            · go_wp2
              go_roundg (k - (j + 1))
              case measure => omega
              case rel =>
                obtain ⟨e1, e2, e3, e4⟩ := HC.out
                rw [HV.out, HK1.out]
                refine ⟨j + 1, by omega, by go_num, ?_, ?_, ?_⟩
                · exact ((HU.out.1.other _ _ (by simp)).other _ _ (by simp)).other _ _ (by simp)
                · have h := ((HU.out.2.1.set1 (kv + 1)).set0 cv).set2 (sv + cv * cv)
                  rw [show rL k l (j + 1) = cv by simp only [rL]; omega, show rC k l (j + 1) = kv + 1 by simp only [rC]; rw [e1, if_pos h0, e3], show rS k l (j + 1) = sv + cv * cv by simp only [rS]; rw [e1, e4]]
                  exact h
                · have hsz := HB0.out
                  exact ((HU.out.2.2.setCell _ _ (fun h => by simp only at h; omega)).setCell _ _ (fun h => by simp only at h; omega)).setCell _ _ (fun h => by simp only at h; omega)
            · go_wp2
              go_roundg (k - (j + 1))
              case measure => omega
              case rel =>
                obtain ⟨e1, e2, e3, e4⟩ := HC.out
                rw [HV.out, HK1.out]
                refine ⟨j + 1, by omega, by go_num, ?_, ?_, ?_⟩
                · exact (HU.out.1.other _ _ (by simp)).other _ _ (by simp)
                · have h := (HU.out.2.1.set1 (kv + 1)).set2 (sv + cv * cv)
                  rw [show rL k l (j + 1) = rL k l j by simp only [rL]; omega, show rC k l (j + 1) = kv + 1 by simp only [rC]; rw [e1, if_pos h0, e3], show rS k l (j + 1) = sv + cv * cv by simp only [rS]; rw [e1, e4]]
                  exact h
                · have hsz := HB0.out
                  exact (HU.out.2.2.setCell _ _ (fun h => by simp only at h; omega)).setCell _ _ (fun h => by simp only at h; omega)
          · have h1 : ¬ lv < cv := by omega
            go_wp2
            go_roundg (k - (j + 1))
            case measure => omega
            case rel =>
              obtain ⟨e1, e2, e3, e4⟩ := HC.out
              rw [HV.out]
              refine ⟨j + 1, by omega, by go_num, ?_, ?_, ?_⟩
              · exact HU.out.1.other _ _ (by simp)
              · have h := HU.out.2.1.set2 (sv + cv * cv)
                rw [show rL k l (j + 1) = rL k l j by simp only [rL]; omega, show rC k l (j + 1) = rC k l j by simp only [rC]; rw [e1, if_neg h0]; rfl, show rS k l (j + 1) = sv + cv * cv by simp only [rS]; rw [e1, e4]]
                exact h
              · have hsz := HB0.out
                exact HU.out.2.2.setCell _ _ (fun h => by simp only at h; omega)
    · obtain rfl : j = n := by omega
      have v0 := u1.c0
      have v1 := u1.c1
      have v2 := u1.c2
      have z0 := u0.c0
      have z1 := u0.c1
      have z2 := u0.c2
      have f0 := u0.free 0
      have f1 := u0.free 1
      have f2 := u0.free 2
      clear u0 u1
      go_wp2
      refine bodyPost_ret (v := .agg #[.int .i64 (rL j l j : Nat), .int .i64 (rC j l j : Nat), .int .i64 (rS j l j : Nat)]) ?_ rfl ⟨rfl, ?_⟩
      · have hT := ((HU.out.1.set0 (rL j l j)).set1 (rC j l j)).set2 (rS j l j)
        have y0 := hT.c0
        have y1 := hT.c1
        have y2 := hT.c2
        simp [results, Try.results44, go_sem, y0, y1, y2]
      · have hsz := HB0.out
        exact ((hfr.setCell _ _ (fun h => by simp only at h; omega)).setCell _ _ (fun h => by simp only at h; omega)).setCell _ _ (fun h => by simp only at h; omega)

end Go.Proofs.Ytiaddgagncmbeaa
