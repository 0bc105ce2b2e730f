/- Walks of the document's sets: Trial. -/
import Derived.Test.YtiaddgagncmbeaaF8
namespace Go.Proofs.Ytiaddgagncmbeaa
open Go.RowKit

/-- What Trial of the document returns. -/
def rtrialV (n : Nat) (S : St) (m : Nat) (xs ys : Nat → Int) : Value :=
  if allIn2 n m xs ys then
    .tuple #[.agg #[.int .i64 (rL n ((S.unis (pairsTo xs ys m)).lab n) n : Nat), .int .i64 (rC n ((S.unis (pairsTo xs ys m)).lab n) n : Nat), .int .i64 (rS n ((S.unis (pairsTo xs ys m)).lab n) n : Nat)], .int .i64 0]
  else .tuple #[.agg #[.int .i64 0, .int .i64 0, .int .i64 0], .int .i64 3]

theorem rtrial_no {n : Nat} {S : St} {m : Nat} {xs ys : Nat → Int} {j : Nat} (hj : j < m) (h : in2 n (xs j) (ys j) = false) : rtrialV n S m xs ys = .tuple #[.agg #[.int .i64 0, .int .i64 0, .int .i64 0], .int .i64 3] := by
  unfold rtrialV
  rw [if_neg]
  unfold allIn2
  simp only [decide_eq_true_eq]
  intro h'
  have := h' j hj
  rw [h] at this
  cases this

theorem in2_split {n : Nat} {x y : Int} : in2 n x y = (in1 n x && in1 n y) := rfl

set_option maxHeartbeats 400000 in
theorem RTrial_nil (w : World) (ao : Option Addr) (m c : Nat) : Calls Try.prog 27 #[.pointer none, .slice ao m c] w fun e w' => e = .returned (.tuple #[.agg #[.int .i64 0, .int .i64 0, .int .i64 0], .int .i64 1]) ∧ Same' w w' := by
  go_enter Try.func27, Try.ntmps27
  go_wp2_with (go_at_call 40; refine (rvalid_nil _).mono ?_; rintro e w' ⟨rfl, rfl⟩)
  refine bodyPost_ret (v := .tuple #[.agg #[.int .i64 0, .int .i64 0, .int .i64 0], .int .i64 1]) ?_ rfl ⟨rfl, (Fr.refl _ w).alloc _⟩
  simp [results, Try.results27, go_sem]

section
variable {M : Nat → Prop} {w : World} {b n : Nat} {S : St} {v : Value} {ap : Option Addr} {cp : Nat} {vs : List Value}

set_option maxHeartbeats 1000000 in
theorem RTrial_at (h : RefB M w b n S v ap cp vs) (hO : S.Ok n) (hn : n ≤ 65536) (ao : Option Addr) (m c : Nat) (xs ys : Nat → Int) (hm : m ≤ 140737488351232)
    (hc : 0 < m → ∃ g off, ao = some ⟨g, off, none⟩ ∧ ∀ i, i < m → w.cell? ⟨g, off + i * 2, none⟩ = some (.int .i64 (xs i)) ∧ w.cell? ⟨g, off + i * 2 + 1, none⟩ = some (.int .i64 (ys i))) :
    Calls Try.prog 27 #[.pointer (some ⟨b, 0, none⟩), .slice ao m c] w fun e w' => e = .returned (rtrialV n S m xs ys) ∧ Same' w w' := by
  have H := hide h
  have HC := hide hc
  have HO := hide hO
  have c1a : ∀ o, (w.alloc o).cell? ⟨b, 1, none⟩ = some v := fun o => (World.cell?_alloc_lt _ o _ h.blt).trans h.c1
  have c0a : ∀ o, Hid ((w.alloc o).cell? ⟨b, 0, none⟩ = some (.bool true)) := fun o => (World.cell?_alloc_lt _ o _ h.blt).trans h.c0
  clear h hc hO
  go_enter Try.func27, Try.ntmps27
  go_wp2_with (go_at_call 40; refine (rvalid_at b _ (c0a _).out).mono ?_; rintro e w' ⟨rfl, rfl⟩)
  generalize hB0 : w.heap.size = B0
  refine wp_world (fun w2 => Three w2 B0 52 0 0 0 ∧ Same' w w2) ⟨by rw [← hB0]; exact heap_alloc_new w _, (Fr.refl _ w).alloc _⟩ ?_
  rintro w2 ⟨t0, hf2⟩
  clear c1a c0a
  have HB0 := hide hB0
  clear hB0
  go_loopg [6, 7] m (fun q u k wr => ∃ j : Nat, q + j = m ∧ k = .int .i64 j ∧ (∀ i, i < j → in2 n (xs i) (ys i) = true) ∧ LabAt (fun _ => True) wr u n ((S.unis (pairsTo xs ys j)).lab n) ∧ Three wr B0 52 0 0 0 ∧ Same' w wr)
  case atStart => exact ⟨0, rfl, rfl, by intro i hi; omega, (H.out.lab.keep hf2 (fun _ _ h => h)).mono (fun _ _ => trivial), t0, hf2⟩
  case round =>
    obtain ⟨j, hj, rfl, hin, hl, ht, hf⟩ := hrel
    have hOj := (HO.out.unisTo hin).1
    have HR := hide (And.intro hin (And.intro hl (And.intro ht (And.intro hf hOj))))
    have hr := H.out.same hf
    clear hin hl hOj
    by_cases hlt : j < m
    · obtain ⟨g, off, rfl, hcell⟩ := HC.out (by omega)
      obtain ⟨hx, hy⟩ := hcell j hlt
      have hx' : wr.cell? ⟨g, off + j * 2, none⟩ = some (.int .i64 (xs j)) := (hf.cell (block_lt_of_cell hx) id).trans hx
      have hy' : wr.cell? ⟨g, off + j * 2 + 1, none⟩ = some (.int .i64 (ys j)) := (hf.cell (block_lt_of_cell hy) id).trans hy
      have z0 := ht.c0
      have z1 := ht.c1
      have z2 := ht.c2
      have f0 := ht.free 0
      have f1 := ht.free 1
      have f2 := ht.free 2
      clear hcell hx hy ht hf
      by_cases hi1 : in1 n (xs j) = true
      · by_cases hi2 : in1 n (ys j) = true
        · have hi3 := hi1
          have hi4 := hi2
          unfold in1 at hi3 hi4
          simp only [decide_eq_true_eq] at hi3 hi4
          obtain ⟨x, ha⟩ : ∃ x : Nat, xs j = x := ⟨(xs j).toNat, by omega⟩
          obtain ⟨y, hb⟩ : ∃ y : Nat, ys j = y := ⟨(ys j).toNat, by omega⟩
          have han : x < n := by omega
          have hbn : y < n := by omega
          have HI := hide (show in2 n (xs j) (ys j) = true by rw [in2_split, hi1, hi2]; rfl)
          rw [ha] at hx' hi1
          rw [hb] at hy' hi2
          have HAB := hide (And.intro ha hb)
          have C1 := hide (hr.has_eq hn _ hi1)
          have C2 := hide (hr.has_eq hn _ hi2)
          have C3 := hide (united_at (fun _ => True) wr.drew _ n _ x y han hbn hn (HR.out.2.1.keep ((Fr.refl (fun _ => False) wr).drew) (fun _ _ h => h)))
          clear ha hb hi3 hi4 hi1 hi2 hr
          go_wp2_with (first | (go_at_call_of 41 (x : Int); refine C1.out.mono ?_; rintro e w' ⟨rfl, rfl⟩) | (go_at_call_of 41 (y : Int); refine C2.out.mono ?_; rintro e w' ⟨rfl, rfl⟩))
          go_region_with (go_at_call 42; refine C3.out.mono ?_; rintro e w3 ⟨u', rfl, hl3, hf3⟩; (have HX := hide (And.intro hl3 hf3)); clear hl3 hf3)
          all_goals
            go_wp2
            go_roundg (m - (j + 1))
            case measure => omega
            case rel =>
              obtain ⟨hin, hl, ht, hf, hOj⟩ := HR.out
              have hf' : Same' wr w3 := ((Fr.refl _ wr).drew).trans HX.out.2
              refine ⟨j + 1, by omega, by go_num, ?_, ?_, ht.of_same hf', hf.trans hf'⟩
              · intro i hi
                by_cases e : i = j
                · subst e; exact HI.out
                · exact hin i (by omega)
              · rw [pairsTo_succ, St.unis_snoc, HAB.out.1, HAB.out.2]
                exact (HX.out.1.mono (fun _ _ => trivial)).congr (fun i hi => (hOj.lab_uni (by simpa using han) (by simpa using hbn) hi).symm)
        · have hi2 : in1 n (ys j) = false := Bool.eq_false_iff.2 hi2
          have HI := hide (show in2 n (xs j) (ys j) = false by rw [in2_split, hi1, hi2]; rfl)
          have C1 := hide (hr.has_eq hn _ hi1)
          have C2 := hide (hr.has_eq hn _ hi2)
          clear hi1 hi2 hr
          go_wp2_with (first | (go_at_call_of 41 (xs j : Int); refine C1.out.mono ?_; rintro e w' ⟨rfl, rfl⟩) | (go_at_call_of 41 (ys j : Int); refine C2.out.mono ?_; rintro e w' ⟨rfl, rfl⟩))
          obtain ⟨hin, hl, ht, hf, hOj⟩ := HR.out
          rw [rtrial_no hlt HI.out]
          have hp := three_put ht 0 0 0
          have y0 := hp.1.c0
          have y1 := hp.1.c1
          have y2 := hp.1.c2
          rw [show ((0 : Nat) : Int) = 0 from rfl] at y0 y1 y2
          refine bodyPost_ret (v := .tuple #[.agg #[.int .i64 0, .int .i64 0, .int .i64 0], .int .i64 3]) ?_ rfl ⟨rfl, ?_⟩
          · simp [results, Try.results27, go_sem, y0, y1, y2]
          · have := HB0.out
            exact hf.trans' hp.2 (fun k hk e => by omega)
      · have hi1 : in1 n (xs j) = false := Bool.eq_false_iff.2 hi1
        have HI := hide (show in2 n (xs j) (ys j) = false by rw [in2_split, hi1]; rfl)
        have C1 := hide (hr.has_eq hn _ hi1)
        clear hi1 hr
        go_wp2_with (first | (go_at_call_of 41 (xs j : Int); refine C1.out.mono ?_; rintro e w' ⟨rfl, rfl⟩))
        obtain ⟨hin, hl, ht, hf, hOj⟩ := HR.out
        rw [rtrial_no hlt HI.out]
        have hp := three_put ht 0 0 0
        have y0 := hp.1.c0
        have y1 := hp.1.c1
        have y2 := hp.1.c2
        rw [show ((0 : Nat) : Int) = 0 from rfl] at y0 y1 y2
        refine bodyPost_ret (v := .tuple #[.agg #[.int .i64 0, .int .i64 0, .int .i64 0], .int .i64 3]) ?_ rfl ⟨rfl, ?_⟩
        · simp [results, Try.results27, go_sem, y0, y1, y2]
        · have := HB0.out
          exact hf.trans' hp.2 (fun k hk e => by omega)
    · obtain rfl : j = m := by omega
      have C1 := hide (Row_at _ wr _ n _ hn HR.out.2.1)
      clear ht hf hr
      go_wp2_with (go_at_call 44; refine C1.out.mono ?_; rintro e w5 ⟨rfl, hf5⟩; have ht2 := HR.out.2.2.1.of_same hf5; have z0 := ht2.c0; have z1 := ht2.c1; have z2 := ht2.c2; have f0 := ht2.free 0; have f1 := ht2.free 1; have f2 := ht2.free 2; have HT := hide ht2; clear ht2)
      obtain ⟨hin, hl, ht, hf, hOj⟩ := HR.out
      have hp := three_put HT.out (rL n ((S.unis (pairsTo xs ys j)).lab n) n) (rC n ((S.unis (pairsTo xs ys j)).lab n) n) (rS n ((S.unis (pairsTo xs ys j)).lab n) n)
      have y0 := hp.1.c0
      have y1 := hp.1.c1
      have y2 := hp.1.c2
      have hv : allIn2 n j xs ys = true := by
        unfold allIn2
        simp only [decide_eq_true_eq]
        exact hin
      unfold rtrialV
      rw [if_pos hv]
      refine bodyPost_ret (v := .tuple #[.agg #[.int .i64 (rL n ((S.unis (pairsTo xs ys j)).lab n) n : Nat), .int .i64 (rC n ((S.unis (pairsTo xs ys j)).lab n) n : Nat), .int .i64 (rS n ((S.unis (pairsTo xs ys j)).lab n) n : Nat)], .int .i64 0]) ?_ rfl ⟨rfl, ?_⟩
      · simp [results, Try.results27, go_sem, y0, y1, y2]
      · have := HB0.out
        exact (hf.trans hf5).trans' hp.2 (fun k hk e => by omega)
end

end Go.Proofs.Ytiaddgagncmbeaa
