/- Walks: binomial. -/
import Derived.Test.YtneidejngbokcaaB3
namespace Go.Proofs.Ytneidejngbokcaa
open Go.RowKit

/-- A box that holds a row, the row, both new since w0. -/
structure StB (w0 : World) (b g n : Nat) (x : Nat → Nat) (w : World) : Prop where
  box : w.cell? ⟨b, 0, none⟩ = some (.slice (some ⟨g, 0, none⟩) n n)
  row : RowV w g 24 n n (fun i => .float .f64 (x i))
  fr : Same' w0 w
  gnew : w0.heap.size ≤ g
  ne : b ≠ g
theorem StB.drew {w0 : World} {b g n : Nat} {x : Nat → Nat} (w : World) (h : StB w0 b g n x w) : StB w0 b g n x w.drew := ⟨h.box, h.row.of_block rfl, h.fr.to rfl rfl rfl rfl, h.gnew, h.ne⟩
theorem StB.set {w0 w : World} {b g n : Nat} {x : Nat → Nat} (h : StB w0 b g n x w) (i : Nat) (hi : i < n) (v : Nat) : StB w0 b g n (fun j => if j = i then v else x j) (w.setCell ⟨g, i, none⟩ (.float .f64 v)) :=
  ⟨(World.cell?_of_block (heap_setCell_other w _ b _ h.ne)).trans h.box, (h.row.set i hi _).congr (fun j _ => by by_cases e : j = i <;> simp [e]), h.fr.setCell _ _ (fun hlt => by have := h.gnew; simp only at hlt; omega), h.gnew, h.ne⟩
theorem StB.step {w0 w w' : World} {b g n : Nat} {x y : Nat → Nat} (h : StB w0 b g n x w) (hr : RowV w' g 24 n n (fun i => .float .f64 (y i))) (hf : Fr (fun k => k = g) w w') : StB w0 b g n y w' :=
  ⟨(hf.cell (block_lt_of_cell h.box) h.ne).trans h.box, hr, h.fr.trans' hf (fun k hk e => by have := h.gnew; omega), h.gnew, h.ne⟩

set_option maxRecDepth 100000 in
set_option maxHeartbeats 1000000 in
theorem binomial_at (w : World) {m p : Nat} (hm : m ≤ 16384) (hp : Prob (absW p)) : Calls Try.prog 39 #[.int .i64 m, .float .f64 p] w fun e w' =>
    ∃ (g : Nat) (x : Nat → Nat), e = .returned (.slice (some ⟨g, 0, none⟩) (m + 1) (m + 1)) ∧ RowV w' g 24 (m + 1) (m + 1) (fun i => .float .f64 (x i)) ∧ (∀ i, i < m + 1 → cls (x i) = wgt m (cls (absW p)) (kz m (absW p)) i) ∧ Same' w w' := by
  have hmk : ∀ w : World, (Instr.makeSlice 22 (.int .i64 ((m : Int) + 1)) (.int .i64 ((m : Int) + 1))).run Try.prog w = .ok (.slice (some ⟨w.heap.size, 0, none⟩) (m + 1) (m + 1)) (w.alloc (.cells (madeCells #[.float .f64 0] (m + 1)) 24)) :=
    run_make_row' (P := Try.prog) 22 24 (.float .f64 0) 8 Try.underlying22 info24 rfl .i64 .i64 (m + 1) (by omega) (by omega)
  have HA := fun w => hide (Abs_w w p)
  obtain ⟨p', hp'⟩ : ∃ p', p' = absW p := ⟨_, rfl⟩
  rw [← hp'] at hp HA ⊢
  clear hp'
  obtain ⟨z, hz⟩ : ∃ z, z = prodW m p' := ⟨_, rfl⟩
  obtain ⟨q1, q2, q3, q4⟩ := prob_prod hm hp
  have hk : kz m p' = min (trn z) m := by unfold kz; rw [hz]
  rw [← hz] at q1 q2 q3 q4
  obtain ⟨t, ht⟩ : ∃ t, t = trn z := ⟨_, rfl⟩
  rw [← ht] at hk q4
  have hmul : ∀ w, (binOp .mul 24 (.float .f64 (floatOfInt .f64 ((m : Int) + 1))) (.float .f64 p')).run Try.prog w = .ok (.float .f64 z) w := fun w => run_float_arith w .mul 24 .f64 _ _ _ q1
  have hcv : ∀ w, (convert 24 3 (.float .f64 z)).run Try.prog w = .ok (.int .i64 t) w := fun w => by
    refine run_convert_float_int w 24 3 .f64 .i64 _ _ (by kernel_rfl) (by kernel_rfl) ?_
    unfold floatToIntVal
    rw [toInt_trn q2 q3, ← ht]
    show (if IntKind.i64.min ≤ (t : Int) ∧ (t : Int) ≤ IntKind.i64.max then some (t : Int) else none) = _
    rw [if_pos ⟨by show (-9223372036854775808 : Int) ≤ _; omega, by show _ ≤ (9223372036854775807 : Int); omega⟩]
  obtain ⟨k, hkk⟩ : ∃ k, k = kz m p' := ⟨_, rfl⟩
  rw [← hkk] at hk
  have hkm : k ≤ m := by omega
  have HKK := hide hkk
  have HK := hide hk
  have hfirst : (if m < t then (m : Int) else (t : Int)) = k := by split <;> omega
  clear hk hkk hz q1 q2 q3 ht
  go_enter Try.func39, Try.ntmps39
  go_upto_region 3 with (go_at_call 48; refine (HA _).out.mono ?_; rintro e w' ⟨rfl, rfl⟩)
  have hB : StB w (w.heap.size + 1) w.heap.size (m + 1) (fun _ => 0) ((w.alloc (.cells (madeCells #[.float .f64 0] (m + 1)) 24)).alloc (.cells #[.slice (some ⟨w.heap.size, 0, none⟩) (m + 1) (m + 1)] 22)) := by
    refine ⟨?_, ((RowV.made w 24 (madeCells #[.float .f64 0] (m + 1)) (m + 1) (fun _ => .float .f64 0) (size_madeCells _ _) (by unfold maxLen; omega) (fun i hi => made_get _ _ i hi)).alloc _), ((Fr.refl _ w).alloc _).alloc _, Nat.le_refl _, by omega⟩
    simp
  go_cut [6] (fun s6 wx => s6 = .int .i64 k ∧ StB w (w.heap.size + 1) w.heap.size (m + 1) (fun _ => 0) wx)
  case first =>
    have HB := hide hB
    clear hB
    go_wp2_with fail
    go_meet
    exact ⟨rfl, HB.out⟩
  case rest =>
    clear hB hmul hcv hfirst hmk HA
    obtain ⟨rfl, hB⟩ := hcut
    obtain ⟨g, hg⟩ : ∃ g, g = w.heap.size := ⟨_, rfl⟩
    rw [← hg] at hB ⊢
    obtain ⟨b, hb⟩ : ∃ b, b = g + 1 := ⟨_, rfl⟩
    rw [← hb] at hB ⊢
    have HG := hide hg
    have HB' := hide hb
    clear hg hb
    have hbx := hB.box
    have hc1 := hB.row.cell k (by omega)
    have hf1 := hB.row.free k
    have hkm' : (k : Int) < m + 1 := by omega
    have HR := hide (hB.set k (by omega) one)
    clear hB
    go_wp2_with fail
    go_loopg [8] (m - k) (fun z i wr => ∃ (s : Nat) (x : Nat → Nat), s + z = m - k ∧ i = .int .i64 (k + s : Nat) ∧ StB w b g (m + 1) x wr ∧ (∀ j, cls (x j) = upW m (cls p') k s j))
    case atStart => exact ⟨0, _, by omega, rfl, HR.out, fun j => by by_cases e : j = k <;> simp [e, upW] <;> decide⟩
    case round =>
      clear HR hc1 hf1 hbx
      obtain ⟨s, x, hs, rfl, hB, hx⟩ := hrel
      obtain ⟨j, hj⟩ : ∃ j, j = k + s := ⟨_, rfl⟩
      rw [← hj]
      have HJ := hide hj
      have HX := hide hx
      have hjs : k + s = j := hj.symm
      clear hx hj
      by_cases hlt : j < m
      · have hd : decide (j < m) = true := by simpa using hlt
        go_wp2_with (refine wpList_arithK (StB w b g (m + 1) x) hB StB.drew rfl .sub 24 24 _ _ rfl (by simp) _ _ rfl rfl ?_)
        rintro r1 w1 hr1 hB1
        have H1 := hide hr1
        clear hr1 hB
        go_wp2_with (refine wpList_arithK (StB w b g (m + 1) x) hB1 StB.drew rfl .quo 24 24 _ _ rfl (by simp) _ _ rfl rfl ?_)
        rintro r2 w2 hr2 hB2
        have H2 := hide hr2
        clear hr2 hB1
        have C := hide (step_atI (odds := r2) (over := (m : Int) - j) (under := (j : Int) + 1) (ii := (j : Int)) (jj := (j : Int) + 1) hB2.box hB2.row (i := j) (j := j + 1) rfl (by omega) (by omega) (by omega))
        have HB := hide hB2
        clear hB2
        go_wp2_with (go_at_call 52; refine C.out.mono ?_; clear C; rintro e w3 ⟨r3, rfl, hr3, hR3, hf3⟩)
        have H3 := hide hr3
        have HB3 := hide (HB.out.step hR3 hf3)
        clear hr3 hR3 hf3 HB
        go_wp2_with fail
        go_roundg (gk - 1)
        case measure => omega
        case rel =>
          refine ⟨s + 1, _, by omega, by rw [← Nat.add_assoc, hjs]; go_num, HB3.out, fun i => ?_⟩
          have h1 := H1.out
          have h2 := H2.out
          have h3 := H3.out
          show cls (if i = j + 1 then r3 else x i) = stepU m (cls p') (k + s) (upW m (cls p') k s) i
          unfold stepU
          rw [hjs]
          by_cases e : i = j + 1
          · rw [if_pos e, if_pos e, h3, h2, h1, HX.out]; rfl
          · rw [if_neg e, if_neg e, HX.out]
      · have hd : decide (j < m) = false := by simpa using hlt
        have hsm : s = m - k := by omega
        have HB := hide hB
        clear hB HJ
        go_wp2_with fail
        go_loopg [9] k (fun z i wr => ∃ (s : Nat) (x : Nat → Nat), s + z = k ∧ i = .int .i64 (z : Nat) ∧ StB w b g (m + 1) x wr ∧ (∀ j, cls (x j) = dnW m (cls p') k s j))
        case atStart => exact ⟨0, _, by omega, rfl, HB.out, fun j => by rw [HX.out, hsm]; rfl⟩
        case round =>
          clear HB HX
          obtain ⟨s, x, hs, rfl, hB, hx⟩ := hrel
          obtain ⟨j, hj⟩ : ∃ j, j = gk := ⟨_, rfl⟩
          have hjs : k - s = j := by omega
          rw [← hj]
          have HJ := hide hj
          have HX := hide hx
          clear hx
          by_cases hlt : 0 < j
          · obtain ⟨i, rfl⟩ : ∃ i, j = i + 1 := ⟨j - 1, by omega⟩
            clear hj
            go_wp2_with (refine wpList_arithK (StB w b g (m + 1) x) hB StB.drew rfl .sub 24 24 _ _ rfl (by simp) _ _ rfl rfl ?_)
            rintro r1 w1 hr1 hB1
            have H1 := hide hr1
            clear hr1 hB
            go_wp2_with (refine wpList_arithK (StB w b g (m + 1) x) hB1 StB.drew rfl .quo 24 24 _ _ rfl (by simp) _ _ rfl rfl ?_)
            rintro r2 w2 hr2 hB2
            have H2 := hide hr2
            clear hr2 hB1
            have C := fun over under => hide (step_atI (odds := r2) (over := over) (under := under) (ii := (i : Int) + 1) (jj := (i : Int)) hB2.box hB2.row (i := i + 1) (j := i) rfl (by omega) (by omega) (by omega))
            have HB := hide hB2
            clear hB2
            go_wp2_with (go_at_call 52; refine (C _ _).out.mono ?_; clear C; rintro e w3 ⟨r3, rfl, hr3, hR3, hf3⟩)
            have H3 := hide hr3
            have HB3 := hide (HB.out.step hR3 hf3)
            clear hr3 hR3 hf3 HB
            go_wp2_with fail
            go_roundg (gk - 1)
            case measure => have := HJ.out; omega
            case rel =>
              refine ⟨s + 1, _, by omega, by (have := HJ.out; congr 1; omega), HB3.out, fun l => ?_⟩
              have h1 := H1.out
              have h2 := H2.out
              have h3 := H3.out
              show cls (if l = i then r3 else x l) = stepD m (cls p') (k - s) (dnW m (cls p') k s) l
              unfold stepD
              rw [hjs]
              by_cases e : l = i
              · rw [if_pos e, if_pos (by omega), h3, h2, h1, HX.out]; rfl
              · rw [if_neg e, if_neg (by omega), HX.out]
          · obtain rfl : j = 0 := by omega
            have hsk : s = k := by omega
            have hx' : ∀ j, cls (x j) = dnW m (cls p') k k j := fun j => by rw [HX.out, hsk]
            have hbx := hB.box
            have HB := hide hB
            have HX' := hide hx'
            clear hB HJ hj hjs HX hx'
            obtain ⟨F, hF⟩ : ∃ F, F = dnW m (cls p') k k := ⟨_, rfl⟩
            have hw : wgt m (cls p') k = fun j => fop .quo (F j) (sumW F (m + 1)) := by rw [hF]; rfl
            rw [← hF] at HX'
            have HW := hide hw
            clear hF hw
            go_wp2_with fail
            go_loopg [10, 72] (m + 1) (fun z sv i wr => ∃ (j y : Nat), j + z = m + 1 ∧ i = .int .i64 j ∧ sv = .float .f64 y ∧ cls y = sumW F j ∧ StB w b g (m + 1) x wr)
            case atStart => exact ⟨0, 0, by omega, rfl, rfl, rfl, HB.out⟩
            case round =>
              clear HB hbx
              obtain ⟨j, y, hj, rfl, rfl, hy, hB⟩ := hrel
              have HY := hide hy
              have HJ := hide hj
              clear hy
              by_cases hlt : j < m + 1
              · have hd : decide ((j : Int) < m + 1) = true := by simp; omega
                have hd2 : decide (j ≤ m) = true := by simp; omega
                have hd3 : decide (j < m + 1) = true := by simp; omega
                have hc := hB.row.cell j (by omega)
                have hi : (j : Int) < m + 1 := by omega
                clear hj
                go_wp2_with (refine wpList_arithK (StB w b g (m + 1) x) hB StB.drew rfl .add 24 24 _ _ rfl (by simp) _ _ rfl rfl ?_)
                rintro r1 w1 hr1 hB1
                have H1 := hide hr1
                have HB := hide hB1
                clear hr1 hB hB1
                go_wp2_with fail
                go_roundg (gk - 1)
                case measure => have := HJ.out; omega
                case rel => exact ⟨j + 1, r1, by have := HJ.out; omega, by go_num, rfl, by rw [H1.out, HY.out, HX'.out]; rfl, HB.out⟩
              · have hd : decide ((j : Int) < m + 1) = false := by simp; omega
                have hd2 : decide (j ≤ m) = false := by simp; omega
                have hd3 : decide (j < m + 1) = false := by simp; omega
                have hj1 : j = m + 1 := by omega
                have hy2 : cls y = sumW F (m + 1) := by rw [HY.out, hj1]
                have HY2 := hide hy2
                have hbx := hB.box
                have HB := hide hB
                clear hj HJ HY hj1 hB hy2
                go_wp2_with fail
                go_loopg [82] (m + 1) (fun z i wr => ∃ (j : Nat) (x' : Nat → Nat), j + z = m + 1 ∧ i = .int .i64 j ∧ StB w b g (m + 1) x' wr ∧ ∀ l, cls (x' l) = if l < j then fop .quo (F l) (sumW F (m + 1)) else F l)
                case atStart => exact ⟨0, x, by omega, rfl, HB.out, fun l => by rw [if_neg (by omega), HX'.out]⟩
                case round =>
                  clear HB HX' hbx
                  obtain ⟨i, x', hi, rfl, hB, hx⟩ := hrel
                  have HX := hide hx
                  have HI := hide hi
                  clear hx
                  by_cases hlt2 : i < m + 1
                  · have hd4 : decide ((i : Int) < m + 1) = true := by simp; omega
                    have hd5 : decide (i ≤ m) = true := by simp; omega
                    have hd6 : decide (i < m + 1) = true := by simp; omega
                    have hc := hB.row.cell i (by omega)
                    have hbx := hB.box
                    have hi2 : (i : Int) < m + 1 := by omega
                    clear hi
                    go_wp2_with (refine wpList_arithK (StB w b g (m + 1) x') hB StB.drew rfl .quo 24 24 _ _ rfl (by simp) _ _ rfl rfl ?_)
                    rintro r1 w1 hr1 hB1
                    have H1 := hide hr1
                    have hc1 := hB1.row.cell i (by omega)
                    have hz1 := hB1.row.free i
                    have HB := hide hB1
                    clear hr1 hB hB1 hbx
                    go_wp2_with fail
                    go_roundg (gk - 1)
                    case measure => have := HI.out; omega
                    case rel =>
                      refine ⟨i + 1, _, by have := HI.out; omega, by go_num, HB.out.set i (by omega) r1, fun l => ?_⟩
                      show cls (if l = i then r1 else x' l) = _
                      by_cases e : l = i
                      · rw [if_pos e, if_pos (by omega), H1.out, HX.out, if_neg (by omega), HY2.out, e]
                      · rw [if_neg e, HX.out]
                        by_cases e2 : l < i
                        · rw [if_pos e2, if_pos (by omega)]
                        · rw [if_neg e2, if_neg (by omega)]
                  · have hd4 : decide ((i : Int) < m + 1) = false := by simp; omega
                    have hd5 : decide (i ≤ m) = false := by simp; omega
                    have hd6 : decide (i < m + 1) = false := by simp; omega
                    have hbx := hB.box
                    have HB := hide hB
                    have hi1 : i = m + 1 := by omega
                    have HI1 := hide hi1
                    clear hi HI hi1 hB
                    go_wp2_with fail
                    go_ret
                    exact ⟨g, x', rfl, HB.out.row, fun l hl => by rw [HX.out, if_pos (by have := HI1.out; omega), ← HKK.out, HW.out], HB.out.fr⟩
end Go.Proofs.Ytneidejngbokcaa
