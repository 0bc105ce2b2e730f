/- Walks: the document's weights. -/
import Derived.Test.YtneidejngbokcaaC1
import Derived.Outline
import Derived.Deep.DeepCutAuto
namespace Go.Proofs.Ytneidejngbokcaa
open Go.RowKit

@[go_sem] theorem run_store_float (P : Program) (w : World) (a : Addr) (m : Mode) (k : FloatKind) (n : Nat) : (store a (.float k n) m).run P w = stored P w a (.float k n) m := run_store P w a _ m rfl

theorem info24 : (Try.prog.info? 24).map (fun i => (i.zero, i.size, i.bytes)) = some (some (.float .f64 0), 1, 8) := by kernel_rfl

theorem made_get (z : Value) (n i : Nat) (hi : i < n) : (madeCells #[z] n)[i]? = some z := by
  have h := toList_madeCells_one z n
  rw [← Array.getElem?_toList, h]
  simp [hi]

/-- An operation on floats, where what is known of memory abides a draw. -/
theorem wpList_arithK {P : Program} (I : World → Prop) {w : World} (hI : I w) (hd : ∀ w, I w → I w.drew) {ops : Array Oper} {rest : List Oper} {o : Oper} {a : Act} {Q : Exit → Act → World → Prop} (hgd : o.guard = none) (op : BinOp) (t t2 : TypeId) (xo yo : Operand)
    (ho : o.op = .binOp op t xo yo t2) (hop : op = .add ∨ op = .sub ∨ op = .mul ∨ op = .quo) (x y : Nat) (hx : a.eval xo = .float .f64 x) (hy : a.eval yo = .float .f64 y)
    (h : ∀ r w', cls r = fop op (cls x) (cls y) → I w' → wpList P ops Q rest (a.put o.dst (.float .f64 r)) w') : wpList P ops Q (o :: rest) a w :=
  wpList_arith w hgd op t t2 xo yo ho hop x y hx hy fun r w' hr hw => h r w' hr (by rcases hw with rfl | rfl; exact hI; exact hd _ hI)

/-- A row of floats, and nothing old has changed. -/
def RowF (w0 : World) (g n : Nat) (x : Nat → Nat) (w : World) : Prop := RowV w g 24 n n (fun i => .float .f64 (x i)) ∧ Same' w0 w
theorem RowF.drew {w0 : World} {g n : Nat} {x : Nat → Nat} (w : World) (h : RowF w0 g n x w) : RowF w0 g n x w.drew := ⟨h.1.of_block rfl, h.2.to rfl rfl rfl rfl⟩
theorem RowF.set {w0 w : World} {g n : Nat} {x : Nat → Nat} (h : RowF w0 g n x w) (hg : w0.heap.size ≤ g) (i : Nat) (hi : i < n) (v : Nat) : RowF w0 g n (fun j => if j = i then v else x j) (w.setCell ⟨g, i, none⟩ (.float .f64 v)) :=
  ⟨(h.1.set i hi _).congr (fun j _ => by by_cases e : j = i <;> simp [e]), h.2.setCell _ _ (fun hlt => by simp only at hlt; omega)⟩

theorem one_V : V one = U ∧ Fin' one := by
  have h : flI 1 = one := by decide +kernel
  have := flI_V (n := 1) (by decide) (by decide)
  rw [h, Int.one_mul] at this
  exact this

/-- A word that is a probability. -/
structure Prob (p : Nat) : Prop where
  fin : Fin' p
  lo : 0 ≤ R p
  hi : R p ≤ R one

theorem prob_prod {m p : Nat} (hm : m ≤ 16384) (hp : Prob p) : floatBits .mul .f64 (flI ((m : Int) + 1)) p = some (prodW m p) ∧ Fin' (prodW m p) ∧ 0 ≤ R (prodW m p) ∧ trn (prodW m p) ≤ m + 1 := by
  obtain ⟨va, fa⟩ := flI_V (n := (m : Int) + 1) (by omega) (by omega)
  obtain ⟨z, hz, hr⟩ := mul_rnd fa hp.fin
  have hw : prodW m p = z := by unfold prodW; rw [hz]; rfl
  have hu := U_pos
  have hmu : 0 ≤ ((m : Int) + 1) * U := Int.mul_nonneg (by omega) (by omega)
  have r1 := fin_R fa
  have l1 : 0 ≤ V p := V_nonneg_iff.2 hp.lo
  have l2 : V p ≤ U := by rw [← one_V.1]; exact V_le_iff.2 hp.hi
  have up := (hr (R (flI ((m : Int) + 1))) (by omega) (by omega)).1 (by
    show _ ≤ V _ * U
    rw [va]; exact Int.mul_le_mul_of_nonneg_left l2 hmu)
  have dn := (hr 0 (by unfold inf; omega) (by unfold inf; omega)).2 (by
    rw [mgI_zero, Int.zero_mul, va]; exact Int.mul_nonneg hmu l1)
  rw [hw]
  refine ⟨hz, fin_of (by omega) (by omega), dn, ?_⟩
  have := V_le_iff.2 up
  rw [va] at this
  unfold trn
  have : V z / U ≤ (m : Int) + 1 := by
    have h := Int.ediv_le_ediv hu this
    rwa [Int.mul_ediv_cancel _ (by omega)] at h
  omega

set_option maxRecDepth 100000 in
set_option maxHeartbeats 1000000 in
theorem weights_at (w : World) {m p : Nat} (hm : m ≤ 16384) (hp : Prob p) : Calls Try.prog 57 #[.int .i64 m, .float .f64 p] w fun e w' =>
    ∃ (g : Nat) (x : Nat → Nat), e = .returned (.slice (some ⟨g, 0, none⟩) (m + 1) (m + 1)) ∧ w.heap.size ≤ g ∧ RowV w' g 24 (m + 1) (m + 1) (fun i => .float .f64 (x i)) ∧ (∀ i, i < m + 1 → cls (x i) = wgt m (cls p) (kz m p) i) ∧ Same' w w' := by
  have hmk : ∀ w : World, (Instr.makeSlice 22 (.int .i64 ((m : Int) + 1)) (.int .i64 ((m : Int) + 1))).run Try.prog w = .ok (.slice (some ⟨w.heap.size, 0, none⟩) (m + 1) (m + 1)) (w.alloc (.cells (madeCells #[.float .f64 0] (m + 1)) 24)) :=
    run_make_row' (P := Try.prog) 22 24 (.float .f64 0) 8 Try.underlying22 info24 rfl .i64 .i64 (m + 1) (by omega) (by omega)
  obtain ⟨z, hz⟩ : ∃ z, z = prodW m p := ⟨_, rfl⟩
  obtain ⟨q1, q2, q3, q4⟩ := prob_prod hm hp
  have hk : kz m p = min (trn z) m := by unfold kz; rw [hz]
  rw [← hz] at q1 q2 q3 q4
  obtain ⟨f1, f2, f3⟩ := flr_trn q2 q3 (by omega)
  obtain ⟨t, ht⟩ : ∃ t, t = trn z := ⟨_, rfl⟩
  rw [← ht] at hk f3 q4
  have hmul : ∀ w, (binOp .mul 24 (.float .f64 (floatOfInt .f64 ((m : Int) + 1))) (.float .f64 p)).run Try.prog w = .ok (.float .f64 z) w := fun w => run_float_arith w .mul 24 .f64 _ _ _ q1
  have hcv : ∀ w, (convert 24 3 (.float .f64 (flr z))).run Try.prog w = .ok (.int .i64 t) w := fun w => by
    refine run_convert_float_int w 24 3 .f64 .i64 _ _ (by kernel_rfl) (by kernel_rfl) ?_
    unfold floatToIntVal
    rw [toInt_trn f1 f2, f3]
    show (if IntKind.i64.min ≤ (t : Int) ∧ (t : Int) ≤ IntKind.i64.max then some (t : Int) else none) = _
    rw [if_pos ⟨by show (-9223372036854775808 : Int) ≤ _; omega, by show _ ≤ (9223372036854775807 : Int); omega⟩]
  have hn := fin_nn q2
  obtain ⟨k, hkk⟩ : ∃ k, k = kz m p := ⟨_, rfl⟩
  rw [← hkk] at hk
  have hkm : k ≤ m := by omega
  have HKK := hide hkk
  have HK := hide hk
  clear hk hkk hz q1 q2 q3 f1 f2 f3 ht
  go_enter Try.func57, Try.ntmps57
  go_upto_if 31 with (go_at_call 65; refine (Floor_at _ _ hn).mono ?_; rintro e w' ⟨rfl, rfl⟩)
  go_cut [6] (fun s6 wx => s6 = .int .i64 k ∧ wx = w)
  case first =>
    go_wp2_with fail
    all_goals
      go_meet
      have hk := HK.out
      refine ⟨?_, rfl⟩
      (congr 1; omega)
  case rest =>
    obtain ⟨rfl, hw⟩ := hcut
    obtain rfl : w = wc := hw.symm
    clear hw
    clear hmul hcv hn HK q4
    obtain ⟨g, hg⟩ : ∃ g, g = w.heap.size := ⟨_, rfl⟩
    have HG := hide hg
    clear hg
    have hR0 := RowV.made w 24 (madeCells #[.float .f64 0] (m + 1)) (m + 1) (fun _ => .float .f64 0) (size_madeCells _ _) (by unfold maxLen; omega) (fun i hi => made_get _ _ i hi)
    have hf0 := (Fr.refl (fun _ => False) w).alloc (.cells (madeCells #[.float .f64 0] (m + 1)) 24)
    go_upto_region 5 with fail
    go_cut [7] (fun s7 wx => s7 = .slice (some ⟨g, 0, none⟩) (m + 1) (m + 1) ∧ RowF w g (m + 1) (fun _ => 0) wx)
    case first =>
      rw [← HG.out] at hR0
      go_wp2_with fail
      go_meet
      exact ⟨by rw [HG.out], hR0, hf0⟩
    case rest =>
    have hgw : w.heap.size ≤ g := by rw [HG.out]; exact Nat.le_refl _
    clear hmk hR0 hf0 HG
    obtain ⟨rfl, hRF⟩ := hcut
    have hc1 := hRF.1.cell k (by omega)
    have hf1 := hRF.1.free k
    have hkm' : (k : Int) < m + 1 := by omega
    have HR := hide (hRF.set hgw k (by omega) one)
    clear hRF
    go_wp2_with fail
    go_loopg [8] (m - k) (fun z i wr => ∃ (s : Nat) (x : Nat → Nat), s + z = m - k ∧ i = .int .i64 (k + s : Nat) ∧ RowF w g (m + 1) x wr ∧ (∀ j, cls (x j) = upW m (cls p) k s j))
    case atStart => exact ⟨0, _, by omega, rfl, HR.out, fun j => by by_cases e : j = k <;> simp [e, upW] <;> decide⟩
    case round =>
      clear HR hc1 hf1
      obtain ⟨s, x, hs, rfl, hRF, hx⟩ := hrel
      obtain ⟨j, hj⟩ : ∃ j, j = k + s := ⟨_, rfl⟩
      rw [← hj]
      have HJ := hide hj
      have HX := hide hx
      have hjs : k + s = j := hj.symm
      clear hx hj
      by_cases hlt : j < m
      · have hd : decide (j < m) = true := by simpa using hlt
        go_wp2_with (refine wpList_arithK (RowF w g (m + 1) x) hRF RowF.drew rfl .quo 24 24 _ _ rfl (by simp) _ _ rfl rfl ?_)
        rintro r1 w1 hr1 hRF1
        have hc := hRF1.1.cell j (by omega)
        have hi : (j : Int) < m + 1 := by omega
        have H1 := hide hr1
        clear hr1 hRF
        go_wp2_with (refine wpList_arithK (RowF w g (m + 1) x) hRF1 RowF.drew rfl .mul 24 24 _ _ rfl (by simp) _ _ rfl rfl ?_)
        rintro r2 w2 hr2 hRF2
        have H2 := hide hr2
        clear hr2 hRF1 hc
        go_wp2_with (refine wpList_arithK (RowF w g (m + 1) x) hRF2 RowF.drew rfl .sub 24 24 _ _ rfl (by simp) _ _ rfl rfl ?_)
        rintro r3 w3 hr3 hRF3
        have H3 := hide hr3
        clear hr3 hRF2
        go_wp2_with (refine wpList_arithK (RowF w g (m + 1) x) hRF3 RowF.drew rfl .quo 24 24 _ _ rfl (by simp) _ _ rfl rfl ?_)
        rintro r4 w4 hr4 hRF4
        have H4 := hide hr4
        clear hr4 hRF3
        go_wp2_with (refine wpList_arithK (RowF w g (m + 1) x) hRF4 RowF.drew rfl .mul 24 24 _ _ rfl (by simp) _ _ rfl rfl ?_)
        rintro r5 w5 hr5 hRF5
        have H5 := hide hr5
        clear hr5 hRF4
        have hc := hRF5.1.cell (j + 1) (by omega)
        have hz := hRF5.1.free (j + 1)
        have hi2 : (j : Int) < m := by omega
        have HRF := hide hRF5
        clear hRF5
        go_wp2_with fail
        go_roundg (gk - 1)
        case measure => omega
        case rel =>
          refine ⟨s + 1, _, by omega, by rw [← Nat.add_assoc, hjs]; go_num, HRF.out.set hgw (j + 1) (by omega) r5, fun i => ?_⟩
          have h1 := H1.out
          have h2 := H2.out
          have h3 := H3.out
          have h4 := H4.out
          have h5 := H5.out
          rw [cls_flI, cls_flI] at h1
          show cls (if i = j + 1 then r5 else x i) = stepU m (cls p) (k + s) (upW m (cls p) k s) i
          unfold stepU
          rw [hjs]
          by_cases e : i = j + 1
          · rw [if_pos e, if_pos e, h5, h4, h3, h2, h1, HX.out]; rfl
          · rw [if_neg e, if_neg e, HX.out]
      · have hd : decide (j < m) = false := by simpa using hlt
        have hsm : s = m - k := by omega
        have HRF := hide hRF
        clear hRF HJ
        go_wp2_with fail
        go_loopg [13] k (fun z i wr => ∃ (s : Nat) (x : Nat → Nat), s + z = k ∧ i = .int .i64 (z : Nat) ∧ RowF w g (m + 1) x wr ∧ (∀ j, cls (x j) = dnW m (cls p) k s j))
        case atStart => exact ⟨0, _, by omega, rfl, HRF.out, fun j => by rw [HX.out, hsm]; rfl⟩
        case round =>
          clear HRF HX
          obtain ⟨s, x, hs, rfl, hRF, hx⟩ := hrel
          obtain ⟨j, hj⟩ : ∃ j, j = gk := ⟨_, rfl⟩
          have hjs : k - s = j := by omega
          rw [← hj]
          have HJ := hide hj
          have HX := hide hx
          clear hx
          by_cases hlt : 0 < j
          · obtain ⟨i, rfl⟩ : ∃ i, j = i + 1 := ⟨j - 1, by omega⟩
            clear hj
            go_wp2_with (refine wpList_arithK (RowF w g (m + 1) x) hRF RowF.drew rfl .quo 24 24 _ _ rfl (by simp) _ _ rfl rfl ?_)
            rintro r1 w1 hr1 hRF1
            have hc := hRF1.1.cell (i + 1) (by omega)
            have hi : (i : Int) + 1 < m + 1 := by omega
            have H1 := hide hr1
            clear hr1 hRF
            go_wp2_with (refine wpList_arithK (RowF w g (m + 1) x) hRF1 RowF.drew rfl .mul 24 24 _ _ rfl (by simp) _ _ rfl rfl ?_)
            rintro r2 w2 hr2 hRF2
            have H2 := hide hr2
            clear hr2 hRF1 hc
            go_wp2_with (refine wpList_arithK (RowF w g (m + 1) x) hRF2 RowF.drew rfl .sub 24 24 _ _ rfl (by simp) _ _ rfl rfl ?_)
            rintro r3 w3 hr3 hRF3
            have H3 := hide hr3
            clear hr3 hRF2
            go_wp2_with (refine wpList_arithK (RowF w g (m + 1) x) hRF3 RowF.drew rfl .quo 24 24 _ _ rfl (by simp) _ _ rfl rfl ?_)
            rintro r4 w4 hr4 hRF4
            have H4 := hide hr4
            clear hr4 hRF3
            go_wp2_with (refine wpList_arithK (RowF w g (m + 1) x) hRF4 RowF.drew rfl .mul 24 24 _ _ rfl (by simp) _ _ rfl rfl ?_)
            rintro r5 w5 hr5 hRF5
            have H5 := hide hr5
            clear hr5 hRF4
            have hc := hRF5.1.cell i (by omega)
            have hz := hRF5.1.free i
            have hi2 : (i : Int) < m + 1 := by omega
            have HRF := hide hRF5
            clear hRF5
            go_wp2_with fail
            go_roundg (gk - 1)
            case measure => have := HJ.out; omega
            case rel =>
              refine ⟨s + 1, _, by omega, by (have := HJ.out; congr 1; omega), HRF.out.set hgw i (by omega) r5, fun l => ?_⟩
              have h1 := H1.out
              have h2 := H2.out
              have h3 := H3.out
              have h4 := H4.out
              have h5 := H5.out
              show cls (if l = i then r5 else x l) = stepD m (cls p) (k - s) (dnW m (cls p) k s) l
              unfold stepD
              rw [hjs]
              by_cases e : l = i
              · rw [if_pos e, if_pos (by omega), h5, h4, h3, h2, h1, HX.out]
                simp only [cls_flI]
                rfl
              · rw [if_neg e, if_neg (by omega), HX.out]
          · obtain rfl : j = 0 := by omega
            have hsk : s = k := by omega
            have HRF := hide hRF
            have hx' : ∀ j, cls (x j) = dnW m (cls p) k k j := fun j => by rw [HX.out, hsk]
            have HX' := hide hx'
            clear hRF HJ hj hjs HX hx'
            obtain ⟨F, hF⟩ : ∃ F, F = dnW m (cls p) k k := ⟨_, rfl⟩
            have hw : wgt m (cls p) k = fun j => fop .quo (F j) (sumW F (m + 1)) := by rw [hF]; rfl
            rw [← hF] at HX'
            have HW := hide hw
            clear hF hw
            go_wp2_with fail
            go_loopg [18, 19] (m + 1) (fun z sv i wr => ∃ (j y : Nat), j + z = m + 1 ∧ i = .int .i64 j ∧ sv = .float .f64 y ∧ cls y = sumW F j ∧ RowF w g (m + 1) x wr)
            case atStart => exact ⟨0, 0, by omega, rfl, rfl, rfl, HRF.out⟩
            case round =>
              clear HRF
              obtain ⟨j, y, hj, rfl, rfl, hy, hRF⟩ := hrel
              have HY := hide hy
              have HJ := hide hj
              clear hy
              by_cases hlt : j ≤ m
              · have hd : decide (j ≤ m) = true := by simpa using hlt
                have hc := hRF.1.cell j (by omega)
                have hi : (j : Int) < m + 1 := by omega
                clear hj
                go_wp2_with (refine wpList_arithK (RowF w g (m + 1) x) hRF RowF.drew rfl .add 24 24 _ _ rfl (by simp) _ _ rfl rfl ?_)
                rintro r1 w1 hr1 hRF1
                have H1 := hide hr1
                have HRF := hide hRF1
                clear hr1 hRF hRF1
                go_wp2_with fail
                go_roundg (gk - 1)
                case measure => have := HJ.out; omega
                case rel => exact ⟨j + 1, r1, by have := HJ.out; omega, by go_num, rfl, by rw [H1.out, HY.out, HX'.out]; rfl, HRF.out⟩
              · have hd : decide (j ≤ m) = false := by simpa using hlt
                have hj1 : j = m + 1 := by omega
                have hy2 : cls y = sumW F (m + 1) := by rw [HY.out, hj1]
                have HY2 := hide hy2
                have HRF := hide hRF
                clear hj HJ HY hj1 hRF hy2
                go_wp2_with fail
                go_loopg [20] (m + 1) (fun z i wr => ∃ (j : Nat) (x' : Nat → Nat), j + z = m + 1 ∧ i = .int .i64 j ∧ RowF w g (m + 1) x' wr ∧ ∀ l, cls (x' l) = if l < j then fop .quo (F l) (sumW F (m + 1)) else F l)
                case atStart => exact ⟨0, x, by omega, rfl, HRF.out, fun l => by rw [if_neg (by omega), HX'.out]⟩
                case round =>
                  clear HRF HX'
                  obtain ⟨i, x', hi, rfl, hRF, hx⟩ := hrel
                  have HX := hide hx
                  have HI := hide hi
                  clear hx
                  by_cases hlt2 : i ≤ m
                  · have hd2 : decide (i ≤ m) = true := by simpa using hlt2
                    have hc := hRF.1.cell i (by omega)
                    have hi2 : (i : Int) < m + 1 := by omega
                    clear hi
                    go_wp2_with (refine wpList_arithK (RowF w g (m + 1) x') hRF RowF.drew rfl .quo 24 24 _ _ rfl (by simp) _ _ rfl rfl ?_)
                    rintro r1 w1 hr1 hRF1
                    have H1 := hide hr1
                    have hc1 := hRF1.1.cell i (by omega)
                    have hz1 := hRF1.1.free i
                    have HRF := hide hRF1
                    clear hr1 hRF hRF1
                    go_wp2_with fail
                    go_roundg (gk - 1)
                    case measure => have := HI.out; omega
                    case rel =>
                      refine ⟨i + 1, _, by have := HI.out; omega, by go_num, HRF.out.set hgw i (by omega) r1, fun l => ?_⟩
                      show cls (if l = i then r1 else x' l) = _
                      by_cases e : l = i
                      · rw [if_pos e, if_pos (by omega), H1.out, HX.out, if_neg (by omega), HY2.out, e]
                      · rw [if_neg e, HX.out]
                        by_cases e2 : l < i
                        · rw [if_pos e2, if_pos (by omega)]
                        · rw [if_neg e2, if_neg (by omega)]
                  · have hd2 : decide (i ≤ m) = false := by simpa using hlt2
                    have HRF := hide hRF
                    clear hRF
                    have hi1 : i = m + 1 := by omega
                    have HI1 := hide hi1
                    clear hi HI hi1
                    go_wp2_with fail
                    go_ret
                    exact ⟨g, x', rfl, hgw, HRF.out.1, fun l hl => by rw [HX.out, if_pos (by have := HI1.out; omega), ← HKK.out, HW.out], HRF.out.2⟩
end Go.Proofs.Ytneidejngbokcaa
