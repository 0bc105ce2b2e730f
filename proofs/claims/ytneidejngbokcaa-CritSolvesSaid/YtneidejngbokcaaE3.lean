/- Walks: the document's Solve; the law CritSolves. -/
import Derived.Test.YtneidejngbokcaaE2
namespace Go.Proofs.Ytneidejngbokcaa
open Go.RowKit

theorem solR_bad {n : Nat} {f : Nat → Nat} {t : Nat} (h : (valB n f && numB t) = false) : solR n f t = (0, 2) := by unfold solR; rw [if_neg (by rw [h]; simp)]
theorem solR_un {n : Nat} {f : Nat → Nat} {t : Nat} (h : valB n f = true) (h2 : numB t = true) (h3 : srtB n f = false) : solR n f t = (0, 8) := by unfold solR; rw [if_pos (by rw [h, h2]; rfl), if_neg (by rw [h3]; simp)]
theorem solR_none {n : Nat} {f : Nat → Nat} {t : Nat} (h : valB n f = true) (h2 : numB t = true) (h3 : srtB n f = true) (h4 : ordr t (f 0) = some .lt ∨ ordr t (f (n - 1)) = some .gt) : solR n f t = (0, 5) := by unfold solR; rw [if_pos (by rw [h, h2]; rfl), if_pos h3, if_pos h4]
theorem solR_ok {n : Nat} {f : Nat → Nat} {t : Nat} (h : valB n f = true) (h2 : numB t = true) (h3 : srtB n f = true) (h4 : ¬ (ordr t (f 0) = some .lt ∨ ordr t (f (n - 1)) = some .gt)) : solR n f t = ((bsS n (fun i => cls (f i)) (cls t) 60).2, 0) := by unfold solR; rw [if_pos (by rw [h, h2]; rfl), if_pos h3, if_neg h4]

set_option maxRecDepth 100000 in
set_option maxHeartbeats 2000000 in
theorem Solve18_at {w : World} {ao : Option Addr} {n : Nat} (c : Nat) {f : Nat → Nat} (h : FlAt w ao n f) (t : Nat) :
    Calls Try.prog 18 #[.slice ao n c, .float .f64 t] w fun e w' => e = .returned (.tuple #[.float .f64 (solR n f t).1, .int .i64 (solR n f t).2]) ∧ Same' w w' := by
  have C := values_at c h
  have HL := hide h
  have D := number_at w t
  cases hv : valB n f with
  | false =>
    rw [hv] at C
    rw [solR_bad (by rw [hv]; rfl)]
    have C' := hide C
    clear h hv C D
    go_enter Try.func18, Try.ntmps18
    go_wp2_with (go_at_call 31; refine C'.out.mono ?_; clear C'; rintro e w2 ⟨rfl, rfl⟩)
    go_ret2
    exact ⟨rfl, Fr.refl _ _⟩
  | true =>
    rw [hv] at C
    cases ht : numB t with
    | false =>
      rw [ht] at D
      rw [solR_bad (by rw [hv, ht]; rfl)]
      have C' := hide C
      have D' := hide D
      clear h hv ht C D
      go_enter Try.func18, Try.ntmps18
      go_wp2_with (first
        | (go_at_call 31; refine C'.out.mono ?_; clear C'; rintro e w2 ⟨rfl, rfl⟩)
        | (go_at_call 35; refine D'.out.mono ?_; clear D'; rintro e w3 ⟨rfl, rfl⟩))
      go_ret2
      exact ⟨rfl, Fr.refl _ _⟩
    | true =>
      rw [ht] at D
      obtain ⟨hn1, hn2, hall⟩ := valB_get hv
      have HV := hide hv
      have HT := hide ht
      have C' := hide C
      have D' := hide D
      obtain ⟨R0, hR0⟩ : ∃ R0, R0 = solR n f t := ⟨_, rfl⟩
      rw [← hR0]
      have HR := hide hR0
      clear h hv ht C D hall hR0
      go_enter Try.func18, Try.ntmps18
      go_wp2_with (first
        | (go_at_call 31; refine C'.out.mono ?_; clear C'; rintro e w2 ⟨rfl, rfl⟩)
        | (go_at_call 35; refine D'.out.mono ?_; clear D'; rintro e w3 ⟨rfl, rfl⟩))
      go_loopg [6] n (fun z i wr => ∃ j : Nat, j + z = n + 1 ∧ 1 ≤ j ∧ j ≤ n ∧ i = .int .i64 j ∧ (∀ i, i + 1 < j → ordr (f (i + 1)) (f i) ≠ some .lt) ∧ Same' w wr)
      case atStart => exact ⟨1, by omega, by omega, hn1, rfl, fun i hi => by omega, Fr.refl _ _⟩
      case round =>
        obtain ⟨j, hj, hj1, hjn, rfl, hall, hf⟩ := hrel
        have HA := hide hall
        have HJ := hide hj
        clear hall hj
        by_cases hlt : j < n
        · have hd : decide (j < n) = true := by simpa using hlt
          obtain ⟨i, hij⟩ : ∃ i, j = i + 1 := ⟨j - 1, by omega⟩
          obtain ⟨b1, rfl, e1⟩ := (HL.out.keep hf) j (by omega)
          obtain ⟨b2, hb2, e2⟩ := (HL.out.keep hf) i (by omega)
          simp only [Option.some.injEq] at hb2
          subst hb2
          have hi : (j : Int) < n := by omega
          have hi4 : (i : Int) < n := by omega
          have hi0 : (0 : Int) ≤ i := by omega
          have hi2 : (0 : Int) ≤ (j : Int) := by omega
          have HIJ := hide hij
          have hw1 : IntKind.i64.wrap ((j : Int) - 1) = i := by
            rw [show (j : Int) - 1 = i by omega]
            exact IntWalk.i64_in _ (by omega)
          clear hij
          by_cases hb : FloatKind.f64.format.order (f j) (f i) = some .lt
          · have HB : Hid (ordr (f j) (f i) = some .lt) := hb
            go_wp2_with fail
            go_quiet (fail)
            go_wp2_with fail
            clear hw1
            go_ret2
            have h2 := HIJ.out
            have h3 := HB.out
            subst h2
            have hR := HR.out
            rw [solR_un HV.out HT.out (srtB_bad (i := i) (by omega) h3)] at hR
            subst hR
            exact ⟨rfl, hf.trans (same_drewN _ _)⟩
          · have hbb : (FloatKind.f64.format.order (f j) (f i) == some Ordering.lt) = false := beq_eq_false_iff_ne.2 hb
            have HB : Hid (¬ ordr (f j) (f i) = some .lt) := hb
            clear hb
            go_wp2_with fail
            go_quiet (fail)
            go_wp2_with fail
            clear hw1
            go_roundg (gk - 1)
            case measure => have := HJ.out; omega
            case rel =>
              refine ⟨j + 1, by have := HJ.out; omega, by omega, by omega, by go_num, fun l hl => ?_, hf.trans (same_drewN _ _)⟩
              have h2 := HIJ.out
              by_cases e : l = i
              · subst e; subst h2; exact HB.out
              · exact HA.out l (by omega)
        · have hd : decide (j < n) = false := by simpa using hlt
          have hjn' : j = n := by omega
          have hsr : srtB n f = true := srtB_ok fun i hi => HA.out i (by omega)
          have HS := hide hsr
          clear hsr HA HJ hj1 hjn hlt
          obtain ⟨m, rfl⟩ : ∃ m, n = m + 1 := ⟨n - 1, by omega⟩
          have hd1 : decide (j ≤ m) = false := by simp; omega
          have hd2 : decide ((j : Int) < m + 1) = false := by simp; omega
          clear hjn'
          have hi0 : (0 : Int) < m + 1 := by omega
          have hi1 : (m : Int) < m + 1 := by omega
          obtain ⟨a1, rfl, e1⟩ := (HL.out.keep hf) 0 (by omega)
          obtain ⟨a2, ha2, e2⟩ := (HL.out.keep hf) m (by omega)
          simp only [Option.some.injEq] at ha2
          subst ha2
          rw [show a1.add 0 = a1 by cases a1; simp [Addr.add]] at e1
          by_cases hlo : ordr t (f 0) = some .lt
          · have ho : FloatKind.f64.format.order t (f 0) = some .lt := hlo
            have hR := HR.out
            rw [solR_none HV.out HT.out HS.out (.inl hlo)] at hR
            subst hR
            clear hlo
            go_wp2_with fail
            go_ret2
            exact ⟨rfl, hf⟩
          · have hob : (FloatKind.f64.format.order t (f 0) == some Ordering.lt) = false := beq_eq_false_iff_ne.2 hlo
            by_cases hhi : ordr t (f m) = some .gt
            · have ho : FloatKind.f64.format.order t (f m) = some .gt := hhi
              have hR := HR.out
              rw [solR_none HV.out HT.out HS.out (.inr hhi)] at hR
              subst hR
              clear hlo hhi
              go_wp2_with fail
              go_ret2
              exact ⟨rfl, hf⟩
            · have hob2 : (FloatKind.f64.format.order t (f m) == some Ordering.gt) = false := beq_eq_false_iff_ne.2 hhi
              have hR := HR.out
              rw [solR_ok HV.out HT.out HS.out (by rintro (h | h); exact hlo h; exact hhi h)] at hR
              subst hR
              have HF := hide hf
              clear hlo hhi HR hf
              go_wp2_with fail
              clear e1 e2 hob hob2
              go_loopg [7, 8, 9] 60 (fun z l h i w6 => ∃ k : Nat, k + z = 60 ∧ i = .int .i64 k ∧ l = .float .f64 (bsS (m + 1) (fun i => cls (f i)) (cls t) k).1 ∧ h = .float .f64 (bsS (m + 1) (fun i => cls (f i)) (cls t) k).2 ∧ Same' wr w6)
              case atStart => exact ⟨0, by omega, rfl, rfl, rfl, Fr.refl _ _⟩
              case round =>
                obtain ⟨k, hk, rfl, rfl, rfl, hfw⟩ := hrel
                have HK := hide hk
                by_cases hlt : k < 60
                · have hd : decide (k < 60) = true := by simpa using hlt
                  have hd2 : decide ((k : Int) < 60) = true := by simp; omega
                  have hIv := bs_iv (m + 1) (fun i => cls (f i)) (cls t) k
                  obtain ⟨lo, hlo⟩ : ∃ lo, lo = (bsS (m + 1) (fun i => cls (f i)) (cls t) k).1 := ⟨_, rfl⟩
                  obtain ⟨hi, hhi⟩ : ∃ hi, hi = (bsS (m + 1) (fun i => cls (f i)) (cls t) k).2 := ⟨_, rfl⟩
                  rw [← hlo, ← hhi] at hIv ⊢
                  obtain ⟨d, q, p, md, mq, mp, _, me, np, p1, p2, _⟩ := mid_spec hIv
                  have pp : probB p = true := probB_of np (by have := hIv.l0; omega) (by have := hIv.h1; omega)
                  have hnext := bs_next hlo hhi me
                  have h1 : ∀ w, (binOp .sub 24 (.float .f64 hi) (.float .f64 lo)).run Try.prog w = .ok (.float .f64 d) w := fun w => run_float_arith w .sub 24 .f64 _ _ _ md
                  have h2 : ∀ w, (binOp .quo 24 (.float .f64 d) (.float .f64 4611686018427387904)).run Try.prog w = .ok (.float .f64 q) w := fun w => run_float_arith w .quo 24 .f64 _ _ _ mq
                  have h3 : ∀ w, (binOp .add 24 (.float .f64 lo) (.float .f64 q)).run Try.prog w = .ok (.float .f64 p) w := fun w => run_float_arith w .add 24 .f64 _ _ _ mp
                  have CA := hide (average32_at c (HL.out.keep (HF.out.trans hfw)) HV.out pp)
                  have HN := hide hnext
                  have HLO := hide hlo
                  have HHI := hide hhi
                  clear hIv md mq mp me np p1 p2 pp hnext hlo hhi hk
                  go_wp2_with fail
                  refine CA.out.mono ?_
                  clear CA
                  rintro e w6 ⟨a, rfl, ha, hf6⟩
                  have HA := hide ha
                  clear ha
                  by_cases hc : FloatKind.f64.format.order a t = some .lt
                  · have hco : ordC (avC (m + 1) (fun i => cls (f i)) p) (cls t) = some .lt := by rw [← HA.out, ordC_cls]; exact hc
                    have HCO := hide hco
                    clear hco h1 h2 h3
                    go_wp2_with fail
                    go_roundg (gk - 1)
                    case measure => have := HK.out; omega
                    case rel => exact ⟨k + 1, by have := HK.out; omega, by go_num, by rw [HN.out, if_pos HCO.out], by rw [HN.out, if_pos HCO.out], hfw.trans hf6⟩
                  · have hco : ¬ ordC (avC (m + 1) (fun i => cls (f i)) p) (cls t) = some .lt := by rw [← HA.out, ordC_cls]; exact hc
                    have hcb : (FloatKind.f64.format.order a t == some Ordering.lt) = false := beq_eq_false_iff_ne.2 hc
                    have HCO := hide hco
                    clear hco h1 h2 h3 hc
                    go_wp2_with fail
                    go_roundg (gk - 1)
                    case measure => have := HK.out; omega
                    case rel => exact ⟨k + 1, by have := HK.out; omega, by go_num, by rw [HN.out, if_neg HCO.out], by rw [HN.out, if_neg HCO.out], hfw.trans hf6⟩
                · have hd : decide (k < 60) = false := by simpa using hlt
                  have hd2 : decide ((k : Int) < 60) = false := by simp; omega
                  obtain rfl : k = 60 := by omega
                  go_wp2_with fail
                  go_ret2
                  exact ⟨rfl, HF.out.trans hfw⟩

theorem solR_nn (n : Nat) (f : Nat → Nat) (t : Nat) : isN (solR n f t).1 = false := by
  unfold solR
  split
  · split
    · split
      · exact isN_zero
      · exact (bs_iv n _ _ 60).nh
    · exact isN_zero
  · exact isN_zero

set_option maxRecDepth 100000 in
set_option maxHeartbeats 1000000 in
theorem CritSolves_at (w : World) (ao : Option Addr) (n c : Nat) (f : Nat → Nat) (hn : n ≤ maxLen) (h : FlAt w ao n f) (t : Nat) :
    Calls Try.prog 4 #[.slice ao n c, .float .f64 t] w fun e w' => e = .returned (.bool true) ∧ Same' w w' := by
  unfold maxLen at hn
  have W := hide works_at
  by_cases h60 : 60 < n
  · have d1 : decide ((60 : Int) < n) = true := by simp; omega
    clear h
    go_enter Try.func4, Try.ntmps4
    go_wp2_with (go_at_call 14; refine (W.out _).mono ?_; rintro e w3 ⟨rfl, hf3⟩)
    go_ret
    exact ⟨rfl, hf3⟩
  have d1 : decide ((60 : Int) < n) = false := by simp; omega
  have C1 := hide (Solve17_at c h t)
  have C2 := hide (fun W (hw : Same' w W) => Solve18_at c (h.keep hw) t)
  have hnn := ord_self (solR_nn n f t)
  generalize (solR n f t) = rs at *
  obtain ⟨p, e1⟩ := rs
  simp only at hnn C1 C2
  clear h
  go_enter Try.func4, Try.ntmps4
  go_wp2_with fail
  refine C1.out.mono ?_
  clear C1
  rintro e w1 ⟨rfl, hf1⟩
  go_wp2_with fail
  refine (C2.out _ hf1).mono ?_
  clear C2
  rintro e w2 ⟨rfl, hf2⟩
  go_wp2_with (go_at_call 14; refine (W.out _).mono ?_; rintro e w3 ⟨rfl, hf3⟩)
  go_ret
  exact ⟨rfl, (hf1.trans hf2).trans hf3⟩

end Go.Proofs.Ytneidejngbokcaa
