/- Walks: Solve, the code's. -/
import Derived.Test.YtneidejngbokcaaE1
namespace Go.Proofs.Ytneidejngbokcaa
open Go.RowKit

/-- What Solve hands back. -/
def solR (n : Nat) (f : Nat → Nat) (t : Nat) : Nat × Int :=
  if (valB n f && numB t) = true then
    if srtB n f = true then
      if ordr t (f 0) = some .lt ∨ ordr t (f (n - 1)) = some .gt then (0, 5) else ((bsS n (fun i => cls (f i)) (cls t) 60).2, 0)
    else (0, 8)
  else (0, 2)

theorem bs_next {n : Nat} {F : Nat → Cl} {T : Cl} {k lo hi p : Nat} (hlo : lo = (bsS n F T k).1) (hhi : hi = (bsS n F T k).2) (hp : mid lo hi = p) :
    bsS n F T (k + 1) = if ordC (avC n F p) T = some .lt then (p, hi) else (lo, p) := by
  subst hlo hhi hp; rfl

theorem num_one (W : World) (t : Nat) : Calls Try.prog 33 #[.slice (some ⟨W.heap.size, 0, none⟩) 1 1] (W.alloc (.cells #[.float .f64 t] 24)) fun e w' => e = .returned (.bool (numB t)) ∧ Same' W w' := by
  have hf : FlAt (W.alloc (.cells #[.float .f64 t] 24)) (some ⟨W.heap.size, 0, none⟩) 1 (fun _ => t) := fun i hi => by
    have e : i = 0 := by omega
    subst e
    exact ⟨_, rfl, by rw [add_at]; exact new_cell _ _ _⟩
  exact (numbers33_at (n := 1) (f := fun _ => t) 1 (by omega) hf).mono fun e w' ⟨h1, h2⟩ => ⟨h1.trans (ret_bool (by simp [allN, List.range_succ])), (same_alloc _ _).trans h2⟩

theorem one_valid {w : World} {ao : Option Addr} {n c : Nat} {f : Nat → Nat} (h : FlAt w ao n f) :
    Calls Try.prog 27 #[.slice (some ⟨w.heap.size, 0, none⟩) 1 1] (w.alloc (.cells #[.slice ao n c] 22)) fun e w' => e = .returned (.bool (valB n f)) ∧ Same' w w' :=
  (valid27_one (c := c) h).mono fun _ _ ⟨h1, h2⟩ => ⟨h1, (same_alloc _ _).trans h2⟩

set_option maxRecDepth 100000 in
set_option maxHeartbeats 2000000 in
theorem Solve17_at {w : World} {ao : Option Addr} {n : Nat} (c : Nat) {f : Nat → Nat} (h : FlAt w ao n f) (t : Nat) :
    Calls Try.prog 17 #[.slice ao n c, .float .f64 t] w fun e w' => e = .returned (.tuple #[.float .f64 (solR n f t).1, .int .i64 (solR n f t).2]) ∧ Same' w w' := by
  have C := hide (one_valid (c := c) h)
  have HL := hide h
  have D := hide (fun W => num_one W t)
  unfold solR
  cases hv : valB n f with
  | false =>
    rw [hv] at C
    clear h hv
    rw [if_neg (by simp)]
    go_enter Try.func17, Try.ntmps17
    go_wp2_with (go_at_call 27; refine C.out.mono ?_; clear C; rintro e w2 ⟨rfl, hf⟩)
    go_ret2
    exact ⟨rfl, hf⟩
  | true =>
    rw [hv] at C
    cases ht : numB t with
    | false =>
      rw [ht] at D
      clear h hv ht
      rw [if_neg (by simp)]
      go_enter Try.func17, Try.ntmps17
      go_wp2_with (first
        | (go_at_call 27; refine C.out.mono ?_; clear C; rintro e w2 ⟨rfl, hf⟩)
        | (go_at_call 33; refine (D.out _).mono ?_; clear D; rintro e w3 ⟨rfl, hf3⟩))
      go_ret2
      exact ⟨rfl, hf.trans hf3⟩
    | true =>
      rw [ht] at D
      rw [if_pos (by simp)]
      have S := hide (fun W (hw : Same' w W) => sorted34_at c (h.keep hw) hv)
      obtain ⟨hn1, hn2, hall⟩ := valB_get hv
      have HV := hide hv
      have nt := numB_nn ht
      have n0 := numB_nn (hall 0 (by omega))
      have nl := numB_nn (hall (n - 1) (by omega))
      cases hs : srtB n f with
      | false =>
        rw [hs] at S
        rw [if_neg (by simp)]
        clear h hv ht hs hall nt n0 nl
        go_enter Try.func17, Try.ntmps17
        go_wp2_with (first
          | (go_at_call 27; refine C.out.mono ?_; clear C; rintro e w2 ⟨rfl, hf⟩)
          | (go_at_call 33; refine (D.out _).mono ?_; clear D; rintro e w3 ⟨rfl, hf3⟩)
          | (go_at_call 34; refine (S.out _ (hf.trans hf3)).mono ?_; clear S; rintro e w4 ⟨rfl, hf4⟩))
        go_ret2
        exact ⟨rfl, (hf.trans hf3).trans hf4⟩
      | true =>
        rw [hs] at S
        rw [if_pos rfl]
        obtain ⟨m, rfl⟩ : ∃ m, n = m + 1 := ⟨n - 1, by omega⟩
        have hi0 : (0 : Int) < m + 1 := by omega
        have hi1 : (m : Int) < m + 1 := by omega
        have K1 := fun W (hw : Same' w W) => (h.keep hw) 0 (by omega)
        have K2 := fun W (hw : Same' w W) => (h.keep hw) m (by omega)
        by_cases hlo : ordr t (f 0) = some .lt
        · rw [if_pos (.inl hlo)]
          have ho : FloatKind.f64.format.order t (f 0) = some .lt := hlo
          clear h hv ht hs hall nt n0 nl hlo
          go_enter Try.func17, Try.ntmps17
          go_wp2_with fail
          refine C.out.mono ?_
          clear C
          rintro e w2 ⟨rfl, hf⟩
          go_wp2_with fail
          refine (D.out _).mono ?_
          clear D
          rintro e w3 ⟨rfl, hf3⟩
          go_wp2_with fail
          refine (S.out _ (hf.trans hf3)).mono ?_
          clear S
          rintro e w4 ⟨rfl, hf4⟩
          obtain ⟨a1, rfl, e1⟩ := K1 _ ((hf.trans hf3).trans hf4)
          rw [show a1.add 0 = a1 by cases a1; simp [Addr.add]] at e1
          clear K1 K2
          go_wp2_with fail
          go_ret2
          exact ⟨rfl, (hf.trans hf3).trans hf4⟩
        · have hob : (FloatKind.f64.format.order t (f 0) == some Ordering.lt) = false := beq_eq_false_iff_ne.2 hlo
          by_cases hhi : ordr t (f m) = some .gt
          · rw [if_pos (.inr hhi)]
            have ho : FloatKind.f64.format.order t (f m) = some .gt := hhi
            clear h hv ht hs hall nt n0 nl hlo hhi
            go_enter Try.func17, Try.ntmps17
            go_wp2_with fail
            refine C.out.mono ?_
            clear C
            rintro e w2 ⟨rfl, hf⟩
            go_wp2_with fail
            refine (D.out _).mono ?_
            clear D
            rintro e w3 ⟨rfl, hf3⟩
            go_wp2_with fail
            refine (S.out _ (hf.trans hf3)).mono ?_
            clear S
            rintro e w4 ⟨rfl, hf4⟩
            obtain ⟨a1, rfl, e1⟩ := K1 _ ((hf.trans hf3).trans hf4)
            obtain ⟨a2, ha2, e2⟩ := K2 _ ((hf.trans hf3).trans hf4)
            simp only [Option.some.injEq] at ha2
            subst ha2
            rw [show a1.add 0 = a1 by cases a1; simp [Addr.add]] at e1
            clear K1 K2
            go_wp2_with fail
            go_ret2
            exact ⟨rfl, (hf.trans hf3).trans hf4⟩
          · have hob2 : (FloatKind.f64.format.order t (f m) == some Ordering.gt) = false := beq_eq_false_iff_ne.2 hhi
            rw [if_neg (by rintro (h | h); exact hlo h; exact hhi h)]
            have A := hide (fun W => average28_at W ao (m + 1) c)
            clear h hv ht hs hall nt n0 nl hlo hhi
            go_enter Try.func17, Try.ntmps17
            go_wp2_with fail
            refine C.out.mono ?_
            clear C
            rintro e w2 ⟨rfl, hf⟩
            go_wp2_with fail
            refine (D.out _).mono ?_
            clear D
            rintro e w3 ⟨rfl, hf3⟩
            go_wp2_with fail
            refine (S.out _ (hf.trans hf3)).mono ?_
            clear S
            rintro e w4 ⟨rfl, hf4⟩
            obtain ⟨a1, rfl, e1⟩ := K1 _ ((hf.trans hf3).trans hf4)
            obtain ⟨a2, ha2, e2⟩ := K2 _ ((hf.trans hf3).trans hf4)
            simp only [Option.some.injEq] at ha2
            subst ha2
            rw [show a1.add 0 = a1 by cases a1; simp [Addr.add]] at e1
            clear K1 K2
            have HF := hide ((hf.trans hf3).trans hf4)
            clear hf hf3 hf4
            go_wp2_with (go_at_call 28; refine (A.out _).mono ?_; clear A; rintro e w5 ⟨rfl, rfl⟩)
            have CB := hide (new_cell w4 (.slice (some a1) (m + 1) c) 22)
            have HF5 := hide (HF.out.trans (same_alloc w4 (.cells #[.slice (some a1) (m + 1) c] 22)))
            clear e1 e2 hob hob2
            go_loopg [7, 8, 40] 60 (fun z l h i wr => ∃ k : Nat, k + z = 60 ∧ i = .int .i64 k ∧ l = .float .f64 (bsS (m + 1) (fun i => cls (f i)) (cls t) k).1 ∧ h = .float .f64 (bsS (m + 1) (fun i => cls (f i)) (cls t) k).2 ∧ Same' (w4.alloc (.cells #[.slice (some a1) (m + 1) c] 22)) wr)
            case atStart => exact ⟨0, by omega, rfl, rfl, rfl, Fr.refl _ _⟩
            case round =>
              obtain ⟨k, hk, rfl, rfl, rfl, hfw⟩ := hrel
              have HK := hide hk
              by_cases hlt : k < 60
              · have hd : decide (k < 60) = true := by simpa using hlt
                have hd2 : decide ((k : Int) < 60) = true := by simp; omega
                have hIv := bs_iv (m + 1) (fun i => cls (f i)) (cls t) k
                obtain ⟨lo, hlo⟩ : ∃ lo, lo = (bsS (m + 1) (fun i => cls (f i)) (cls t) k).1 := ⟨_, rfl⟩
                obtain ⟨hi, hhi⟩ : ∃ hi, hi = (bsS (m + 1) (fun i => cls (f i)) (cls t) k).2 := ⟨_, rfl⟩
                rw [← hlo, ← hhi] at hIv ⊢
                obtain ⟨d, q, p, md, mq, mp, _, me, np, p1, p2, _⟩ := mid_spec hIv
                have pp : probB p = true := probB_of np (by have := hIv.l0; omega) (by have := hIv.h1; omega)
                have hnext := bs_next hlo hhi me
                have h1 : ∀ w, (binOp .sub 24 (.float .f64 hi) (.float .f64 lo)).run Try.prog w = .ok (.float .f64 d) w := fun w => run_float_arith w .sub 24 .f64 _ _ _ md
                have h2 : ∀ w, (binOp .quo 24 (.float .f64 d) (.float .f64 4611686018427387904)).run Try.prog w = .ok (.float .f64 q) w := fun w => run_float_arith w .quo 24 .f64 _ _ _ mq
                have h3 : ∀ w, (binOp .add 24 (.float .f64 lo) (.float .f64 q)).run Try.prog w = .ok (.float .f64 p) w := fun w => run_float_arith w .add 24 .f64 _ _ _ mp
                have CA := hide (at42 (cell_same CB.out hfw) (HL.out.keep (HF5.out.trans hfw)) HV.out pp)
                have HN := hide hnext
                have HLO := hide hlo
                have HHI := hide hhi
                clear hIv md mq mp me np p1 p2 pp hnext hlo hhi hk
                go_wp2_with fail
                refine CA.out.mono ?_
                clear CA
                rintro e w6 ⟨a, rfl, ha, hf6⟩
                have HA := hide ha
                clear ha
                by_cases hc : FloatKind.f64.format.order a t = some .lt
                · have hco : ordC (avC (m + 1) (fun i => cls (f i)) p) (cls t) = some .lt := by rw [← HA.out, ordC_cls]; exact hc
                  have HCO := hide hco
                  clear hco h1 h2 h3
                  go_wp2_with fail
                  go_roundg (gk - 1)
                  case measure => have := HK.out; omega
                  case rel => exact ⟨k + 1, by have := HK.out; omega, by go_num, by rw [HN.out, if_pos HCO.out], by rw [HN.out, if_pos HCO.out], hfw.trans hf6⟩
                · have hco : ¬ ordC (avC (m + 1) (fun i => cls (f i)) p) (cls t) = some .lt := by rw [← HA.out, ordC_cls]; exact hc
                  have hcb : (FloatKind.f64.format.order a t == some Ordering.lt) = false := beq_eq_false_iff_ne.2 hc
                  have HCO := hide hco
                  clear hco h1 h2 h3 hc
                  go_wp2_with fail
                  go_roundg (gk - 1)
                  case measure => have := HK.out; omega
                  case rel => exact ⟨k + 1, by have := HK.out; omega, by go_num, by rw [HN.out, if_neg HCO.out], by rw [HN.out, if_neg HCO.out], hfw.trans hf6⟩
              · have hd : decide (k < 60) = false := by simpa using hlt
                have hd2 : decide ((k : Int) < 60) = false := by simp; omega
                obtain rfl : k = 60 := by omega
                go_wp2_with fail
                go_ret2
                exact ⟨rfl, HF5.out.trans hfw⟩

end Go.Proofs.Ytneidejngbokcaa
