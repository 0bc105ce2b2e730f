/- The document's answers: Depth, Up, Root, Above, Common. -/
import Derived.Test.YthpghcidocjanaaDoorN1
namespace Go.Proofs.YthpghcidocjanaaDoor
open Go.RowKit

theorem lineN_in {n : Nat} {p : Nat → Int} {x : Nat} (h : x < n) : lineN n p x = dep n p x + 1 := by
  unfold lineN; rw [if_pos (by omega)]; simp

theorem lineN_out {n : Nat} {p : Nat → Int} {v : Int} (h : ¬ (0 ≤ v ∧ v < n)) : lineN n p v = 0 := by
  unfold lineN; rw [if_neg h]

theorem lineF_nat (p : Nat → Int) (x : Nat) : lineF p x = fun j => anc p j x := by unfold lineF; simp

theorem lineN_le {B n : Nat} {w : World} {ao : Option Addr} {p : Nat → Int} (h : RefN B w ao n p) (v : Int) : lineN n p v ≤ 8193 := by
  have := h.le
  by_cases hv : 0 ≤ v ∧ v < n
  · obtain ⟨x, rfl⟩ : ∃ x : Nat, v = x := ⟨v.toNat, by omega⟩
    rw [lineN_in (by omega)]
    have := h.F.dep_lt (show x < n by omega)
    omega
  · rw [lineN_out hv]; omega

section
variable {B n : Nat} {w : World} {ao : Option Addr} {p : Nat → Int}

set_option maxHeartbeats 1000000 in
theorem rdepth (h : RefN B w ao n p) (v : Int) : Calls Tryd.prog 31 #[.pointer ao, .int .i64 v] w fun e w' => e = .returned (.int .i64 (depR n p v)) ∧ Same' w w' := by
  by_cases hv : 0 ≤ v ∧ v < n
  · obtain ⟨x, rfl⟩ : ∃ x : Nat, v = x := ⟨v.toNat, by omega⟩
    have hxn : x < n := by omega
    have C := hide (rnode_is h (x : Int) (t := true) (by unfold inN; simp; omega))
    have L := rline h (x : Int)
    rw [lineN_in hxn] at L
    have L := hide L
    rw [depR_in' hxn]
    have := h.F.dep_lt hxn
    have := h.le
    clear h hv
    go_enter Tryd.func31, Tryd.ntmps31
    go_wp2_with (first | (go_at_call 40; refine C.out.mono ?_; clear C; rintro e w' ⟨rfl, rfl⟩) | (go_at_call 41; refine L.out.mono ?_; clear L; rintro e w' ⟨lo, lc, rfl, hM⟩))
    go_ret
    exact ⟨by go_num, hM.fr⟩
  · have C := hide (rnode_is h v (t := false) (by unfold inN; simp; omega))
    have e : depR n p v = 0 := by unfold depR; rw [if_neg hv]
    rw [e]
    clear h
    go_enter Tryd.func31, Tryd.ntmps31
    go_wp2_with (go_at_call 40; refine C.out.mono ?_; clear C; rintro e w' ⟨rfl, rfl⟩)
    go_ret
    exact ⟨rfl, Fr.refl _ _⟩

theorem upR_line (h : Forest n p) (v k : Int) : upR n p v k = if 0 ≤ k ∧ k < lineN n p v then some (lineF p v k.toNat) else none := by
  unfold upR
  by_cases hv : 0 ≤ v ∧ v < n
  · obtain ⟨x, rfl⟩ : ∃ x : Nat, v = x := ⟨v.toNat, by omega⟩
    rw [lineN_in (by omega), lineF_nat]
    by_cases hk : 0 ≤ k ∧ k ≤ dep n p x
    · rw [if_pos (by simp; omega), if_pos (by omega)]; simp
    · rw [if_neg (by simp; omega), if_neg (by omega)]
  · rw [lineN_out hv, if_neg (by omega), if_neg (by omega)]

set_option maxHeartbeats 1000000 in
theorem rup (h : RefN B w ao n p) (v k : Int) : Calls Tryd.prog 33 #[.pointer ao, .int .i64 v, .int .i64 k] w fun e w' => e = ret2 (upR n p v k) ∧ Same' w w' := by
  rw [upR_line h.F]
  have L := hide (rline h v)
  have hle := lineN_le h v
  clear h
  generalize lineN n p v = q at *
  by_cases h0 : 0 ≤ k
  · obtain ⟨j, rfl⟩ : ∃ j : Nat, k = j := ⟨k.toNat, by omega⟩
    have d0 : decide ((j : Int) < 0) = false := by simp
    by_cases hj : j < q
    · have d1 : decide (q ≤ j) = false := by simp; omega
      rw [if_pos (by omega)]
      go_enter Tryd.func33, Tryd.ntmps33
      go_wp2_with fail
      refine L.out.mono ?_
      clear L
      rintro e w' ⟨lo, lc, rfl, hM⟩
      rcases hM.row with ⟨_, hz⟩ | ⟨g, rfl, hr, _⟩
      · omega
      have hc := hr.cell j hj
      have hc : w'.cell? ⟨g, j, none⟩ = some (.int .i64 (lineF p v j)) := hc
      have HM := hide hM
      have hji : (j : Int) < q := by omega
      have hcap : q ≤ lc := by obtain ⟨_, _, h, _⟩ := hr; exact h
      clear hM hr
      go_wp2
      go_ret2
      exact ⟨by simp [ret2, i64V], HM.out.fr⟩
    · have d1 : decide (q ≤ j) = true := by simp; omega
      rw [if_neg (by omega)]
      go_enter Tryd.func33, Tryd.ntmps33
      go_wp2_with (go_at_call 41; refine L.out.mono ?_; clear L; rintro e w' ⟨lo, lc, rfl, hM⟩)
      go_ret2
      exact ⟨by simp [ret2], hM.fr⟩
  · rw [if_neg (by omega)]
    have d0 : decide (k < 0) = true := by simp; omega
    go_enter Tryd.func33, Tryd.ntmps33
    go_wp2_with (go_at_call 41; refine L.out.mono ?_; clear L; rintro e w' ⟨lo, lc, rfl, hM⟩)
    go_ret2
    exact ⟨by simp [ret2], hM.fr⟩

theorem rootR_up (v : Int) : rootR n p v = upR n p v (depR n p v) := by
  unfold rootR upR depR
  by_cases hv : 0 ≤ v ∧ v < n
  · rw [if_pos hv, if_pos hv, if_pos (by omega)]; simp
  · rw [if_neg hv, if_neg hv, if_neg (by omega)]

set_option maxHeartbeats 1000000 in
theorem rroot (h : RefN B w ao n p) (v : Int) : Calls Tryd.prog 29 #[.pointer ao, .int .i64 v] w fun e w' => e = ret2 (rootR n p v) ∧ Same' w w' := by
  rw [rootR_up]
  have C1 := hide (rdepth h v)
  have C2 : Hid (∀ W, Same' w W → Calls Tryd.prog 33 #[.pointer ao, .int .i64 v, .int .i64 (depR n p v)] W fun e w' => e = ret2 (upR n p v (depR n p v)) ∧ Same' W w') := fun W hf => rup (h.same hf) v _
  clear h
  obtain ⟨x, t, hxt⟩ : ∃ x t, ret2 (upR n p v (depR n p v)) = retIB x t := ⟨_, _, rfl⟩
  rw [hxt] at C2 ⊢
  generalize depR n p v = D at *
  clear hxt
  go_enter Tryd.func29, Tryd.ntmps29
  go_wp2_with (first | (go_at_call 31; refine C1.out.mono ?_; clear C1; rintro e w' ⟨rfl, hf⟩) | (go_at_call 33; refine (C2.out _ hf).mono ?_; clear C2; rintro e w'' ⟨rfl, hf2⟩))
  go_ret2
  exact ⟨rfl, hf.trans hf2⟩

theorem Mine.at {w wr : World} {m : Nat} {f : Nat → Int} {lo : Option Addr} {lc : Nat} (h : Mine w wr 3 m (i64V f) lo lc) {i : Nat} (hi : i < m) : ∃ g, lo = some ⟨g, 0, none⟩ ∧ wr.cell? ⟨g, i, none⟩ = some (.int .i64 (f i)) ∧ m ≤ lc := by
  rcases h.row with ⟨_, hz⟩ | ⟨g, rfl, hr, _⟩
  · omega
  · have hcap : m ≤ lc := by obtain ⟨_, _, h, _⟩ := hr; exact h
    exact ⟨g, rfl, hr.cell i hi, hcap⟩

theorem Mine.base {w w1 wr : World} {e : TypeId} {m : Nat} {f : Nat → Value} {lo : Option Addr} {lc : Nat} (h : Mine w1 wr e m f lo lc) (hf : Same' w w1) : Mine w wr e m f lo lc :=
  ⟨h.own, fun k hk => Nat.le_trans hf.size (h.blk k hk), hf.trans h.fr⟩

/-- Whether one stands among so many of a line. -/
def among (m : Nat) (f : Nat → Int) (x : Int) : Bool := (List.range m).any fun k => f k == x

theorem among_iff {m : Nat} {f : Nat → Int} {x : Int} : among m f x = true ↔ ∃ k, k < m ∧ f k = x := by
  unfold among
  rw [List.any_eq_true]
  constructor
  · rintro ⟨k, hk, e⟩
    exact ⟨k, List.mem_range.1 hk, by simpa using e⟩
  · rintro ⟨k, hk, e⟩
    exact ⟨k, List.mem_range.2 hk, by simpa using e⟩

set_option maxHeartbeats 1000000 in
theorem rabove_line (h : RefN B w ao n p) (a b : Int) : Calls Tryd.prog 32 #[.pointer ao, .int .i64 a, .int .i64 b] w fun e w' => e = .returned (.bool (among (lineN n p b) (lineF p b) a)) ∧ Same' w w' := by
  have L := hide (rline h b)
  have hle := lineN_le h b
  clear h
  generalize lineN n p b = q at *
  generalize lineF p b = f at *
  go_enter Tryd.func32, Tryd.ntmps32
  go_wp2_with (go_at_call 41; refine L.out.mono ?_; clear L; rintro e w' ⟨lo, lc, rfl, hM⟩)
  have HM := hide hM
  clear hM
  go_loopg [8] q (fun g i wr => ∃ k : Nat, k + g = q ∧ i = .int .i64 k ∧ w' = wr ∧ ∀ k', k' < k → f k' ≠ a)
  case atStart => exact ⟨0, by omega, rfl, rfl, fun k' hk => by omega⟩
  case round =>
    obtain ⟨k, hk, rfl, rfl, hno⟩ := hrel
    by_cases hlt : k < q
    · have hd : decide (k < q) = true := by simpa using hlt
      obtain ⟨g, rfl, hc, hcap⟩ := HM.out.at hlt
      have hki : (k : Int) < q := by omega
      by_cases hfa : f k = a
      · rw [hfa] at hc
        have ht : among q f a = true := among_iff.2 ⟨k, hlt, hfa⟩
        have HT := hide ht
        clear hno ht
        go_wp2
        go_ret
        exact ⟨by rw [HT.out]; rfl, HM.out.fr⟩
      · have hne : (f k == a) = false := by simpa using hfa
        have HN := hide hno
        clear hno
        go_wp2
        go_roundg (gk - 1)
        case measure => omega
        case rel => exact ⟨k + 1, by omega, by go_num, rfl, fun k' hk' => by by_cases e : k' = k; (· subst e; exact hfa); exact HN.out k' (by omega)⟩
    · have hd : decide (k < q) = false := by simpa using hlt
      have ht : among q f a = false := by
        rw [Bool.eq_false_iff]
        intro hc
        obtain ⟨k', h1, h2⟩ := among_iff.1 hc
        exact hno k' (by omega) h2
      have HT := hide ht
      clear hno ht
      go_wp2
      go_ret
      exact ⟨by rw [HT.out]; rfl, HM.out.fr⟩

theorem among_line {p : Nat → Int} {n x : Nat} (hx : x < n) (y : Int) : among (lineN n p x) (lineF p x) y = inLine n p x y := by
  rw [lineN_in hx, lineF_nat]
  rfl

theorem rabove (h : RefN B w ao n p) (a b : Int) : Calls Tryd.prog 32 #[.pointer ao, .int .i64 a, .int .i64 b] w fun e w' => e = .returned (.bool (abvR n p a b)) ∧ Same' w w' := by
  have e : among (lineN n p b) (lineF p b) a = abvR n p a b := by
    by_cases hb : 0 ≤ b ∧ b < n
    · obtain ⟨y, rfl⟩ : ∃ y : Nat, b = y := ⟨b.toNat, by omega⟩
      rw [among_line (by omega)]
      by_cases ha : 0 ≤ a ∧ a < n
      · obtain ⟨x, rfl⟩ : ∃ x : Nat, a = x := ⟨a.toNat, by omega⟩
        exact (abvR_in h.F (by omega) (by omega)).symm
      · have : abvR n p a y = false := by unfold abvR cmnR; rw [if_neg (by omega)]; rfl
        rw [this, Bool.eq_false_iff]
        intro hc
        obtain ⟨k, hk, e⟩ := inLine_iff.1 hc
        obtain ⟨u, hu, hun, _⟩ := h.F.anc_dep (show y < n by omega) hk
        omega
    · rw [lineN_out hb]
      have : abvR n p a b = false := by unfold abvR cmnR; rw [if_neg (by omega)]; rfl
      rw [this]; rfl
  rw [← e]
  exact rabove_line h a b
end

end Go.Proofs.YthpghcidocjanaaDoor
