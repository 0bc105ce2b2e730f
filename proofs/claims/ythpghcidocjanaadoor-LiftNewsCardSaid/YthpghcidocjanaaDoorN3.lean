/- The document's answers: Common, Dist, Climb. -/
import Derived.Test.YthpghcidocjanaaDoorN2
namespace Go.Proofs.YthpghcidocjanaaDoor
open Go.RowKit

/-- The first of a line that stands in another one. -/
def firstIn (q : Nat) (f : Nat → Int) (r : Nat) (g : Nat → Int) : Option Int := ((List.range q).find? fun i => among r g (f i)).map f

theorem firstIn_some {q r i : Nat} {f g : Nat → Int} (hi : i < q) (h : among r g (f i) = true) (hno : ∀ j, j < i → among r g (f j) = false) : firstIn q f r g = some (f i) := by
  have : ((List.range q).find? fun i => among r g (f i)) = some i := by
    rw [List.find?_range_eq_some]
    exact ⟨h, List.mem_range.2 hi, fun j hj => by simp [hno j hj]⟩
  unfold firstIn
  rw [this]; rfl

theorem firstIn_none {q r : Nat} {f g : Nat → Int} (hno : ∀ j, j < q → among r g (f j) = false) : firstIn q f r g = none := by
  have : ((List.range q).find? fun i => among r g (f i)) = none := by
    rw [List.find?_eq_none]
    intro j hj
    simp [hno j (List.mem_range.1 hj)]
  unfold firstIn
  rw [this]; rfl

section
variable {B n : Nat} {w : World} {ao : Option Addr} {p : Nat → Int}

set_option maxHeartbeats 1000000 in
set_option maxRecDepth 100000 in
theorem rcommon_line (h : RefN B w ao n p) (a b : Int) : Calls Tryd.prog 34 #[.pointer ao, .int .i64 a, .int .i64 b] w fun e w' => e = ret2 (firstIn (lineN n p a) (lineF p a) (lineN n p b) (lineF p b)) ∧ Same' w w' := by
  have L := hide (rline h a)
  have L2 : Hid (∀ W, Same' w W → Calls Tryd.prog 41 #[.pointer ao, .int .i64 b] W fun e w' => ∃ lo lc, e = .returned (.slice lo (lineN n p b) lc) ∧ Mine W w' 3 (lineN n p b) (i64V (lineF p b)) lo lc) := fun W hf => rline (h.same hf) b
  have hle := lineN_le h a
  have hle2 := lineN_le h b
  clear h
  generalize lineN n p a = q at *
  generalize lineF p a = f at *
  generalize lineN n p b = r at *
  generalize lineF p b = g at *
  go_enter Tryd.func34, Tryd.ntmps34
  go_wp2_with fail
  refine L.out.mono ?_
  clear L
  rintro e w1 ⟨lo, lc, rfl, hM⟩
  go_wp2_with fail
  refine (L2.out _ hM.fr).mono ?_
  clear L2
  rintro e w2 ⟨ko, kc, rfl, hK⟩
  have HM := hide (hM.keep hK.fr)
  have HK := hide (hK.base hM.fr)
  clear hM hK
  go_wp2_with fail
  go_loopg [10] q (fun z i wr => ∃ k : Nat, k + z = q ∧ i = .int .i64 k ∧ Same' w2 wr ∧ ∀ k', k' < k → among r g (f k') = false)
  case atStart => exact ⟨0, by omega, rfl, Fr.refl _ _, fun k' hk => by omega⟩
  case round =>
    obtain ⟨k, hk, rfl, hf, hno⟩ := hrel
    have HN := hide hno
    clear hno
    by_cases hlt : k < q
    · have hd : decide (k < q) = true := by simpa using hlt
      obtain ⟨a1, rfl, _, hcap⟩ := HM.out.at hlt
      have hki : (k : Int) < q := by omega
      go_wp2
      go_loopg [11] r (fun z i wx => ∃ j : Nat, j + z = r ∧ i = .int .i64 j ∧ Same' w2 wx ∧ ∀ j', j' < j → g j' ≠ f k)
      case atStart => exact ⟨0, by omega, rfl, hf, fun k' hk => by omega⟩
      case round =>
        clear hf
        obtain ⟨j, hj, rfl, hf, hnj⟩ := hrel
        have HJ := hide hnj
        clear hnj
        by_cases hjr : j < r
        · have hd2 : decide (j < r) = true := by simpa using hjr
          obtain ⟨b1, rfl, hcj, hcap2⟩ := (HK.out.keep hf).at hjr
          obtain ⟨a2, ha2, hck, _⟩ := (HM.out.keep hf).at hlt
          cases ha2
          have hji : (j : Int) < r := by omega
          by_cases hfa : f k = g j
          · have ht : among r g (f k) = true := among_iff.2 ⟨j, hjr, hfa.symm⟩
            have HT := hide (firstIn_some hlt ht HN.out)
            have hbb : (f k == f k) = true := by simp
            rw [← hfa] at hcj
            clear ht hfa
            go_wp2
            go_quiet (fail)
            go_wp2
            go_ret2
            exact ⟨by rw [HT.out]; rfl, HM.out.fr.trans (hf.drewN _)⟩
          · have hne : (f k == g j) = false := by simpa using hfa
            go_wp2
            go_quiet (fail)
            go_wp2
            go_roundg (gk - 1)
            case measure => omega
            case rel => exact ⟨j + 1, by omega, by go_num, hf.drewN _, fun k' hk' => by by_cases e : k' = j; (· subst e; exact fun h => hfa h.symm); exact HJ.out k' (by omega)⟩
        · have hd2 : decide (j < r) = false := by simpa using hjr
          have ht : among r g (f k) = false := by
            rw [Bool.eq_false_iff]
            intro hc
            obtain ⟨k', h1, h2⟩ := among_iff.1 hc
            exact HJ.out k' (by omega) h2
          have HT := hide ht
          clear ht
          go_wp2
          go_roundg (q - (k + 1))
          case measure => omega
          case rel => exact ⟨k + 1, by omega, by go_num, hf, fun k' hk' => by by_cases e : k' = k; (· subst e; exact HT.out); exact HN.out k' (by omega)⟩
    · have hd : decide (k < q) = false := by simpa using hlt
      have HT := hide (firstIn_none (f := f) (g := g) (q := q) (r := r) (fun j hj => HN.out j (by omega)))
      go_wp2
      go_ret2
      exact ⟨by rw [HT.out]; rfl, HM.out.fr.trans hf⟩

theorem cmnR_line (a b : Int) : firstIn (lineN n p a) (lineF p a) (lineN n p b) (lineF p b) = cmnR n p a b := by
  by_cases ha : 0 ≤ a ∧ a < n
  · by_cases hb : 0 ≤ b ∧ b < n
    · obtain ⟨x, rfl⟩ : ∃ x : Nat, a = x := ⟨a.toNat, by omega⟩
      obtain ⟨y, rfl⟩ : ∃ y : Nat, b = y := ⟨b.toNat, by omega⟩
      unfold cmnR
      rw [if_pos ⟨ha, hb⟩, lineN_in (by omega), lineN_in (by omega), lineF_nat, lineF_nat]
      simp only [Int.toNat_natCast]
      rfl
    · unfold cmnR
      rw [if_neg (by omega), lineN_out hb]
      exact firstIn_none fun j hj => rfl
  · unfold cmnR
    rw [if_neg (by omega), lineN_out ha]
    exact firstIn_none fun j hj => by omega

theorem rcommon (h : RefN B w ao n p) (a b : Int) : Calls Tryd.prog 34 #[.pointer ao, .int .i64 a, .int .i64 b] w fun e w' => e = ret2 (cmnR n p a b) ∧ Same' w w' := by
  rw [← cmnR_line]
  exact rcommon_line h a b

set_option maxHeartbeats 1000000 in
set_option maxRecDepth 100000 in
theorem rdist (h : RefN B w ao n p) (a b : Int) : Calls Tryd.prog 35 #[.pointer ao, .int .i64 a, .int .i64 b] w fun e w' => e = ret2 (dstR n p a b) ∧ Same' w w' := by
  have C := hide (rcommon h a b)
  have HH := hide h
  have hbd : ∀ v, 0 ≤ depR n p v ∧ depR n p v ≤ 8192 := fun v => by
    unfold depR
    have := h.le
    by_cases hv : 0 ≤ v ∧ v < n
    · have := h.F.dep_lt (show v.toNat < n by omega)
      rw [if_pos hv]; omega
    · rw [if_neg hv]; omega
  clear h
  unfold dstR
  cases ho : cmnR n p a b with
  | none =>
    rw [ho] at C
    have C : Hid (Calls Tryd.prog 34 #[.pointer ao, .int .i64 a, .int .i64 b] w fun e w' => e = retIB 0 false ∧ Same' w w') := C
    clear ho
    go_enter Tryd.func35, Tryd.ntmps35
    go_wp2_with (go_at_call 34; refine C.out.mono ?_; clear C; rintro e w' ⟨rfl, hf⟩)
    go_ret2
    exact ⟨rfl, hf⟩
  | some c =>
    rw [ho] at C
    have C : Hid (Calls Tryd.prog 34 #[.pointer ao, .int .i64 a, .int .i64 b] w fun e w' => e = retIB c true ∧ Same' w w') := C
    clear ho
    have D : Hid (∀ W, Same' w W → ∀ v, Calls Tryd.prog 31 #[.pointer ao, .int .i64 v] W fun e w' => e = .returned (.int .i64 (depR n p v)) ∧ Same' W w') := fun W hf v => rdepth (HH.out.same hf) v
    have da := hbd a
    have db := hbd b
    have dc := hbd c
    clear hbd HH
    show Calls Tryd.prog 35 #[.pointer ao, .int .i64 a, .int .i64 b] w fun e w' => e = retIB (depR n p a + depR n p b - 2 * depR n p c) true ∧ Same' w w'
    generalize hu : depR n p a = u at *
    generalize hv : depR n p b = v at *
    generalize ht : depR n p c = t at *
    have HX := hide (And.intro hu (And.intro hv ht))
    clear hu hv ht
    have i1 : IntKind.i64.wrap (u + v) = u + v := by rw [IntKind.wrap_i64]; omega
    have i2 : IntKind.i64.wrap (2 * t) = 2 * t := by rw [IntKind.wrap_i64]; omega
    have i3 : IntKind.i64.wrap (u + v - 2 * t) = u + v - 2 * t := by rw [IntKind.wrap_i64]; omega
    go_enter Tryd.func35, Tryd.ntmps35
    go_wp2_with (go_at_call 34; refine C.out.mono ?_; clear C; rintro e w1 ⟨rfl, hf⟩)
    refine (D.out _ hf a).mono ?_
    rintro e w2 ⟨he, hf2⟩; rw [HX.out.1] at he; subst he
    go_wp2_with fail
    refine (D.out _ (hf.trans hf2) b).mono ?_
    rintro e w3 ⟨he, hf3⟩; rw [HX.out.2.1] at he; subst he
    go_wp2_with fail
    refine (D.out _ ((hf.trans hf2).trans hf3) c).mono ?_
    rintro e w4 ⟨he, hf4⟩; rw [HX.out.2.2] at he; subst he
    go_wp2_with fail
    go_ret2
    exact ⟨rfl, ((hf.trans hf2).trans hf3).trans hf4⟩

/-- What Climb hands back. -/
def clbR (none_ : Bool) (n : Nat) (p key : Nat → Int) (kn : Nat) (mx v : Int) : Int × Int :=
  if none_ then (0, 1) else if ¬ (0 ≤ v ∧ v < n) then (0, 3) else if kn ≠ n then (0, 2) else (((clb p key mx n v.toNat : Nat) : Int), 0)

set_option maxHeartbeats 2000000 in
set_option maxRecDepth 100000 in
theorem rclimb (h : RefN B w ao n p) (v : Int) (mx : Int) (ko : Option Addr) (kn kc : Nat) (key : Nat → Int) (hk : KeyAt w ko kn key) :
    Calls Tryd.prog 36 #[.pointer ao, .int .i64 v, .slice ko kn kc, .int .i64 mx] w fun e w' => e = retIE (clbR ao.isNone n p key kn mx v).1 (clbR ao.isNone n p key kn mx v).2 ∧ w = w' := by
  rcases h with ⟨rfl, rfl⟩ | ⟨b, rfl, h⟩
  · show Calls Tryd.prog 36 _ w fun e w' => e = retIE 0 1 ∧ w = w'
    go_enter Tryd.func36, Tryd.ntmps36
    go_wp2
    go_ret2
    exact ⟨rfl, rfl⟩
  have hm := h.made
  by_cases hv : 0 ≤ v ∧ v < n
  · obtain ⟨x, rfl⟩ : ∃ x : Nat, v = x := ⟨v.toNat, by omega⟩
    have hxn : x < n := by omega
    have C := hide (rnode_is (.inr ⟨b, rfl, h⟩) (x : Int) (t := true) (by unfold inN; simp; omega))
    obtain ⟨g, c, hc, hr, hg⟩ := h.row
    by_cases hkn : kn = n
    · subst hkn
      have hd : dep kn p x ≤ kn := by have := h.F.dep_lt hxn; omega
      have e : clbR (some ⟨b, 0, none⟩ : Option Addr).isNone kn p key kn mx x = (((clb p key mx kn x : Nat) : Int), 0) := by
        unfold clbR
        rw [if_neg (by simp), if_neg (by omega), if_neg (by omega)]
        simp
      rw [e]
      show Calls Tryd.prog 36 _ w fun e w' => e = retIE (clb p key mx kn x : Nat) 0 ∧ w = w'
      have HH := hide (And.intro h hk)
      obtain ⟨X, hX⟩ : ∃ X, X = clb p key mx kn x := ⟨_, rfl⟩
      rw [← hX]
      have HX := hide hX
      clear hX e h hk hr
      go_enter Tryd.func36, Tryd.ntmps36
      go_wp2_with (go_at_call 40; refine C.out.mono ?_; clear C; rintro e w' ⟨rfl, rfl⟩)
      go_loopg [1] kn (fun f i wr => ∃ u : Nat, i = .int .i64 u ∧ u < kn ∧ dep kn p u ≤ f ∧ clb p key mx f u = X ∧ w = wr)
      case atStart => exact ⟨x, rfl, hxn, hd, HX.out.symm, rfl⟩
      case round =>
        obtain ⟨u, rfl, hun, hdu, hcl, rfl⟩ := hrel
        obtain ⟨⟨hF, _, _, ⟨g', c', hc', hr', _⟩, _⟩, hkey⟩ := HH.out
        rw [hc'] at hc
        cases hc
        have hcu : w.cell? ⟨g, u, none⟩ = some (.int .i64 (p u)) := hr'.cell u hun
        have hcap : kn ≤ c := by obtain ⟨_, _, h, _⟩ := hr'; exact h
        have hui : (u : Int) < kn := by omega
        clear hr'
        by_cases hp : 0 ≤ p u
        · have hd1 : 1 ≤ dep kn p u := (hF.anc_iff hun 1).1 (by rw [anc_one]; exact hp)
          obtain ⟨u', hu', hun', hdu'⟩ := hF.anc_dep hun hd1
          rw [anc_one] at hu'
          obtain ⟨kd, rfl, hck⟩ := hkey u' hun'
          have hui' : (u' : Int) < kn := by omega
          by_cases hle : key u' ≤ mx
          · have hlow : lowB key mx (p u) = true := by unfold lowB; rw [hu']; simp [hle]
            have hnext : clb p key mx (gk - 1) u' = X := by
              obtain ⟨m, rfl⟩ : ∃ m, gk = m + 1 := ⟨gk - 1, by omega⟩
              rw [clb_step hlow, hu'] at hcl
              simpa using hcl
            rw [hu'] at hcu
            have HQ := hide (And.intro hnext hdu')
            have dl : decide (key u' ≤ mx) = true := by simpa using hle
            clear hcl hnext hdu' hlow hkey hu' hp
            go_wp2
            go_roundg (gk - 1)
            case measure => omega
            case rel => exact ⟨u', rfl, hun', by have := HQ.out.2; omega, HQ.out.1, rfl⟩
          · have hlow : lowB key mx (p u) = false := by unfold lowB; rw [hu']; simp; omega
            have hX2 := hide ((clb_stop (f := gk) hlow).symm.trans hcl)
            rw [hu'] at hcu
            have dl : decide (key u' ≤ mx) = false := by simpa using hle
            clear hcl hlow hkey hu' hp
            go_wp2
            go_ret2
            exact ⟨by rw [← hX2.out]; rfl, rfl⟩
        · have hlow : lowB key mx (p u) = false := by unfold lowB; simp [hp]
          have hX2 := hide ((clb_stop (f := gk) hlow).symm.trans hcl)
          have dp : decide (0 ≤ p u) = false := by simpa using hp
          clear hcl hlow hkey
          go_wp2
          go_ret2
          exact ⟨by rw [← hX2.out]; rfl, rfl⟩
    · have hkb : ((kn : Int) == (n : Int)) = false := by rw [beq_eq_false_iff_ne]; omega
      have e : clbR (some ⟨b, 0, none⟩ : Option Addr).isNone n p key kn mx x = (0, 2) := by
        unfold clbR
        rw [if_neg (by simp), if_neg (by omega), if_pos hkn]
      rw [e]
      show Calls Tryd.prog 36 _ w fun e w' => e = retIE 0 2 ∧ w = w'
      clear h hr
      go_enter Tryd.func36, Tryd.ntmps36
      go_wp2_with (go_at_call 40; refine C.out.mono ?_; clear C; rintro e w' ⟨rfl, rfl⟩)
      go_ret2
      exact ⟨rfl, rfl⟩
  · have C := hide (rnode_is (.inr ⟨b, rfl, h⟩) v (t := false) (by unfold inN; simp; omega))
    have e : clbR (some ⟨b, 0, none⟩ : Option Addr).isNone n p key kn mx v = (0, 3) := by
      unfold clbR
      rw [if_neg (by simp), if_pos hv]
    rw [e]
    show Calls Tryd.prog 36 _ w fun e w' => e = retIE 0 3 ∧ w = w'
    go_enter Tryd.func36, Tryd.ntmps36
    go_wp2_with (go_at_call 40; refine C.out.mono ?_; clear C; rintro e w' ⟨rfl, rfl⟩)
    go_ret2
    exact ⟨rfl, rfl⟩
end

end Go.Proofs.YthpghcidocjanaaDoor
