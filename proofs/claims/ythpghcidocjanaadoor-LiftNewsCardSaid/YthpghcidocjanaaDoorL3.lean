/- The laws LiftThree and LiftCommon, walked. -/
import Derived.Test.YthpghcidocjanaaDoorT20
import Derived.Test.YthpghcidocjanaaDoorP5
import Derived.BigGuardPart
namespace Go.Proofs.YthpghcidocjanaaDoor
open Go.RowKit

section
variable {n : Nat} {p : Nat → Int}

theorem cmnR_in {a b : Nat} (ha : a < n) (hb : b < n) : cmnR n p a b = cmn n p a b := by
  unfold cmnR
  rw [if_pos (by omega)]
  simp

theorem abvR_in (h : Forest n p) {v a : Nat} (hv : v < n) (ha : a < n) : abvR n p v a = inLine n p a (v : Int) := by
  unfold abvR
  rw [cmnR_in hv ha, Bool.eq_iff_iff, decide_eq_true_eq]
  exact cmn_above h hv

theorem depR_in' {v : Nat} (hv : v < n) : depR n p v = (dep n p v : Nat) := by
  unfold depR
  rw [if_pos (by omega)]
  simp

/-- All that LiftCommon asks. -/
theorem common_facts (h : Forest n p) {a b : Nat} (ha : a < n) (hb : b < n) :
    (∃ c : Nat, c < n ∧ ret2 (cmnR n p a b) = retIB (c : Nat) true ∧ ret2 (cmnR n p b a) = retIB (c : Nat) true ∧ anc p (dep n p a) a = anc p (dep n p b) b ∧ abvR n p c a = true ∧ abvR n p c b = true ∧ abvR n p a b = decide (c = a) ∧
      ∀ v : Nat, v < n → abvR n p v a = true → abvR n p v b = abvR n p v c) ∨
    (ret2 (cmnR n p a b) = retIB 0 false ∧ ret2 (cmnR n p b a) = retIB 0 false ∧ anc p (dep n p a) a ≠ anc p (dep n p b) b ∧ abvR n p a b = false ∧ ∀ v : Nat, v < n → abvR n p v a = true → abvR n p v b = false) := by
  rw [cmnR_in ha hb, cmnR_in hb ha, ← cmn_comm h ha hb]
  cases hc : cmn n p a b with
  | some c0 =>
    left
    obtain ⟨c, rfl, hcn, la, lb, da, db, hl⟩ := cmn_spec h ha hb hc
    have hr := (cmn_isSome h ha hb).1 (by rw [hc]; rfl)
    refine ⟨c, hcn, rfl, rfl, hr, by rw [abvR_in h hcn ha]; exact la, by rw [abvR_in h hcn hb]; exact lb, ?_, fun v hv hva => ?_⟩
    · unfold abvR
      rw [cmnR_in ha hb, hc, Bool.eq_iff_iff, decide_eq_true_eq, decide_eq_true_eq]
      constructor
      · intro e; have := Option.some.inj e; omega
      · intro e; rw [e]
    · rw [abvR_in h hv ha] at hva
      rw [abvR_in h hv hb, abvR_in h hv hcn, Bool.eq_iff_iff]
      exact ⟨fun hvb => hl v hva hvb, fun hvc => line_trans h hb lb hvc⟩
  | none =>
    right
    have hr : anc p (dep n p a) a ≠ anc p (dep n p b) b := fun e => by
      have := (cmn_isSome h ha hb).2 e
      rw [hc] at this
      cases this
    refine ⟨rfl, rfl, hr, ?_, fun v hv hva => ?_⟩
    · unfold abvR
      rw [cmnR_in ha hb, hc]
      rfl
    · rw [abvR_in h hv ha] at hva
      rw [abvR_in h hv hb]
      exact cmn_none_line hc v hva

theorem self_facts {a : Nat} (ha : a < n) : ret2 (cmnR n p a a) = retIB (a : Nat) true := by
  rw [cmnR_in ha ha, cmn_self]
  rfl
end

set_option maxHeartbeats 4000000 in
set_option maxRecDepth 100000 in
theorem LiftCommon_any {w : World} {ao : Option Addr} {m c : Nat} {l : Nat → Nat} (hl : ByAt w ao m l) (hmc : m ≤ c) (hm : c ≤ 9223372036854775807) (ht : TzTab w) (t : Bool) (x y : Nat) (hx : x < 65536) (hy : y < 65536) :
    Calls Tryd.prog 8 #[.slice ao m c, .bool t, .int .u16 x, .int .u16 y] w fun e w' => e = .returned (.bool true) ∧ Same' w w' := by
  have C := hide (made_at hl hmc hm ht t)
  clear hl ht hmc hm
  go_enter Tryd.func8, Tryd.ntmps8
  go_wp2_with fail
  refine C.out.mono ?_
  clear C
  rintro e w1 ⟨b0, n, po, pc, p, rfl, hn, hO⟩
  have hF := hide hO.F
  by_cases h0 : n = 0
  · subst h0
    have C14 := hide (works_at hO.tz)
    have HO := hide hO.fr
    clear hO
    go_wp2_with ((go_at_call 14; refine C14.out.mono ?_; clear C14; rintro e w' ⟨rfl, hf⟩))
    go_ret
    exact ⟨rfl, HO.out.trans hf⟩
  · have hn0 : 0 < n := by omega
    obtain ⟨a, ha⟩ : ∃ v : Nat, (x : Int) % (n : Int) = (v : Nat) := ⟨x % n, (Int.natCast_emod x n).symm⟩
    obtain ⟨b, hb⟩ : ∃ v : Nat, (y : Int) % (n : Int) = (v : Nat) := ⟨y % n, (Int.natCast_emod y n).symm⟩
    have han : a < n := by
      have := Int.emod_lt_of_pos (x : Int) (show (0 : Int) < n by omega)
      omega
    have hbn : b < n := by
      have := Int.emod_lt_of_pos (y : Int) (show (0 : Int) < n by omega)
      omega
    obtain ⟨r, hr, hrn, _⟩ := hF.out.root han
    obtain ⟨s, hs, hsn, _⟩ := hF.out.root hbn
    have KA := common_facts hF.out han hbn
    have Kr : ret2 (rootR n p a) = retIB (r : Nat) true := by
      unfold rootR
      rw [if_pos (by omega)]
      simp only [Int.toNat_natCast, hr]
      rfl
    have Ks : ret2 (rootR n p b) = retIB (s : Nat) true := by
      unfold rootR
      rw [if_pos (by omega)]
      simp only [Int.toNat_natCast, hs]
      rfl
    rw [hr, hs] at KA
    have KK := hide (And.intro Kr (And.intro Ks (self_facts (p := p) han)))
    have HX := hide (And.intro ha (And.intro hb (And.intro hx hy)))
    have g0 : ((n : Int) == 0) = false := by rw [beq_eq_false_iff_ne]; omega
    have g1 : ((a : Int) != (a : Int)) = false := by simp
    have hn0' : (0 : Int) < n := by omega
    have x1 : IntKind.i64.wrap (x : Int) = x := by rw [IntKind.wrap_i64]; omega
    have y1 : IntKind.i64.wrap (y : Int) = y := by rw [IntKind.wrap_i64]; omega
    have x3 : (x : Int).tmod (n : Int) = a := by rw [Int.tmod_eq_emod_of_nonneg (by omega)]; exact ha
    have y3 : (y : Int).tmod (n : Int) = b := by rw [Int.tmod_eq_emod_of_nonneg (by omega)]; exact hb
    have HN := hide (And.intro hn (And.intro han hbn))
    clear hr hs hrn hsn Kr Ks ha hb hx hy h0 hn0
    go_wp2_with fail
    go_quiet (fail)
    have hO := hO.step ((Fr.refl _ _).drewN nq)
    clear x1 y1 x3 y3
    rcases KA with ⟨c', hcn, k1, k2, hrs, ca, cb, ab, hall⟩ | ⟨k1, k2, hrs, ab, hall⟩
    · have hrs' : s = r := by omega
      subst hrs'
      have K2 := hide (And.intro k1 (And.intro k2 (And.intro ca (And.intro cb ab))))
      have HA := hide hall
      have g2 : ((c' : Int) != (c' : Int)) = false := by simp
      have g3 : ((s : Int) == (s : Int)) = true := by simp
      clear k1 k2 ca cb hall hrs
      go_wp2_with (first
        | (go_at_call 15; refine (hO.root _).mono ?_; clear hO; rintro e w2 ⟨he, hO⟩; (first | rw [KK.out.1] at he | rw [KK.out.2.1] at he); subst he)
        | (go_at_call 17; refine (hO.common _ _).mono ?_; clear hO; rintro e w2 ⟨he, hO⟩; (first | rw [K2.out.1] at he | rw [K2.out.2.1] at he | rw [KK.out.2.2] at he); subst he))
      go_loopg [23] n (fun f i wr => ∃ k : Nat, i = .int .i64 k ∧ k + f = n ∧ On w b0 n po p wr)
      case atStart => exact ⟨0, rfl, by omega, hO⟩
      case round =>
        clear hO
        obtain ⟨k, rfl, hk, hO⟩ := hrel
        by_cases hlt : k < n
        · have hd : decide (k < n) = true := by simpa using hlt
          cases hva : abvR n p k a with
          | true =>
            have hvb := HA.out k hlt hva
            generalize hu : abvR n p k c' = u at hvb
            have KV := hide (And.intro hva (And.intro hvb hu))
            have g4 : (u != u) = false := by simp
            clear hva hvb hu
            go_wp2_with (go_at_call 25; refine (hO.above _ _).mono ?_; clear hO; rintro e w2 ⟨he, hO⟩; (first | rw [KV.out.1] at he | rw [KV.out.2.1] at he | rw [KV.out.2.2] at he); subst he)
            go_roundg (gk - 1)
            case measure => omega
            case rel => exact ⟨k + 1, by go_num, by omega, hO⟩
          | false =>
            have KV := hide hva
            clear hva
            go_wp2_with (go_at_call 25; refine (hO.above _ _).mono ?_; clear hO; rintro e w2 ⟨he, hO⟩; rw [KV.out] at he; subst he)
            go_roundg (gk - 1)
            case measure => omega
            case rel => exact ⟨k + 1, by go_num, by omega, hO⟩
        · have hd : decide (k < n) = false := by simpa using hlt
          by_cases hca : c' = a
          · have e1 : ((c' : Int) == (a : Int)) = true := by rw [beq_iff_eq]; omega
            have hab : abvR n p a b = true := by rw [K2.out.2.2.2.2]; simpa using hca
            have KV := hide hab
            clear hca hab
            go_wp2_with (first
              | (go_at_call 25; refine (hO.above _ _).mono ?_; clear hO; rintro e w2 ⟨he, hO⟩; (first | rw [K2.out.2.2.1] at he | rw [K2.out.2.2.2.1] at he | rw [KV.out] at he); subst he)
              | (go_at_call 14; refine (works_at hO.tz).mono ?_; rintro e w3 ⟨rfl, hf⟩))
            go_ret
            exact ⟨rfl, hO.fr.trans hf⟩
          · have e1 : ((c' : Int) == (a : Int)) = false := by rw [beq_eq_false_iff_ne]; omega
            have hab : abvR n p a b = false := by rw [K2.out.2.2.2.2]; simpa using hca
            have KV := hide hab
            clear hca hab
            go_wp2_with (first
              | (go_at_call 25; refine (hO.above _ _).mono ?_; clear hO; rintro e w2 ⟨he, hO⟩; (first | rw [K2.out.2.2.1] at he | rw [K2.out.2.2.2.1] at he | rw [KV.out] at he); subst he)
              | (go_at_call 14; refine (works_at hO.tz).mono ?_; rintro e w3 ⟨rfl, hf⟩))
            go_ret
            exact ⟨rfl, hO.fr.trans hf⟩
    · have K2 := hide (And.intro k1 (And.intro k2 ab))
      have HA := hide hall
      have g3 : ((r : Int) == (s : Int)) = false := by rw [beq_eq_false_iff_ne]; exact hrs
      clear k1 k2 ab hall hrs
      go_wp2_with (first
        | (go_at_call 15; refine (hO.root _).mono ?_; clear hO; rintro e w2 ⟨he, hO⟩; (first | rw [KK.out.1] at he | rw [KK.out.2.1] at he); subst he)
        | (go_at_call 17; refine (hO.common _ _).mono ?_; clear hO; rintro e w2 ⟨he, hO⟩; (first | rw [K2.out.1] at he | rw [K2.out.2.1] at he | rw [KK.out.2.2] at he); subst he))
      go_loopg [23] n (fun f i wr => ∃ k : Nat, i = .int .i64 k ∧ k + f = n ∧ On w b0 n po p wr)
      case atStart => exact ⟨0, rfl, by omega, hO⟩
      case round =>
        clear hO
        obtain ⟨k, rfl, hk, hO⟩ := hrel
        by_cases hlt : k < n
        · have hd : decide (k < n) = true := by simpa using hlt
          cases hva : abvR n p k a with
          | true =>
            have hvb := HA.out k hlt hva
            have KV := hide (And.intro hva hvb)
            clear hva hvb
            go_wp2_with (go_at_call 25; refine (hO.above _ _).mono ?_; clear hO; rintro e w2 ⟨he, hO⟩; (first | rw [KV.out.1] at he | rw [KV.out.2] at he); subst he)
            go_roundg (gk - 1)
            case measure => omega
            case rel => exact ⟨k + 1, by go_num, by omega, hO⟩
          | false =>
            have KV := hide hva
            clear hva
            go_wp2_with (go_at_call 25; refine (hO.above _ _).mono ?_; clear hO; rintro e w2 ⟨he, hO⟩; rw [KV.out] at he; subst he)
            go_roundg (gk - 1)
            case measure => omega
            case rel => exact ⟨k + 1, by go_num, by omega, hO⟩
        · have hd : decide (k < n) = false := by simpa using hlt
          go_wp2_with (first
            | (go_at_call 25; refine (hO.above _ _).mono ?_; clear hO; rintro e w2 ⟨he, hO⟩; rw [K2.out.2.2] at he; subst he)
            | (go_at_call 14; refine (works_at hO.tz).mono ?_; rintro e w3 ⟨rfl, hf⟩))
          go_ret
          exact ⟨rfl, hO.fr.trans hf⟩

end Go.Proofs.YthpghcidocjanaaDoor
