/- The law LiftAbove, walked. -/
import Derived.Test.YthpghcidocjanaaDoorL3
namespace Go.Proofs.YthpghcidocjanaaDoor
open Go.RowKit

section
variable {n : Nat} {p : Nat → Int}

theorem above_facts (h : Forest n p) {v a : Nat} (hv : v < n) (ha : a < n) :
    (abvR n p a v = true ∧ ret2 (upR n p v ((dep n p v : Int) - (dep n p a : Int))) = retIB (a : Nat) true ∧ inLine n p v (a : Int) = true) ∨
    (abvR n p a v = false ∧ inLine n p v (a : Int) = false ∧ ((∃ z : Int, ret2 (upR n p v ((dep n p v : Int) - (dep n p a : Int))) = retIB z true ∧ (z == (a : Int)) = false) ∨ ret2 (upR n p v ((dep n p v : Int) - (dep n p a : Int))) = retIB 0 false)) := by
  rw [abvR_in h ha hv]
  cases hl : inLine n p v (a : Int) with
  | true =>
    left
    obtain ⟨h1, _, h3, _⟩ := line_dep h hv hl
    refine ⟨rfl, ?_, rfl⟩
    have e : upR n p v ((dep n p v : Int) - (dep n p a : Int)) = some (a : Int) := by
      unfold upR
      rw [if_pos (by simp; omega)]
      rw [show ((dep n p v : Int) - (dep n p a : Int)).toNat = dep n p v - dep n p a by omega, Int.toNat_natCast, h3]
    rw [e]
    rfl
  | false =>
    right
    refine ⟨rfl, rfl, ?_⟩
    by_cases hd : dep n p a ≤ dep n p v
    · left
      obtain ⟨u, hu, _, _⟩ := h.anc_dep hv (show dep n p v - dep n p a ≤ dep n p v by omega)
      have e : upR n p v ((dep n p v : Int) - (dep n p a : Int)) = some (u : Int) := by
        unfold upR
        rw [if_pos (by simp; omega)]
        rw [show ((dep n p v : Int) - (dep n p a : Int)).toNat = dep n p v - dep n p a by omega, Int.toNat_natCast, hu]
      refine ⟨u, by rw [e]; rfl, ?_⟩
      rw [beq_eq_false_iff_ne]
      intro e2
      rw [Bool.eq_false_iff] at hl
      exact hl (inLine_iff.2 ⟨dep n p v - dep n p a, by omega, by rw [hu, e2]⟩)
    · right
      have e : upR n p v ((dep n p v : Int) - (dep n p a : Int)) = none := by
        unfold upR
        rw [if_neg (by omega)]
      rw [e]
      rfl

theorem cnt_le (Q : Nat → Bool) (k : Nat) : cnt k Q ≤ k := by
  induction k with
  | zero => simp [cnt]
  | succ k ih =>
    simp only [cnt]
    cases Q k <;> simp <;> omega

theorem cnt_succ (Q : Nat → Bool) (k : Nat) : cnt (k + 1) Q = cnt k Q + (Q k).toNat := rfl
end

set_option maxHeartbeats 4000000 in
set_option maxRecDepth 1000000 in
theorem LiftAbove_any {w : World} {ao : Option Addr} {m c : Nat} {l : Nat → Nat} (hl : ByAt w ao m l) (hmc : m ≤ c) (hm : c ≤ 9223372036854775807) (ht : TzTab w) (t : Bool) (x : Nat) (hx : x < 65536) :
    Calls Tryd.prog 9 #[.slice ao m c, .bool t, .int .u16 x] w fun e w' => e = .returned (.bool true) ∧ Same' w w' := by
  have C := hide (made_at hl hmc hm ht t)
  clear hl ht hmc hm
  go_enter Tryd.func9, Tryd.ntmps9
  go_wp2_with fail
  refine C.out.mono ?_
  clear C
  rintro e w1 ⟨b0, n, po, pc, p, rfl, hn, hO⟩
  have hF := hide hO.F
  by_cases h0 : n = 0
  · subst h0
    have ha : abvR 0 p 0 0 = false := by
      unfold abvR cmnR
      rw [if_neg (by omega)]
      rfl
    have HA := hide ha
    clear ha
    go_wp2_with (first
      | (go_at_call 25; refine (hO.above _ _).mono ?_; clear hO; rintro e w2 ⟨he, hO⟩; rw [HA.out] at he; subst he)
      | (go_at_call 14; refine (works_at hO.tz).mono ?_; rintro e w3 ⟨rfl, hf⟩))
    go_ret
    exact ⟨rfl, hO.fr.trans hf⟩
  · have hn0 : 0 < n := by omega
    obtain ⟨v, hv⟩ : ∃ v : Nat, (x : Int) % (n : Int) = (v : Nat) := ⟨x % n, (Int.natCast_emod x n).symm⟩
    have hvn : v < n := by
      have := Int.emod_lt_of_pos (x : Int) (show (0 : Int) < n by omega)
      omega
    have g0 : ((n : Int) == 0) = false := by rw [beq_eq_false_iff_ne]; omega
    have hn0' : (0 : Int) < n := by omega
    have hx2 : (x : Int) < 65536 := by omega
    have HC := hide (line_count hF.out hvn)
    have dv := hF.out.dep_lt hvn
    have Kd := depR_in' (p := p) hvn
    have KD := hide (And.intro Kd dv)
    have HN := hide (And.intro hn hvn)
    clear h0 hn0 hx hn hvn Kd dv
    go_wp2_with fail
    (try rw [hv])
    clear hv hx2
    go_loopg [10, 11] n (fun f ct i wr => ∃ k : Nat, i = .int .i64 k ∧ k + f = n ∧ ct = .int .i64 (cnt k (fun a => inLine n p v (a : Int)) : Nat) ∧ On w b0 n po p wr)
    case atStart => exact ⟨0, rfl, by omega, rfl, hO⟩
    case round =>
      clear hO
      obtain ⟨k, rfl, hk, rfl, hO⟩ := hrel
      have hck := cnt_le (fun a => inLine n p v (a : Int)) k
      have hcs := cnt_succ (fun a => inLine n p v (a : Int)) k
      have HS := hide hcs
      generalize hcc : cnt k (fun a => inLine n p v (a : Int)) = ck at *
      have HK := hide hcc
      clear hcs hcc
      obtain ⟨hn, hvn⟩ := HN.out
      by_cases hlt : k < n
      · have hd : decide (k < n) = true := by simpa using hlt
        have Kk := depR_in' (p := p) hlt
        have dk := hF.out.dep_lt hlt
        have d9 : (dep n p k : Int) < 300 := by omega
        have v9 : (dep n p v : Int) < 300 := by have := KD.out.2; omega
        have c9 : (ck : Int) < 300 := by omega
        rcases above_facts hF.out hvn hlt with ⟨a1, a2, a3⟩ | ⟨a1, a3, ⟨z, a2, a4⟩ | a2⟩
        · have KV := hide (And.intro a1 (And.intro a2 (And.intro KD.out.1 Kk)))
          have HI := hide a3
          have g1 : ((k : Int) == (k : Int)) = true := by simp
          generalize dep n p k = u at *
          generalize dep n p v = s at *
          clear a1 a2 a3 Kk dk
          go_wp2_with (first
            | (go_at_call 13; refine (hO.depth _).mono ?_; rintro e w2 ⟨he, rfl⟩; (first | rw [KV.out.2.2.1] at he | rw [KV.out.2.2.2] at he); subst he)
            | (go_at_call 16; refine (hO.up _ _).mono ?_; clear hO; rintro e w2 ⟨he, hO⟩; rw [KV.out.2.1] at he; subst he)
            | (go_at_call 25; refine (hO.above _ _).mono ?_; clear hO; rintro e w2 ⟨he, hO⟩; rw [KV.out.1] at he; subst he))
          go_roundg (gk - 1)
          case measure => omega
          case rel => exact ⟨k + 1, by go_num, by omega, by rw [HS.out, HI.out]; go_num, hO⟩
        · have KV := hide (And.intro a1 (And.intro a2 (And.intro KD.out.1 Kk)))
          have HI := hide a3
          generalize dep n p k = u at *
          generalize dep n p v = s at *
          clear a1 a2 a3 Kk dk
          go_wp2_with (first
            | (go_at_call 13; refine (hO.depth _).mono ?_; rintro e w2 ⟨he, rfl⟩; (first | rw [KV.out.2.2.1] at he | rw [KV.out.2.2.2] at he); subst he)
            | (go_at_call 16; refine (hO.up _ _).mono ?_; clear hO; rintro e w2 ⟨he, hO⟩; rw [KV.out.2.1] at he; subst he)
            | (go_at_call 25; refine (hO.above _ _).mono ?_; clear hO; rintro e w2 ⟨he, hO⟩; rw [KV.out.1] at he; subst he))
          go_roundg (gk - 1)
          case measure => omega
          case rel => exact ⟨k + 1, by go_num, by omega, by rw [HS.out, HI.out]; go_num, hO⟩
        · have KV := hide (And.intro a1 (And.intro a2 (And.intro KD.out.1 Kk)))
          have HI := hide a3
          generalize dep n p k = u at *
          generalize dep n p v = s at *
          clear a1 a2 a3 Kk dk
          go_wp2_with (first
            | (go_at_call 13; refine (hO.depth _).mono ?_; rintro e w2 ⟨he, rfl⟩; (first | rw [KV.out.2.2.1] at he | rw [KV.out.2.2.2] at he); subst he)
            | (go_at_call 16; refine (hO.up _ _).mono ?_; clear hO; rintro e w2 ⟨he, hO⟩; rw [KV.out.2.1] at he; subst he)
            | (go_at_call 25; refine (hO.above _ _).mono ?_; clear hO; rintro e w2 ⟨he, hO⟩; rw [KV.out.1] at he; subst he))
          go_roundg (gk - 1)
          case measure => omega
          case rel => exact ⟨k + 1, by go_num, by omega, by rw [HS.out, HI.out]; go_num, hO⟩
      · have hd : decide (k < n) = false := by simpa using hlt
        have hkn : k = n := by omega
        have hc : ck = dep n p v + 1 := by rw [← HK.out, hkn]; exact HC.out
        have g1 : ((ck : Int) == (dep n p v : Int) + 1) = true := by rw [beq_iff_eq]; omega
        have v9 : (dep n p v : Int) < 300 := by have := KD.out.2; omega
        have KV := hide KD.out.1
        generalize dep n p v = s at *
        clear hc hkn HK HC
        go_wp2_with (first
          | (go_at_call 13; refine (hO.depth _).mono ?_; rintro e w2 ⟨he, rfl⟩; rw [KV.out] at he; subst he)
          | (go_at_call 14; refine (works_at hO.tz).mono ?_; rintro e w3 ⟨rfl, hf⟩))
        go_ret
        exact ⟨rfl, hO.fr.trans hf⟩

end Go.Proofs.YthpghcidocjanaaDoor
