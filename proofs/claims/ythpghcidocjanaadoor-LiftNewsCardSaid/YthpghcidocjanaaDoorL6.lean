/- The law LiftClimbs, walked. -/
import Derived.Test.YthpghcidocjanaaDoorL3
import Derived.Test.YthpghcidocjanaaDoorP6
import Derived.OpenShut
namespace Go.Proofs.YthpghcidocjanaaDoor
open Go.RowKit

theorem info2 : (Tryd.prog.info? 2).map (fun i => (i.zero, i.size, i.bytes)) = some (some (.int .i64 0), 1, 8) := by kernel_rfl

/-- What lies in a slice of small numbers. -/
def SmAt (w : World) (ao : Option Addr) (m : Nat) (f : Nat → Int) : Prop := ∀ i, i < m → ∃ ad, ao = some ad ∧ w.cell? (ad.add i) = some (.int .i16 (f i)) ∧ -32768 ≤ f i ∧ f i < 32768

theorem SmAt.keep {w w' : World} {ao : Option Addr} {m : Nat} {f : Nat → Int} (h : SmAt w ao m f) (hf : Same' w w') : SmAt w' ao m f := fun i hi => by
  obtain ⟨ad, h1, h2, h3⟩ := h i hi
  exact ⟨ad, h1, (hf.cell (block_lt_of_cell h2) id).trans h2, h3⟩

/-- A table, and its keys. -/
def OnK (w : World) (b n : Nat) (po : Option Addr) (p : Nat → Int) (ko : Option Addr) (key : Nat → Int) (W : World) : Prop := On w b n po p W ∧ KeyAt W ko n key

theorem OnK.step {w : World} {b n : Nat} {po : Option Addr} {p : Nat → Int} {ko : Option Addr} {key : Nat → Int} {W W' : World} (h : OnK w b n po p ko key W) (hf : Same' W W') : OnK w b n po p ko key W' :=
  ⟨h.1.step hf, h.2.keep hf⟩

section
variable {w W : World} {b n : Nat} {po : Option Addr} {p : Nat → Int} {ko : Option Addr} {key : Nat → Int}

theorem OnK.climb (h : OnK w b n po p ko key W) {v : Nat} (hv : v < n) (mx : Int) (kc : Nat) :
    Calls Tryd.prog 23 #[.pointer (some ⟨b, 0, none⟩), .int .i64 v, .slice ko n kc, .int .i64 mx] W fun e w' => e = retIE (clb p key mx n v : Nat) 0 ∧ OnK w b n po p ko key w' :=
  (h.1.full.full.climb_in hv mx ko kc key h.2).mono fun _ _ hh => ⟨hh.1, h.step hh.2⟩

theorem OnK.climb_few (h : OnK w b n po p ko key W) {v : Nat} (hv : v < n) (mx : Int) (kn kc : Nat) (hk : kn ≠ n) :
    Calls Tryd.prog 23 #[.pointer (some ⟨b, 0, none⟩), .int .i64 v, .slice ko kn kc, .int .i64 mx] W fun e w' => e = retIE 0 2 ∧ OnK w b n po p ko key w' :=
  (h.1.full.full.climb_len hv mx ko kn kc hk).mono fun _ _ hh => ⟨hh.1, h.step hh.2⟩

theorem OnK.climb_out (h : OnK w b n po p ko key W) (mx : Int) (kn kc : Nat) :
    Calls Tryd.prog 23 #[.pointer (some ⟨b, 0, none⟩), .int .i64 (n : Nat), .slice ko kn kc, .int .i64 mx] W fun e w' => e = retIE 0 3 ∧ OnK w b n po p ko key w' :=
  (h.1.full.full.climb_out (v := (n : Int)) (by omega) mx ko kn kc).mono fun _ _ hh => ⟨hh.1, h.step hh.2⟩

theorem OnK.root (h : OnK w b n po p ko key W) (v : Int) : Calls Tryd.prog 15 #[.pointer (some ⟨b, 0, none⟩), .int .i64 v] W fun e w' => e = ret2 (rootR n p v) ∧ OnK w b n po p ko key w' :=
  (h.1.full.full.root h.1.tz v).mono fun _ _ hh => ⟨hh.1, h.step hh.2⟩

theorem OnK.above (h : OnK w b n po p ko key W) (x y : Int) : Calls Tryd.prog 25 #[.pointer (some ⟨b, 0, none⟩), .int .i64 x, .int .i64 y] W fun e w' => e = .returned (.bool (abvR n p x y)) ∧ OnK w b n po p ko key w' :=
  (h.1.full.full.above h.1.tz x y).mono fun _ _ hh => ⟨hh.1, h.step hh.2⟩

theorem OnK.up (h : OnK w b n po p ko key W) (v k : Int) : Calls Tryd.prog 16 #[.pointer (some ⟨b, 0, none⟩), .int .i64 v, .int .i64 k] W fun e w' => e = ret2 (upR n p v k) ∧ OnK w b n po p ko key w' :=
  (h.1.full.full.up h.1.tz v k).mono fun _ _ hh => ⟨hh.1, h.step hh.2⟩

theorem OnK.depth (h : OnK w b n po p ko key W) (v : Int) : Calls Tryd.prog 13 #[.pointer (some ⟨b, 0, none⟩), .int .i64 v] W fun e w' => e = .returned (.int .i64 (depR n p v)) ∧ W = w' := h.1.depth v
end

set_option maxHeartbeats 8000000 in
set_option maxRecDepth 1000000 in
theorem LiftClimbs_any {w : World} {ao : Option Addr} {m c : Nat} {l : Nat → Nat} (hl : ByAt w ao m l) (hmc : m ≤ c) (hm : c ≤ 9223372036854775807) (ht : TzTab w) (t : Bool)
    {qo : Option Addr} {q qc : Nat} {f : Nat → Int} (hq : SmAt w qo q f) (hqm : q ≤ 9223372036854775807) (x : Nat) (hx : x < 65536) (lo hi : Int) (hlo : -32768 ≤ lo ∧ lo < 32768) (hhi : -32768 ≤ hi ∧ hi < 32768) :
    Calls Tryd.prog 10 #[.slice ao m c, .bool t, .slice qo q qc, .int .u16 x, .int .i16 lo, .int .i16 hi] w fun e w' => e = .returned (.bool true) ∧ Same' w w' := by
  have C := hide (made_at hl hmc hm ht t)
  have HQ := hide hq
  clear hl ht hmc hm hq
  go_enter Tryd.func10, Tryd.ntmps10
  go_wp2_with fail
  refine C.out.mono ?_
  clear C
  rintro e w1 ⟨b0, n, po, pc, p, rfl, hn, hO⟩
  have hF := hide hO.F
  by_cases h0 : n = 0
  · subst h0
    go_wp2_with ((go_at_call 14; refine (works_at hO.tz).mono ?_; rintro e w' ⟨rfl, hf⟩))
    go_ret
    exact ⟨rfl, hO.fr.trans hf⟩
  by_cases hq0 : q = 0
  · subst hq0
    have g0 : ((n : Int) == 0) = false := by rw [beq_eq_false_iff_ne]; omega
    go_wp2_with ((go_at_call 14; refine (works_at hO.tz).mono ?_; rintro e w' ⟨rfl, hf⟩))
    go_ret
    exact ⟨rfl, hO.fr.trans hf⟩
  · have g0 : ((n : Int) == 0) = false := by rw [beq_eq_false_iff_ne]; omega
    have g1 : ((q : Int) == 0) = false := by rw [beq_eq_false_iff_ne]; omega
    have hq1 : (0 : Int) < q := by omega
    have hqm' : (q : Int) ≤ 9223372036854775807 := by omega
    obtain ⟨key, hkey⟩ : ∃ key : Nat → Int, key = fun i => f (i % q) := ⟨_, rfl⟩
    have HKEY := hide hkey
    have HO := hide hO
    clear hO hkey
    go_wp2_with fail
    go_loopg [15, 16] n (fun g v i wr => ∃ (k : Nat) (ko : Option Addr) (kc : Nat), i = .int .i64 k ∧ k + g = n ∧ v = .slice ko k kc ∧ Mine w1 wr 2 k (i64V key) ko kc)
    case atStart => exact ⟨0, none, 0, rfl, by omega, rfl, Mine.nil _ _ (Fr.refl _ _)⟩
    case round =>
      obtain ⟨k, ko, kc, rfl, hk, rfl, hM⟩ := hrel
      by_cases hlt : k < n
      · have hd : decide (k < n) = true := by simpa using hlt
        obtain ⟨r, hr⟩ : ∃ r : Nat, (k : Int) % (q : Int) = (r : Nat) := ⟨k % q, (Int.natCast_emod k q).symm⟩
        have hrq : r < q := by
          have := Int.emod_lt_of_pos (k : Int) hq1
          omega
        have hkr : key k = f r := by
          rw [HKEY.out]
          have : k % q = r := by have := Int.natCast_emod k q; omega
          simp only [this]
        obtain ⟨ad, rfl, hc, hb1, hb2⟩ := (HQ.out.keep (HO.out.fr.trans hM.fr)) r hrq
        have hgv : i64V key k = .int .i64 (f r) := by unfold i64V; rw [hkr]
        have HG := hide hgv
        have HM := hide hM
        have r1 : (r : Int) < (q : Int) := by omega
        generalize f r = z at *
        clear hgv hM hkr hrq
        go_wp2_with (at_builtin; refine wpList_app1 _ rfl _ _ 34 rfl 2 (.int .i64 0) 8 Tryd.underlying34 info2 rfl ko k kc ((List.range k).map (i64V key)) rfl HM.out.own _ (.int .i64 z) rfl rfl (by unfold maxLen; omega) (by omega) ?_)
        intro g' cap' w3 hown3 hf3 hg3
        go_wp2
        go_roundg (gk - 1)
        case measure => omega
        case rel => exact ⟨k + 1, some ⟨g', 0, none⟩, cap', by go_num, by omega, rfl, HM.out.snoc HG.out.symm hown3 hf3 hg3⟩
      · have hd : decide (k < n) = false := by simpa using hlt
        have e : n = k := by omega
        subst e
        have hn0 : (0 : Int) < n := by omega
        obtain ⟨v, hv⟩ : ∃ v : Nat, (x : Int) % (n : Int) = (v : Nat) := ⟨x % n, (Int.natCast_emod x n).symm⟩
        have hvn : v < n := by
          have := Int.emod_lt_of_pos (x : Int) hn0
          omega
        have hx2 : (x : Int) < 65536 := by omega
        obtain ⟨A, B, hAB, hcase⟩ : ∃ A B : Int, (-32768 ≤ A ∧ A ≤ B ∧ B < 32768) ∧ ((A < B ∧ lo = A ∧ hi = B) ∨ (A < B ∧ lo = B ∧ hi = A) ∨ (A = B ∧ lo = A ∧ hi = B)) := by
          rcases Int.lt_trichotomy lo hi with h | h | h
          · exact ⟨lo, hi, by omega, .inl ⟨h, rfl, rfl⟩⟩
          · exact ⟨lo, hi, by omega, .inr (.inr ⟨h, rfl, rfl⟩)⟩
          · exact ⟨hi, lo, by omega, .inr (.inl ⟨h, rfl, rfl⟩)⟩
        obtain ⟨hA1, hAB, hB1⟩ := hAB
        have hdn : dep n p v ≤ n := by have := hF.out.dep_lt hvn; omega
        obtain ⟨j, j1, j2, hXn, j4, j5, j6⟩ := clb_spec hF.out key A n v hvn hdn
        have hmono := clb_mono hF.out key hAB hvn
        have hYn := (clb_spec hF.out key B n v hvn hdn).choose_spec.2.2.1
        have hkb : ∀ u, u < n → key u ≤ 9223372036854775807 := fun u hu => by
          rw [HKEY.out]
          obtain ⟨_, _, _, _, h⟩ := HQ.out (u % q) (Nat.mod_lt _ (by omega))
          show f (u % q) ≤ 9223372036854775807
          omega
        have hroot := clb_root hF.out key hkb hvn
        have hRn := (clb_spec hF.out key 9223372036854775807 n v hvn hdn).choose_spec.2.2.1
        have hXX := clb_stop (f := n) j4
        obtain ⟨X, hX⟩ : ∃ X, clb p key A n v = X := ⟨_, rfl⟩
        obtain ⟨Y, hY⟩ : ∃ Y, clb p key B n v = Y := ⟨_, rfl⟩
        obtain ⟨R, hR⟩ : ∃ R, clb p key 9223372036854775807 n v = R := ⟨_, rfl⟩
        rw [hX] at hXn j2 j4 j5 hmono hXX
        rw [hY] at hYn hmono
        rw [hR] at hRn hroot
        have Kr : ret2 (rootR n p v) = retIB (R : Nat) true := by
          unfold rootR
          rw [if_pos (by omega)]
          simp only [Int.toNat_natCast, hroot]
          rfl
        have a1 : abvR n p X v = true := by rw [abvR_in hF.out hXn hvn]; exact inLine_iff.2 ⟨j, j1, j2⟩
        have a2 : abvR n p Y X = true := by rw [abvR_in hF.out hYn hXn]; exact hmono
        have d1 := depR_in' (p := p) hvn
        have d2 := depR_in' (p := p) hXn
        have KC := hide (And.intro hX (And.intro hY (And.intro hR hXX)))
        have KA := hide (And.intro Kr (And.intro a1 (And.intro a2 (And.intro d1 d2))))
        have hOK : OnK w b0 n po p ko key wr := ⟨HO.out.step hM.fr, hM.key2⟩
        have hcap : n ≤ kc := by
          rcases hM.row with ⟨_, h⟩ | ⟨g, _, hr, _⟩
          · omega
          · obtain ⟨_, _, h, _⟩ := hr; exact h
        have HUP : Hid (∀ k : Nat, 1 ≤ k → k ≤ j → ∃ u : Nat, u < n ∧ ret2 (upR n p v k) = retIB (u : Nat) true ∧ key u ≤ A) := by
          intro k k1 k2
          obtain ⟨u, hu, hun, _⟩ := hF.out.anc_dep hvn (show k ≤ dep n p v by omega)
          refine ⟨u, hun, ?_, ?_⟩
          · have e : upR n p v k = some (u : Int) := by
              unfold upR
              rw [if_pos (by simp; omega)]
              simp [hu]
            rw [e]
            rfl
          · have := j6 k k1 k2
            rw [hu, Int.toNat_natCast] at this
            exact this
        have hdj : ((dep n p v : Nat) : Int) - ((dep n p X : Nat) : Int) = ((j : Nat) : Int) := by omega
        have HD := hide hdj
        clear hdj
        have h9 : (dep n p v : Int) < 301 := by omega
        have h8 : (dep n p X : Int) < 301 := by omega
        generalize dep n p v = D at *
        generalize dep n p X = Dx at *
        have J4 := hide j4
        have HPX := hide (hF.out.par X hXn)
        clear hX hY hR hXX Kr a1 a2 d1 d2 j1 j2 j4 j5 j6 hmono hkb hroot hM hk hlt hdn
        clear HQ HKEY HO hF
        have g2 : ((X : Int) != (X : Int)) = false := by simp
        have g3 : ((R : Int) != (R : Int)) = false := by simp
        have g4 : decide ((X : Int) < 0) = false := by simp
        have g5 : decide (n ≤ X) = false := by simp; omega
        have hXi : (X : Int) < n := by omega
        have hni : (n : Int) ≤ 300 := by omega
        have hce : ∀ W, OnK w b0 n po p ko key W → ∃ pd kd, po = some pd ∧ ko = some kd ∧ W.cell? (pd.add X) = some (.int .i64 (p X)) ∧ ∀ u : Nat, u < n → W.cell? (kd.add u) = some (.int .i64 (key u)) := by
          intro W hW
          obtain ⟨pd, e1, c1⟩ := hW.1.key X hXn
          obtain ⟨kd, e2, _⟩ := hW.2 X hXn
          refine ⟨pd, kd, e1, e2, c1, fun u hu => ?_⟩
          obtain ⟨kd', e3, c3⟩ := hW.2 u hu
          rw [e2] at e3
          cases e3
          exact c3
        obtain ⟨pd, kd, rfl, rfl, _, _⟩ := hce wr hOK
        have HCE : Hid (∀ W, OnK w b0 n (some pd) p (some kd) key W → W.cell? (pd.add X) = some (.int .i64 (p X)) ∧ ∀ u : Nat, u < n → W.cell? (kd.add u) = some (.int .i64 (key u))) := by
          intro W hW
          obtain ⟨pd', kd', e1, e2, c1, c2⟩ := hce W hW
          cases e1
          cases e2
          exact ⟨c1, c2⟩
        clear hce
        have hO := hOK
        clear hOK
        rcases hcase with ⟨hc, rfl, rfl⟩ | ⟨hc, rfl, rfl⟩ | ⟨hc, rfl, rfl⟩
        · go_wp2_with fail
          (try rw [hv])
          clear hv hx2
          (with_reducible refine (hO.climb hvn _ _).mono ?_); clear hO; rintro e w2 ⟨he, hO⟩; (first | rw [KC.out.1] at he | rw [KC.out.2.1] at he | rw [KC.out.2.2.1] at he); subst he
          go_wp2_with fail
          (with_reducible refine (hO.climb hvn _ _).mono ?_); clear hO; rintro e w2 ⟨he, hO⟩; (first | rw [KC.out.1] at he | rw [KC.out.2.1] at he | rw [KC.out.2.2.1] at he); subst he
          go_wp2_with fail
          (with_reducible refine (hO.climb hXn _ _).mono ?_); clear hO; rintro e w2 ⟨he, hO⟩; rw [KC.out.2.2.2] at he; subst he
          go_wp2_with fail
          (with_reducible refine (hO.climb hvn _ _).mono ?_); clear hO; rintro e w2 ⟨he, hO⟩; (first | rw [KC.out.1] at he | rw [KC.out.2.1] at he | rw [KC.out.2.2.1] at he); subst he
          go_wp2_with fail
          refine (hO.root _).mono ?_; clear hO; rintro e w2 ⟨he, hO⟩; rw [KA.out.1] at he; subst he
          go_wp2_with fail
          (with_reducible refine (hO.climb_few hvn _ _ _ (by omega)).mono ?_); clear hO; rintro e w2 ⟨rfl, hO⟩
          go_wp2_with fail
          (with_reducible refine (hO.climb_out _ _ _).mono ?_); clear hO; rintro e w2 ⟨rfl, hO⟩
          go_wp2_with fail
          refine (hO.above _ _).mono ?_; clear hO; rintro e w2 ⟨he, hO⟩; rw [KA.out.2.1] at he; subst he
          go_wp2_with fail
          refine (hO.above _ _).mono ?_; clear hO; rintro e w2 ⟨he, hO⟩; rw [KA.out.2.2.1] at he; subst he
          obtain ⟨hcx, hck⟩ := HCE.out _ hO
          have hpx : decide ((0 : Int) ≤ p X) = false ∨ ∃ u : Nat, p X = u ∧ u < n ∧ decide (key u ≤ lo) = false := by
            have h1 := J4.out
            have h2 := HPX.out
            unfold lowB at h1
            by_cases h : (0 : Int) ≤ p X
            · refine .inr ⟨(p X).toNat, by omega, by omega, ?_⟩
              simpa [h] using h1
            · exact .inl (by simpa using h)
          rcases hpx with hpx | ⟨u, hpu, hun, hku⟩
          all_goals (first | (rw [hpu] at hcx; have hcu := hck u hun) | skip)
          all_goals
            clear hck
            go_wp2_with fail
            go_loopg [34] j (fun g i wr => ∃ k : Nat, i = .int .i64 k ∧ 1 ≤ k ∧ k + g = j + 1 ∧ OnK w b0 n (some pd) p (some kd) key wr)
            case atStart => exact ⟨1, rfl, by omega, by omega, hO⟩
            case round =>
              clear hO
              obtain ⟨k, rfl, hk1, hk, hO⟩ := hrel
              by_cases hlt : k ≤ j
              · have hd : decide (k ≤ j) = true := by simpa using hlt
                obtain ⟨u, hun, hup, hku⟩ := HUP.out k hk1 hlt
                go_wp2_with fail
                refine (hO.depth _).mono ?_; rintro e w4 ⟨he, rfl⟩; rw [KA.out.2.2.2.1] at he; subst he
                go_wp2_with fail
                refine (hO.depth _).mono ?_; rintro e w4 ⟨he, rfl⟩; rw [KA.out.2.2.2.2] at he; subst he
                have hds := HD.out
                have hjk : decide ((k : Int) ≤ (D : Int) - (Dx : Int)) = true := by simp; omega
                go_wp2_with fail
                refine (hO.up _ _).mono ?_; clear hO; rintro e w5 ⟨he, hO⟩; rw [hup] at he; subst he
                have hcu2 := (HCE.out _ hO).2 u hun
                have u1 : decide ((u : Int) < 0) = false := by simp
                have u2 : decide (n ≤ u) = false := by simp; omega
                have u3 : decide (lo < key u) = false := by simp; omega
                go_wp2_with fail
                go_roundg (gk - 1)
                case measure => omega
                case rel => exact ⟨k + 1, by go_num, by omega, by omega, hO⟩
              · have hd : decide (k ≤ j) = false := by simpa using hlt
                go_wp2_with fail
                refine (hO.depth _).mono ?_; rintro e w4 ⟨he, rfl⟩; rw [KA.out.2.2.2.1] at he; subst he
                go_wp2_with fail
                refine (hO.depth _).mono ?_; rintro e w4 ⟨he, rfl⟩; rw [KA.out.2.2.2.2] at he; subst he
                have hds := HD.out
                have hjk : decide ((k : Int) ≤ (D : Int) - (Dx : Int)) = false := by simp; omega
                go_wp2_with fail
                refine (works_at hO.1.tz).mono ?_; rintro e w3 ⟨rfl, hf⟩
                go_wp2_with fail
                go_ret
                exact ⟨rfl, hO.1.fr.trans hf⟩
        · go_wp2_with fail
          (try rw [hv])
          clear hv hx2
          (with_reducible refine (hO.climb hvn _ _).mono ?_); clear hO; rintro e w2 ⟨he, hO⟩; (first | rw [KC.out.1] at he | rw [KC.out.2.1] at he | rw [KC.out.2.2.1] at he); subst he
          go_wp2_with fail
          (with_reducible refine (hO.climb hvn _ _).mono ?_); clear hO; rintro e w2 ⟨he, hO⟩; (first | rw [KC.out.1] at he | rw [KC.out.2.1] at he | rw [KC.out.2.2.1] at he); subst he
          go_wp2_with fail
          (with_reducible refine (hO.climb hXn _ _).mono ?_); clear hO; rintro e w2 ⟨he, hO⟩; rw [KC.out.2.2.2] at he; subst he
          go_wp2_with fail
          (with_reducible refine (hO.climb hvn _ _).mono ?_); clear hO; rintro e w2 ⟨he, hO⟩; (first | rw [KC.out.1] at he | rw [KC.out.2.1] at he | rw [KC.out.2.2.1] at he); subst he
          go_wp2_with fail
          refine (hO.root _).mono ?_; clear hO; rintro e w2 ⟨he, hO⟩; rw [KA.out.1] at he; subst he
          go_wp2_with fail
          (with_reducible refine (hO.climb_few hvn _ _ _ (by omega)).mono ?_); clear hO; rintro e w2 ⟨rfl, hO⟩
          go_wp2_with fail
          (with_reducible refine (hO.climb_out _ _ _).mono ?_); clear hO; rintro e w2 ⟨rfl, hO⟩
          go_wp2_with fail
          refine (hO.above _ _).mono ?_; clear hO; rintro e w2 ⟨he, hO⟩; rw [KA.out.2.1] at he; subst he
          go_wp2_with fail
          refine (hO.above _ _).mono ?_; clear hO; rintro e w2 ⟨he, hO⟩; rw [KA.out.2.2.1] at he; subst he
          obtain ⟨hcx, hck⟩ := HCE.out _ hO
          have hpx : decide ((0 : Int) ≤ p X) = false ∨ ∃ u : Nat, p X = u ∧ u < n ∧ decide (key u ≤ hi) = false := by
            have h1 := J4.out
            have h2 := HPX.out
            unfold lowB at h1
            by_cases h : (0 : Int) ≤ p X
            · refine .inr ⟨(p X).toNat, by omega, by omega, ?_⟩
              simpa [h] using h1
            · exact .inl (by simpa using h)
          rcases hpx with hpx | ⟨u, hpu, hun, hku⟩
          all_goals (first | (rw [hpu] at hcx; have hcu := hck u hun) | skip)
          all_goals
            clear hck
            go_wp2_with fail
            go_loopg [34] j (fun g i wr => ∃ k : Nat, i = .int .i64 k ∧ 1 ≤ k ∧ k + g = j + 1 ∧ OnK w b0 n (some pd) p (some kd) key wr)
            case atStart => exact ⟨1, rfl, by omega, by omega, hO⟩
            case round =>
              clear hO
              obtain ⟨k, rfl, hk1, hk, hO⟩ := hrel
              by_cases hlt : k ≤ j
              · have hd : decide (k ≤ j) = true := by simpa using hlt
                obtain ⟨u, hun, hup, hku⟩ := HUP.out k hk1 hlt
                go_wp2_with fail
                refine (hO.depth _).mono ?_; rintro e w4 ⟨he, rfl⟩; rw [KA.out.2.2.2.1] at he; subst he
                go_wp2_with fail
                refine (hO.depth _).mono ?_; rintro e w4 ⟨he, rfl⟩; rw [KA.out.2.2.2.2] at he; subst he
                have hds := HD.out
                have hjk : decide ((k : Int) ≤ (D : Int) - (Dx : Int)) = true := by simp; omega
                go_wp2_with fail
                refine (hO.up _ _).mono ?_; clear hO; rintro e w5 ⟨he, hO⟩; rw [hup] at he; subst he
                have hcu2 := (HCE.out _ hO).2 u hun
                have u1 : decide ((u : Int) < 0) = false := by simp
                have u2 : decide (n ≤ u) = false := by simp; omega
                have u3 : decide (hi < key u) = false := by simp; omega
                go_wp2_with fail
                go_roundg (gk - 1)
                case measure => omega
                case rel => exact ⟨k + 1, by go_num, by omega, by omega, hO⟩
              · have hd : decide (k ≤ j) = false := by simpa using hlt
                go_wp2_with fail
                refine (hO.depth _).mono ?_; rintro e w4 ⟨he, rfl⟩; rw [KA.out.2.2.2.1] at he; subst he
                go_wp2_with fail
                refine (hO.depth _).mono ?_; rintro e w4 ⟨he, rfl⟩; rw [KA.out.2.2.2.2] at he; subst he
                have hds := HD.out
                have hjk : decide ((k : Int) ≤ (D : Int) - (Dx : Int)) = false := by simp; omega
                go_wp2_with fail
                refine (works_at hO.1.tz).mono ?_; rintro e w3 ⟨rfl, hf⟩
                go_wp2_with fail
                go_ret
                exact ⟨rfl, hO.1.fr.trans hf⟩
        · subst hc
          have hXY : Y = X := KC.out.2.1.symm.trans KC.out.1
          rw [hXY] at KC KA
          go_wp2_with fail
          (try rw [hv])
          clear hv hx2
          (with_reducible refine (hO.climb hvn _ _).mono ?_); clear hO; rintro e w2 ⟨he, hO⟩; (first | rw [KC.out.1] at he | rw [KC.out.2.1] at he | rw [KC.out.2.2.1] at he); subst he
          go_wp2_with fail
          (with_reducible refine (hO.climb hvn _ _).mono ?_); clear hO; rintro e w2 ⟨he, hO⟩; (first | rw [KC.out.1] at he | rw [KC.out.2.1] at he | rw [KC.out.2.2.1] at he); subst he
          go_wp2_with fail
          (with_reducible refine (hO.climb hXn _ _).mono ?_); clear hO; rintro e w2 ⟨he, hO⟩; rw [KC.out.2.2.2] at he; subst he
          go_wp2_with fail
          (with_reducible refine (hO.climb hvn _ _).mono ?_); clear hO; rintro e w2 ⟨he, hO⟩; (first | rw [KC.out.1] at he | rw [KC.out.2.1] at he | rw [KC.out.2.2.1] at he); subst he
          go_wp2_with fail
          refine (hO.root _).mono ?_; clear hO; rintro e w2 ⟨he, hO⟩; rw [KA.out.1] at he; subst he
          go_wp2_with fail
          (with_reducible refine (hO.climb_few hvn _ _ _ (by omega)).mono ?_); clear hO; rintro e w2 ⟨rfl, hO⟩
          go_wp2_with fail
          (with_reducible refine (hO.climb_out _ _ _).mono ?_); clear hO; rintro e w2 ⟨rfl, hO⟩
          go_wp2_with fail
          refine (hO.above _ _).mono ?_; clear hO; rintro e w2 ⟨he, hO⟩; rw [KA.out.2.1] at he; subst he
          go_wp2_with fail
          refine (hO.above _ _).mono ?_; clear hO; rintro e w2 ⟨he, hO⟩; rw [KA.out.2.2.1] at he; subst he
          obtain ⟨hcx, hck⟩ := HCE.out _ hO
          have hpx : decide ((0 : Int) ≤ p X) = false ∨ ∃ u : Nat, p X = u ∧ u < n ∧ decide (key u ≤ lo) = false := by
            have h1 := J4.out
            have h2 := HPX.out
            unfold lowB at h1
            by_cases h : (0 : Int) ≤ p X
            · refine .inr ⟨(p X).toNat, by omega, by omega, ?_⟩
              simpa [h] using h1
            · exact .inl (by simpa using h)
          rcases hpx with hpx | ⟨u, hpu, hun, hku⟩
          all_goals (first | (rw [hpu] at hcx; have hcu := hck u hun) | skip)
          all_goals
            clear hck
            go_wp2_with fail
            go_loopg [34] j (fun g i wr => ∃ k : Nat, i = .int .i64 k ∧ 1 ≤ k ∧ k + g = j + 1 ∧ OnK w b0 n (some pd) p (some kd) key wr)
            case atStart => exact ⟨1, rfl, by omega, by omega, hO⟩
            case round =>
              clear hO
              obtain ⟨k, rfl, hk1, hk, hO⟩ := hrel
              by_cases hlt : k ≤ j
              · have hd : decide (k ≤ j) = true := by simpa using hlt
                obtain ⟨u, hun, hup, hku⟩ := HUP.out k hk1 hlt
                go_wp2_with fail
                refine (hO.depth _).mono ?_; rintro e w4 ⟨he, rfl⟩; rw [KA.out.2.2.2.1] at he; subst he
                go_wp2_with fail
                refine (hO.depth _).mono ?_; rintro e w4 ⟨he, rfl⟩; rw [KA.out.2.2.2.2] at he; subst he
                have hds := HD.out
                have hjk : decide ((k : Int) ≤ (D : Int) - (Dx : Int)) = true := by simp; omega
                go_wp2_with fail
                refine (hO.up _ _).mono ?_; clear hO; rintro e w5 ⟨he, hO⟩; rw [hup] at he; subst he
                have hcu2 := (HCE.out _ hO).2 u hun
                have u1 : decide ((u : Int) < 0) = false := by simp
                have u2 : decide (n ≤ u) = false := by simp; omega
                have u3 : decide (lo < key u) = false := by simp; omega
                go_wp2_with fail
                go_roundg (gk - 1)
                case measure => omega
                case rel => exact ⟨k + 1, by go_num, by omega, by omega, hO⟩
              · have hd : decide (k ≤ j) = false := by simpa using hlt
                go_wp2_with fail
                refine (hO.depth _).mono ?_; rintro e w4 ⟨he, rfl⟩; rw [KA.out.2.2.2.1] at he; subst he
                go_wp2_with fail
                refine (hO.depth _).mono ?_; rintro e w4 ⟨he, rfl⟩; rw [KA.out.2.2.2.2] at he; subst he
                have hds := HD.out
                have hjk : decide ((k : Int) ≤ (D : Int) - (Dx : Int)) = false := by simp; omega
                go_wp2_with fail
                refine (works_at hO.1.tz).mono ?_; rintro e w3 ⟨rfl, hf⟩
                go_wp2_with fail
                go_ret
                exact ⟨rfl, hO.1.fr.trans hf⟩

theorem SmAt.of {w : World} {qo : Option Addr} {q : Nat} {f : Nat → Int} (h : ∀ i, i < q → ∃ ad, qo = some ad ∧ w.cell? (ad.add i) = some (.int .i16 (f i)) ∧ (Lit.int .i16 (f i)).wf = true) : SmAt w qo q f := fun i hi => by
  obtain ⟨ad, h1, h2, h3⟩ := h i hi
  have := Go.bounds_i16 h3
  exact ⟨ad, h1, h2, this.1, by omega⟩

end Go.Proofs.YthpghcidocjanaaDoor
