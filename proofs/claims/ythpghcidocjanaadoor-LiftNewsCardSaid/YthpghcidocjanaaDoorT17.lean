/- Walks: New, where the parents are in range. -/
import Derived.Test.YthpghcidocjanaaDoorT16
import Derived.StillTailTactics
namespace Go.Proofs.YthpghcidocjanaaDoor
open Go.RowKit

/-- The first row as far as it is written. -/
def U0 (p : Nat → Int) (k i v : Nat) : Int := if i = 0 ∧ v < k then p v else 0
/-- The rows as far as they are reckoned: all below i, of the i-th one the first k. -/
def UU (p : Nat → Int) (i k j v : Nat) : Int := if j < i ∨ (j = i ∧ v < k) then upAt p j v else 0

theorem UU_zero {p : Nat → Int} {n : Nat} (j v : Nat) (_ : j < 14) (hv : v < n) : U0 p n j v = UU p 1 0 j v := by
  unfold U0 UU
  by_cases hj : j = 0
  · subst hj
    rw [if_pos ⟨rfl, hv⟩, if_pos (by omega), upAt_zero]
  · rw [if_neg (fun h => hj h.1), if_neg (by omega)]

theorem UU_next {p : Nat → Int} {n i : Nat} (j v : Nat) (_ : j < 14) (hv : v < n) : UU p i n j v = UU p (i + 1) 0 j v := by
  unfold UU
  by_cases h : j < i ∨ j = i
  · rw [if_pos (by omega), if_pos (by omega)]
  · rw [if_neg (by omega), if_neg (by omega)]

theorem UU_set {p : Nat → Int} {n i k : Nat} (x : Int) (hx : x = upAt p i k) (j v : Nat) (_ : j < 14) (_ : v < n) : Tab.setU (UU p i k) i k x j v = UU p i (k + 1) j v := by
  unfold Tab.setU UU
  by_cases h : j = i ∧ v = k
  · obtain ⟨rfl, rfl⟩ := h
    rw [if_pos ⟨rfl, rfl⟩, if_pos (by omega), hx]
  · rw [if_neg h]
    by_cases h2 : j < i ∨ j = i ∧ v < k
    · rw [if_pos h2, if_pos (by omega)]
    · rw [if_neg h2, if_neg (by omega)]

theorem UU_set2 {p : Nat → Int} {n i k : Nat} (y x : Int) (hx : x = upAt p i k) (j v : Nat) (h1 : j < 14) (h2 : v < n) : Tab.setU (Tab.setU (UU p i k) i k y) i k x j v = UU p i (k + 1) j v := by
  rw [← UU_set (n := n) x hx j v h1 h2]
  unfold Tab.setU
  by_cases h : j = i ∧ v = k
  · rw [if_pos h, if_pos h]
  · rw [if_neg h, if_neg h, if_neg h]

theorem U0_set {p : Nat → Int} {n k : Nat} (j v : Nat) (_ : j < 14) (_ : v < n) : Tab.setU (U0 p k) 0 k (p k) j v = U0 p (k + 1) j v := by
  unfold Tab.setU U0
  by_cases h : j = 0 ∧ v = k
  · obtain ⟨rfl, rfl⟩ := h
    rw [if_pos ⟨rfl, rfl⟩, if_pos (by omega)]
  · rw [if_neg h]
    by_cases h2 : j = 0 ∧ v < k
    · rw [if_pos h2, if_pos (by omega)]
    · rw [if_neg h2, if_neg (by omega)]

theorem UU_all {p : Nat → Int} {n : Nat} (j v : Nat) (hj : j < 14) (_ : v < n) : UU p 14 0 j v = upAt p j v := by
  unfold UU
  rw [if_pos (by omega)]

/-- The depths as far as they are reckoned. -/
def DD (n : Nat) (p : Nat → Int) (k v : Nat) : Int := if v < k then (dep n (goodP n p) v : Nat) else 0

theorem q_world {Q : Exit → Act → World → Prop} {e : Exit} {a : Act} {w : World} (F : World → Prop) (hF : F w) (h : ∀ w2, F w2 → Q e a w2) : Q e a w := h w hF

set_option maxHeartbeats 4000000 in
set_option maxRecDepth 100000 in
theorem New_run {w : World} {ao : Option Addr} {n : Nat} (c : Nat) {p : Nat → Int} (hK : KeyAt w ao n p) (hn : n ≤ 8192) (hp : Par n p) :
    Calls Tryd.prog 19 #[.slice ao n c] w (NewPost w n p) := by
  have hmk3 := run_make_row' (P := Tryd.prog) 25 3 (.int .i64 0) 8 Tryd.underlying25 info3 rfl .i64 .i64 n (by omega) (by omega)
  have hmk21 := run_make_row' (P := Tryd.prog) 47 21 (.int .i32 0) 4 Tryd.underlying47 info21 rfl .i64 .i64 n (by omega) (by omega)
  have HK := hide hK
  have HP := hide hp
  have hd : decide ((8192 : Int) < (n : Int)) = false := by simp; omega
  have H21 := hide hmk21
  clear hK hp hmk21
  go_enter Tryd.func19, Tryd.ntmps19
  go_wp2
  go_loopg [21] n (fun f i wr => ∃ k : Nat, i = .int .i64 k ∧ k + f = n ∧ w = wr)
  case atStart => exact ⟨0, rfl, by omega, rfl⟩
  case round =>
    obtain ⟨k, rfl, hk, rfl⟩ := hrel
    by_cases hlt : k < n
    · obtain ⟨ad, rfl, hc⟩ := HK.out k hlt
      have hpk := HP.out k hlt
      have d1 : decide (p k < -1) = false := by simp; omega
      have d2 : decide ((n : Int) ≤ p k) = false := by simp; omega
      clear hpk
      go_wp2
      go_roundg (gk - 1)
      case measure => omega
      case rel => exact ⟨k + 1, by go_num, by omega, rfl⟩
    · have e : n = k := by omega
      subst e
      go_wp2
      have hR := Rows2.start w n hn _ rfl
      clear hmk3 hlt hk
      have hmk21 := H21.out
      refine wp_world (fun wr => Rows2 w n 0 wr) hR ?_
      clear hR
      intro w1 hR
      go_loopg [37] 14 (fun f i wr => ∃ k : Nat, i = .int .i64 k ∧ k + f = 14 ∧ Rows2 w n k wr)
      case atStart => exact ⟨0, rfl, rfl, hR⟩
      case round =>
        obtain ⟨k, rfl, hk, hR⟩ := hrel
        by_cases hlt : k < 14
        · have hc := hR.c hlt
          have hf := hR.f (1 + k)
          have hsz := hR.size
          have hbl : w.heap.size + 1 < wr.heap.size := by omega
          have k0 : (0 : Int) ≤ (k : Int) := by omega
          have k1 : (k : Int) < 14 := by omega
          have HR := hide hR
          clear hR hsz
          go_wp2
          go_region
          all_goals
            refine q_world (fun w2 => Rows2 w n (k + 1) w2) ?_ ?_
            · have h := HR.out.step hlt hn
              rw [World.setCell_alloc_past _ _ _ _ hbl] at h
              exact h.to rfl rfl rfl rfl
            intro w2 hR2
            have HR2 := hide hR2
            clear hR2
            go_wp2
            go_roundg (gk - 1)
            case measure => omega
            case rel => exact ⟨k + 1, by go_num, by omega, HR2.out⟩
        · have e : k = 14 := by omega
          subst e
          have e14 : ((14 : Nat) : Int) = 14 := rfl
          rw [e14]
          clear e14
          have hT := hR.tab
          have hS := hR.fr
          clear hmk21 hR
          obtain ⟨g, hg⟩ : ∃ g, g = fun i => w.heap.size + 2 + i := ⟨_, rfl⟩
          obtain ⟨gd, hgd⟩ : ∃ gd, gd = w.heap.size := ⟨_, rfl⟩
          obtain ⟨b, hb⟩ : ∃ b, b = w.heap.size + 1 := ⟨_, rfl⟩
          have hmem : ∀ k, Tab.mem b gd g k → w.heap.size ≤ k := by
            rintro k (h | h | ⟨i, hi, h⟩)
            · omega
            · omega
            · rw [hg] at h; simp only at h; omega
          have hT : Tab wr b n g gd (fun _ _ => 0) (fun _ => 0) := by rw [hb, hg, hgd]; exact hT
          rw [← hb]
          clear hb hg hgd
          have HM := hide hmem
          have HT := hide hT
          clear hT hmem H21
          go_wp2
          go_loopg [50] n (fun f i wr => ∃ k : Nat, i = .int .i64 k ∧ k + f = n ∧ Tab wr b n g gd (U0 p k) (fun _ => 0) ∧ Same' w wr)
          case atStart => exact ⟨0, rfl, by omega, HT.out.congr (fun j v _ _ => by unfold U0; rw [if_neg (by omega)]) (fun _ _ => rfl), hS⟩
          case round =>
            clear HT hS
            obtain ⟨k, rfl, hk, hT, hS⟩ := hrel
            by_cases hlt : k < n
            · obtain ⟨ad, rfl, hc⟩ := HK.out.keep hS k hlt
              have hpk := HP.out k hlt
              have p1 : -1 ≤ p k := hpk.1
              have p2 : p k < 8192 := by omega
              have c1 : wr.cell? ⟨b, 1, none⟩ = some (.slice (some ⟨g 0, 0, none⟩) n n) := hT.cu (i := 0) (by omega)
              have c2 := (hT.up 0 (by omega)).cell k hlt
              have f2 := (hT.up 0 (by omega)).free k
              have hbm := HM.out (g 0) (.inr (.inr ⟨0, by omega, rfl⟩))
              have HX := hide (And.intro hT (And.intro hS hbm))
              clear hT hS hpk hbm
              go_wp2
              go_roundg (gk - 1)
              case measure => omega
              case rel =>
                obtain ⟨hT, hS, hbm⟩ := HX.out
                exact ⟨k + 1, by go_num, by omega, (hT.set (by omega) hlt (p k)).congr U0_set (fun _ _ => rfl), hS.setCell _ _ (fun h => by simp at h; omega)⟩
            · have e : n = k := by omega
              subst e
              have HT := hide (hT.congr (U' := UU p 1 0) (D' := fun _ => 0) UU_zero (fun _ _ => rfl))
              clear hT
              go_wp2
              go_loopg [11] 13 (fun f i wr => ∃ k : Nat, i = .int .i64 k ∧ k + f = 14 ∧ 1 ≤ k ∧ Tab wr b n g gd (UU p k 0) (fun _ => 0) ∧ Same' w wr)
              case atStart => exact ⟨1, rfl, rfl, by omega, HT.out, hS⟩
              case round =>
                clear HT hS hlt hk
                obtain ⟨i, rfl, hi, hi1, hT, hS⟩ := hrel
                by_cases hlt : i < 14
                · obtain ⟨m, him⟩ : ∃ m, i = m + 1 := ⟨i - 1, by omega⟩
                  have hmi : (i : Int) - 1 = (m : Int) := by omega
                  have HIM := hide him
                  have c1 : wr.cell? ⟨b, 1 + m, none⟩ = some (.slice (some ⟨g m, 0, none⟩) n n) := hT.cu (i := m) (by omega)
                  have m0 : (0 : Int) ≤ (m : Int) := by omega
                  have m1 : (m : Int) < 14 := by omega
                  have hmlt : m < i := by omega
                  have dlt : decide ((i : Int) < 14) = true := by simp; omega
                  clear him
                  obtain ⟨wo, hwo⟩ : ∃ wo, wo = wr := ⟨_, rfl⟩
                  rw [← hwo] at hT hS c1 ⊢
                  clear hwo
                  have HT := hide hT
                  have HI := hide hmi
                  clear hT
                  go_wp2
                  go_loopg [77] n (fun f v wr => ∃ j : Nat, v = .int .i64 j ∧ j + f = n ∧ Tab wr b n g gd (UU p i j) (fun _ => 0) ∧ Same' w wr)
                  case atStart => exact ⟨0, rfl, by omega, HT.out, hS⟩
                  case round =>
                    clear HT hS c1
                    obtain ⟨j, rfl, hj, hT, hS⟩ := hrel
                    by_cases hjn : j < n
                    · have c3 : wr.cell? ⟨g m, j, none⟩ = some (.int .i32 (upAt p m j)) := by
                        rw [(hT.up m (by omega)).cell j hjn]
                        unfold i32V UU
                        rw [if_pos (by omega)]
                      have c2 : wr.cell? ⟨b, 1 + i, none⟩ = some (.slice (some ⟨g i, 0, none⟩) n n) := hT.cu hlt
                      have c4 := (hT.up i hlt).cell j hjn
                      have f4 := (hT.up i hlt).free j
                      have hbm := HM.out (g i) (.inr (.inr ⟨i, hlt, rfl⟩))
                      have hS2 : Same' w (wr.setCell ⟨g i, j, none⟩ (.int .i32 (-1))) := hS.setCell _ _ (fun h => by simp at h; omega)
                      have hup := upAt_succ HP.out hjn m
                      rw [← HIM.out] at hup
                      have hra : -1 ≤ upAt p m j ∧ upAt p m j < n := anc_range HP.out hjn (2 ^ m)
                      have HX := hide (And.intro hT (And.intro hS2 hbm))
                      clear hT hS hS2 hbm
                      have i0 : (0 : Int) ≤ (i : Int) := by omega
                      have i1 : (i : Int) < 14 := by omega
                      have j0 : (0 : Int) ≤ (j : Int) := by omega
                      have j1 : (j : Int) < (n : Int) := by omega
                      by_cases hq : upAt p m j < 0
                      · rw [if_pos hq] at hup
                        have d1 : decide (0 ≤ upAt p m j) = false := by simp; omega
                        have HU := hide hup
                        clear hup hq hra
                        go_wp2
                        go_roundg (gk - 1)
                        case measure => omega
                        case rel =>
                          obtain ⟨hT, hS, _⟩ := HX.out
                          exact ⟨j + 1, by go_num, by omega, (hT.set hlt hjn (-1)).congr (UU_set (-1) HU.out.symm) (fun _ _ => rfl), hS⟩
                      · obtain ⟨x, hx⟩ : ∃ x : Nat, upAt p m j = x := ⟨(upAt p m j).toNat, by omega⟩
                        rw [if_neg hq, hx, Int.toNat_natCast] at hup
                        rw [hx] at c3 hra
                        have hxn : x < n := by omega
                        have HU := hide hup
                        clear hup hq hra hx
                        go_wp2
                        refine wp_world (fun w2 => Tab w2 b n g gd (Tab.setU (UU p i j) i j (-1)) (fun _ => 0) ∧ Same' w w2) ⟨HX.out.1.set hlt hjn (-1), HX.out.2.1⟩ ?_
                        clear c2 c3 c4 f4
                        rintro w2 ⟨hT, hS⟩
                        have hbm := HX.out.2.2
                        clear HX
                        have c1 : w2.cell? ⟨b, 1 + m, none⟩ = some (.slice (some ⟨g m, 0, none⟩) n n) := hT.cu (i := m) (by omega)
                        have c2 : w2.cell? ⟨b, 1 + i, none⟩ = some (.slice (some ⟨g i, 0, none⟩) n n) := hT.cu hlt
                        have c3 : w2.cell? ⟨g m, x, none⟩ = some (.int .i32 (upAt p m x)) := by
                          rw [(hT.up m (by omega)).cell x hxn]
                          unfold i32V Tab.setU UU
                          rw [if_neg (by omega), if_pos (by omega)]
                        have c4 := (hT.up i hlt).cell j hjn
                        have f4 := (hT.up i hlt).free j
                        have x0 : (0 : Int) ≤ (x : Int) := by omega
                        have x1 : (x : Int) < (n : Int) := by omega
                        have hmi := HI.out
                        have HX := hide (And.intro hT (And.intro hS hbm))
                        clear hT hS hbm
                        have hw : IntKind.i64.wrap (m : Int) = (m : Int) := by rw [IntKind.wrap_i64]; omega
                        go_still_tail 18, (by kernel_rfl)
                        go_wp2
                        go_roundg (gk - 1)
                        case measure => omega
                        case rel =>
                          obtain ⟨hT, hS, hbm⟩ := HX.out
                          refine ⟨j + 1, by go_num, by omega, ((hT.set hlt hjn (upAt p m x)).congr (UU_set2 (-1) _ HU.out.symm) (fun _ _ => rfl)).to rfl, (hS.setCell _ _ (fun h => by simp at h; omega)).to rfl rfl rfl rfl⟩
                    · have e : j = n := by omega
                      subst e
                      have HT := hide (hT.congr (U' := UU p (i + 1) 0) (D' := fun _ => 0) UU_next (fun _ _ => rfl))
                      clear hT
                      go_wp2
                      go_roundg (13 - i)
                      case measure => omega
                      case rel => exact ⟨i + 1, by go_num, by omega, by omega, HT.out, hS⟩
                · have e : i = 14 := by omega
                  subst e
                  have HT := hide (hT.congr (U' := upAt p) (D' := DD n p 0) UU_all (fun _ _ => by unfold DD; rw [if_neg (by omega)]))
                  clear hT
                  go_wp2
                  go_loopg [113] n (fun f i wr => ∃ k : Nat, i = .int .i64 k ∧ k + f = n ∧ (∀ v, v < k → good n p v = true) ∧ Tab wr b n g gd (upAt p) (DD n p k) ∧ Same' w wr)
                  case atStart => exact ⟨0, rfl, by omega, fun v hv => by omega, HT.out, hS⟩
                  case round =>
                    clear HT hS
                    obtain ⟨k, rfl, hk, hall, hT, hS⟩ := hrel
                    have HA := hide hall
                    clear hall
                    by_cases hlt2 : k < n
                    · have c1 : wr.cell? ⟨b, 14, none⟩ = some (.slice (some ⟨g 13, 0, none⟩) n n) := hT.cu (i := 13) (by omega)
                      have c2 : wr.cell? ⟨g 13, k, none⟩ = some (.int .i32 (upAt p 13 k)) := (hT.up 13 (by omega)).cell k hlt2
                      have cd := hT.cd
                      have c3 := hT.depth.cell k hlt2
                      have f3 := hT.depth.free k
                      have hgi := good_iff HP.out hn hlt2
                      have k0 : (0 : Int) ≤ (k : Int) := by omega
                      have k1 : (k : Int) < (n : Int) := by omega
                      have kd : decide ((k : Int) < (n : Int)) = true := by simp; omega
                      cases hg : good n p k with
                      | true =>
                        have hneg := hgi.1 hg
                        have d1 : decide (0 ≤ upAt p 13 k) = false := by simp; omega
                        have C := hide (steps_at (w := { wr with drawn := wr.drawn + 1 }) (hT.to rfl) (goodP_forest HP.out) hn k hlt2 (fun q c u hq hu hun => upAt_goodP HP.out hlt2 hg q c u hu hun))
                        have hbm := HM.out gd (.inr (.inl rfl))
                        have HX := hide (And.intro hT (And.intro hS (And.intro hg hbm)))
                        generalize hdk : dep n (goodP n p) k = dk at C
                        have HD := hide hdk
                        clear hT hS hg hgi hneg hbm hdk
                        go_wp2
                        refine wp_region_still_tail 9 (by kernel_rfl) (by kernel_rfl) ?_
                        simp only [List.take_succ_cons, List.take_zero, List.drop_succ_cons, List.drop_zero]
                        iterate 7 still_step
                        still_call (C.out.mono fun _ _ h => ⟨h.1, h.2.symm⟩)
                        still_step
                        refine wpStill_nil ?_
                        go_wp2
                        go_roundg (gk - 1)
                        case measure => omega
                        case rel =>
                          obtain ⟨hT, hS, hg, hbm⟩ := HX.out
                          refine ⟨k + 1, by go_num, by omega, fun v hv => ?_, ((hT.setDepth hlt2 (dk : Nat)).congr (fun _ _ _ _ => rfl) (fun v _ => ?_)).to rfl, (hS.setCell _ _ (fun h => by simp at h; omega)).to rfl rfl rfl rfl⟩
                          · by_cases e : v = k
                            · subst e; exact hg
                            · exact HA.out v (by omega)
                          · unfold DD
                            by_cases e : v = k
                            · subst e
                              rw [if_pos rfl, if_pos (by omega), HD.out]
                            · rw [if_neg e]
                              by_cases e2 : v < k
                              · rw [if_pos e2, if_pos (by omega)]
                              · rw [if_neg e2, if_neg (by omega)]
                      | false =>
                        have hneg : ¬ upAt p 13 k < 0 := fun h => by rw [hgi.2 h] at hg; cases hg
                        have d1 : decide (0 ≤ upAt p 13 k) = true := by simp; omega
                        have HX := hide (And.intro hS hg)
                        clear hT hS hg hgi hneg
                        go_wp2
                        go_ret2
                        exact Or.inr ⟨⟨k, hlt2, HX.out.2⟩, rfl, HX.out.1⟩
                    · have e : k = n := by omega
                      subst e
                      have kd : decide ((k : Int) < (k : Int)) = false := by simp
                      have HX := hide (And.intro hT hS)
                      clear hT hS
                      go_wp2
                      go_ret2
                      obtain ⟨hT, hS⟩ := HX.out
                      refine Or.inl ⟨HA.out, b, rfl, ⟨forest_of_good HP.out HA.out, hn, g, gd, hT.congr (fun _ _ _ _ => rfl) (fun v hv => ?_), HM.out⟩, hS⟩
                      unfold DD
                      rw [if_pos hv]
                      congr 1
                      exact dep_congr (fun c => goodP_anc HP.out hv (HA.out v hv) c)

end Go.Proofs.YthpghcidocjanaaDoor
