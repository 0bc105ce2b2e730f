/- The document's tables: New. -/
import Derived.Test.YthpghcidocjanaaDoorN3
namespace Go.Proofs.YthpghcidocjanaaDoor
open Go.RowKit

set_option maxHeartbeats 400000 in
set_option maxRecDepth 100000 in
theorem RNew_par {w : World} {ao : Option Addr} {n : Nat} (c : Nat) {p : Nat → Int} (hK : KeyAt w ao n p) (hn : n ≤ 8192) (hp : ¬ Par n p) :
    Calls Tryd.prog 20 #[.slice ao n c] w fun e w' => e = retPE none 3 ∧ w = w' := by
  have HK := hide hK
  have HP := hide hp
  have hd : decide (8192 < n) = false := by simp; omega
  clear hK hp
  go_enter Tryd.func20, Tryd.ntmps20
  go_wp2
  go_loopg [4] n (fun f i wr => ∃ k : Nat, i = .int .i64 k ∧ k + f = n ∧ (∀ v, v < k → -1 ≤ p v ∧ p v < n) ∧ w = wr)
  case atStart => exact ⟨0, rfl, by omega, fun v hv => by omega, rfl⟩
  case round =>
    obtain ⟨k, rfl, hk, hall, rfl⟩ := hrel
    by_cases hlt : k < n
    · obtain ⟨ad, rfl, hc⟩ := HK.out k hlt
      have HA := hide hall
      clear hall
      by_cases h1 : p k < -1
      · have d1 : decide (p k < -1) = true := by simp; omega
        go_wp2
        go_ret2
        exact ⟨rfl, rfl⟩
      · have d1 : decide (p k < -1) = false := by simp; omega
        by_cases h2 : p k < n
        · have d2 : decide ((n : Int) ≤ p k) = false := by simp; omega
          have HX := hide (And.intro h1 h2)
          clear h1 h2
          go_wp2
          go_roundg (gk - 1)
          case measure => omega
          case rel => exact ⟨k + 1, by go_num, by omega, fun v hv => by
            by_cases e : v = k
            · subst e; have := HX.out; omega
            · exact HA.out v (by omega), rfl⟩
        · have d2 : decide ((n : Int) ≤ p k) = true := by simp; omega
          clear h1 h2
          go_wp2
          go_ret2
          exact ⟨rfl, rfl⟩
    · exact absurd (fun v hv => hall v (by omega)) HP.out

def RPost (w : World) (n : Nat) (p : Nat → Int) (e : Ending) (w' : World) : Prop :=
  (Forest n p ∧ ∃ b, e = retPE (some ⟨b, 0, none⟩) 0 ∧ RefT w.heap.size w' b n p ∧ Same' w w') ∨ ((∃ v, v < n ∧ good n p v = false) ∧ e = retPE none 9 ∧ Same' w w')

set_option maxHeartbeats 4000000 in
set_option maxRecDepth 100000 in
theorem RNew_run {w : World} {ao : Option Addr} {n : Nat} (c : Nat) {p : Nat → Int} (hK : KeyAt w ao n p) (hn : n ≤ 8192) (hp : Par n p) :
    Calls Tryd.prog 20 #[.slice ao n c] w (RPost w n p) := by
  have HK := hide hK
  have HP := hide hp
  have hd : decide (8192 < n) = false := by simp; omega
  clear hK hp
  go_enter Tryd.func20, Tryd.ntmps20
  go_wp2
  go_loopg [4] n (fun f i wr => ∃ k : Nat, i = .int .i64 k ∧ k + f = n ∧ w = wr)
  case atStart => exact ⟨0, rfl, by omega, rfl⟩
  case round =>
    obtain ⟨k, rfl, hk, rfl⟩ := hrel
    by_cases hlt : k < n
    · obtain ⟨ad, rfl, hc⟩ := HK.out k hlt
      have hpk := HP.out k hlt
      have d1 : decide (p k < -1) = false := by simp; omega
      have d2 : decide ((n : Int) ≤ p k) = false := by simp; omega
      clear hpk
      go_wp2
      go_roundg (gk - 1)
      case measure => omega
      case rel => exact ⟨k + 1, by go_num, by omega, rfl⟩
    · have hd2 : decide (k < n) = false := by simpa using hlt
      have e : n = k := by omega
      subst e
      go_wp2_with (at_builtin; refine wpList_copyK _ rfl _ _ 25 rfl 3 (.int .i64 0) 8 Tryd.underlying25 info3 rfl rfl ao n c (i64V p) rfl HK.out (oneI64V p) (by unfold maxLen; omega) (by omega) ?_)
      intro g' cap' w2 hM2
      have HM := hide hM2
      clear hM2 hd hk hlt
      go_wp2_with fail
      have hsz := HM.out.fr.size
      have hT : Forest n p → RefT w.heap.size (w2.alloc (Obj.cells #[Value.bool true, Value.slice (some ⟨g', 0, none⟩) n cap'] 69)) w2.heap.size n p := by
        intro hF
        have hnew := heap_alloc_new w2 (Obj.cells #[Value.bool true, Value.slice (some ⟨g', 0, none⟩) n cap'] 69)
        rcases HM.out.row with ⟨h, _⟩ | ⟨g, hg, hr, hgw⟩
        · cases h
        cases hg
        exact ⟨hF, hn, by rw [cell_of_row _ _ _ _ _ _ hnew]; rfl, ⟨g', cap', by rw [cell_of_row _ _ _ _ _ _ hnew]; rfl, hr.alloc _, hgw⟩, hsz⟩
      have hf3 : Same' w (w2.alloc (Obj.cells #[Value.bool true, Value.slice (some ⟨g', 0, none⟩) n cap'] 69)) := HM.out.fr.alloc _
      obtain ⟨b, hb⟩ : ∃ b, b = w2.heap.size := ⟨_, rfl⟩
      rw [← hb] at hT ⊢
      generalize hw3 : w2.alloc (Obj.cells #[Value.bool true, Value.slice (some ⟨g', 0, none⟩) n cap'] 69) = w3 at *
      have HT := hide (And.intro hT hf3)
      clear hT hf3 hb hw3 HM
      go_loopg [6] n (fun f i wr => ∃ k : Nat, i = .int .i64 k ∧ k + f = n ∧ (∀ v, v < k → good n p v = true) ∧ w3 = wr)
      case atStart => exact ⟨0, rfl, by omega, fun v hv => by omega, rfl⟩
      case round =>
        obtain ⟨k, rfl, hk, hall, rfl⟩ := hrel
        have HA := hide hall
        clear hall
        by_cases hlt : k < n
        · have hdk : decide (k < n) = true := by simpa using hlt
          go_wp2
          go_loopg [7, 8] (n + 1) (fun f i s wr => ∃ m : Nat, i = .int .i64 (anc p m k) ∧ s = .int .i64 m ∧ m + f = n + 1 ∧ w3 = wr)
          case atStart => exact ⟨0, rfl, rfl, by omega, rfl⟩
          case round =>
            obtain ⟨m, rfl, rfl, hm, rfl⟩ := hrel
            have hrg := anc_range HP.out hlt m
            by_cases h0 : 0 ≤ anc p m k
            · have d0 : decide (0 ≤ anc p m k) = true := by simpa using h0
              by_cases hmn : m ≤ n
              · have dm : decide (m ≤ n) = true := by simpa using hmn
                obtain ⟨u, hu⟩ : ∃ u : Nat, anc p m k = u := ⟨(anc p m k).toNat, by omega⟩
                have hun : u < n := by omega
                obtain ⟨ad, rfl, hc⟩ := HK.out.keep HT.out.2 u hun
                have hnext : anc p (m + 1) k = p u := by rw [anc_succ, hu, if_neg (by omega)]; simp
                have HN := hide hnext
                have hui : (u : Int) < n := by omega
                rw [hu]
                clear hrg hnext hu h0 d0
                go_wp2
                go_roundg (gk - 1)
                case measure => omega
                case rel => exact ⟨m + 1, by rw [HN.out], by go_num, by omega, rfl⟩
              · have dm : decide (m ≤ n) = false := by simpa using hmn
                have hbad : good n p k = false := by
                  unfold good
                  rw [decide_eq_false_iff_not]
                  have := anc_pos HP.out hlt h0 (show n ≤ m by omega)
                  omega
                have HB := hide hbad
                clear hrg hbad
                go_wp2
                go_ret2
                exact .inr ⟨⟨k, hlt, HB.out⟩, rfl, HT.out.2⟩
            · have d0 : decide (0 ≤ anc p m k) = false := by simpa using h0
              have hgood : good n p k = true := by
                unfold good
                rw [decide_eq_true_eq]
                by_cases hh : anc p n k < 0
                · exact hh
                · have := anc_loop HP.out hlt (by omega) m
                  omega
              have HB := hide hgood
              clear hrg hgood
              go_wp2
              go_roundg (n - (k + 1))
              case measure => omega
              case rel => exact ⟨k + 1, by go_num, by omega, fun v hv => by by_cases e : v = k; (· subst e; exact HB.out); exact HA.out v (by omega), rfl⟩
        · have hdk : decide (k < n) = false := by simpa using hlt
          have hF : Forest n p := forest_of_good HP.out fun v hv => HA.out v (by omega)
          have HB := hide hF
          clear hF
          go_wp2
          go_ret2
          exact .inl ⟨HB.out, b, rfl, HT.out.1 HB.out, HT.out.2⟩

end Go.Proofs.YthpghcidocjanaaDoor
