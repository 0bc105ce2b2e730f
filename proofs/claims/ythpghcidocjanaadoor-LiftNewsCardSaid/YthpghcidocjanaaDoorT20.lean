/- Walk: made. -/
import Derived.Test.YthpghcidocjanaaDoorT19
namespace Go.Proofs.YthpghcidocjanaaDoor
open Go.RowKit

theorem FullN.mono {B B' : Nat} {w : World} {b n : Nat} {p : Nat → Int} (h : FullN B' w b n p) (hB : B ≤ B') : FullN B w b n p := by
  obtain ⟨h1, h2, g, gd, hT, hm⟩ := h
  exact ⟨h1, h2, g, gd, hT, fun k hk => Nat.le_trans hB (hm k hk)⟩

theorem On.base {w w1 W : World} {b n : Nat} {po : Option Addr} {p : Nat → Int} (h : On w1 b n po p W) (hf : Same' w w1) : On w b n po p W :=
  ⟨hf.trans h.fr, h.full.mono hf.size, h.tz, h.key⟩

theorem grw_range (l : Nat → Nat) (i : Nat) : -1 ≤ grw l i ∧ grw l i < i := by
  unfold grw
  have h1 := Int.emod_nonneg (l i : Int) (show (i : Int) + 1 ≠ 0 by omega)
  have h2 := Int.emod_lt_of_pos (l i : Int) (show (0 : Int) < (i : Int) + 1 by omega)
  omega

theorem grw_forest (l : Nat → Nat) (n : Nat) : Forest n (grw l) :=
  Forest.ofRise (f := fun v => v) (fun v hv => by have := grw_range l v; omega) (fun v hv => hv) (fun v hv h0 => by have := grw_range l v; omega)

/-- The forest turned round. -/
def trn (n : Nat) (p : Nat → Int) (u : Nat) : Int := if 0 ≤ p (n - 1 - u) then (n : Int) - 1 - p (n - 1 - u) else -1

theorem trn_forest (l : Nat → Nat) (n : Nat) : Forest n (trn n (grw l)) :=
  Forest.ofRise (f := fun v => n - 1 - v) (fun v hv => by
    have := grw_range l (n - 1 - v)
    unfold trn
    split <;> omega) (fun v hv => by omega) (fun v hv h0 => by
    have := grw_range l (n - 1 - v)
    unfold trn at h0 ⊢
    split at h0
    · rename_i h
      rw [if_pos h]
      omega
    · omega)

/-- What is written of it after the first k nodes. -/
def trK (n : Nat) (p : Nat → Int) (k u : Nat) : Int := if n - 1 - u < k then trn n p u else 0

theorem trK_step {n : Nat} {p : Nat → Int} {k u : Nat} (hk : k < n) (hu : u < n) : trK n p (k + 1) u = if u = n - 1 - k then trn n p u else trK n p k u := by
  unfold trK
  by_cases e : u = n - 1 - k
  · rw [if_pos e, if_pos (by omega)]
  · rw [if_neg e]
    by_cases h : n - 1 - u < k
    · rw [if_pos h, if_pos (by omega)]
    · rw [if_neg h, if_neg (by omega)]

/-- What made hands back. -/
def MadePost (w : World) (e : Ending) (w' : World) : Prop :=
  ∃ b n po pc p, e = .returned (.tuple #[.pointer (some ⟨b, 0, none⟩), .slice po n pc]) ∧ n ≤ 300 ∧ On w b n po p w'

set_option maxHeartbeats 1000000 in
set_option maxRecDepth 100000 in
theorem made_up {w : World} {ao : Option Addr} {m c : Nat} {l : Nat → Nat} (hl : ByAt w ao m l) (hmc : m ≤ c) (hm : c ≤ 9223372036854775807) (ht : TzTab w) :
    Calls Tryd.prog 12 #[.slice ao m c, .bool false] w (MadePost w) := by
  have HL := hide hl
  have HT := hide ht
  clear hl ht
  go_enter Tryd.func12, Tryd.ntmps12
  go_wp2_with fail
  all_goals
    obtain ⟨n, hn3, hnm, hn⟩ : ∃ n, n ≤ 300 ∧ n ≤ m ∧ (n = 300 ∨ n = m) := by
      by_cases h : m ≤ 300
      · exact ⟨m, h, Nat.le_refl _, .inr rfl⟩
      · exact ⟨300, Nat.le_refl _, by omega, .inl rfl⟩
    have C : ∀ k, k = n → Calls Tryd.prog 22 #[.slice ao k c] w fun e w' => ∃ ao' c', e = .returned (.slice ao' n c') ∧ Mine w w' 3 n (i64V (grw l)) ao' c' := by
      intro k hk
      rw [hk]
      exact grown_at c (HL.out.take hnm) (by omega)
    refine (C _ (by omega)).mono ?_
    clear C hn hnm hmc hm
    rintro e w1 ⟨ao', c', rfl, hM⟩
    have C2 := hide (New_ok c' hM.key (by omega) (grw_forest l n) (HT.out.keep hM.fr id))
    have HM := hide hM
    clear hM
    go_wp2_with (first
      | (go_at_call 19; refine C2.out.mono ?_; clear C2; rintro e w2 ⟨b, rfl, hO⟩; have CL := hide hO.len; have HO := hide hO; clear hO)
      | (go_at_call 24; refine CL.out.mono ?_; clear CL; rintro e w3 ⟨rfl, rfl⟩))
    go_ret2
    exact ⟨b, n, ao', c', grw l, rfl, hn3, HO.out.base HM.out.fr⟩

set_option maxHeartbeats 2000000 in
set_option maxRecDepth 100000 in
theorem made_turned {w : World} {ao : Option Addr} {m c : Nat} {l : Nat → Nat} (hl : ByAt w ao m l) (hmc : m ≤ c) (hm : c ≤ 9223372036854775807) (ht : TzTab w) :
    Calls Tryd.prog 12 #[.slice ao m c, .bool true] w (MadePost w) := by
  have HL := hide hl
  have HT := hide ht
  clear hl ht
  go_enter Tryd.func12, Tryd.ntmps12
  go_wp2_with fail
  all_goals
    obtain ⟨n, hn3, hnm, hn⟩ : ∃ n, n ≤ 300 ∧ n ≤ m ∧ (n = 300 ∨ n = m) := by
      by_cases h : m ≤ 300
      · exact ⟨m, h, Nat.le_refl _, .inr rfl⟩
      · exact ⟨300, Nat.le_refl _, by omega, .inl rfl⟩
    have C : ∀ k, k = n → Calls Tryd.prog 22 #[.slice ao k c] w fun e w' => ∃ ao' c', e = .returned (.slice ao' n c') ∧ Mine w w' 3 n (i64V (grw l)) ao' c' := by
      intro k hk
      rw [hk]
      exact grown_at c (HL.out.take hnm) (by omega)
    refine (C _ (by omega)).mono ?_
    clear C hn hnm hmc hm
    rintro e w1 ⟨ao', c', rfl, hM⟩
    have hmk := run_make_row' (P := Tryd.prog) 25 3 (.int .i64 0) 8 Tryd.underlying25 info3 rfl .i64 .i64 n (by omega) (by omega)
    have hR := RowV.zero64 w1 n (by unfold maxLen; omega)
    have hR : RowV (w1.alloc (.cells (madeCells #[.int .i64 0] n) 3)) w1.heap.size 3 n n (i64V (trK n (grw l) 0)) := hR.congr fun i hi => by
      unfold i64V trK
      rw [if_neg (by omega)]
    have HM := hide hM
    have HR := hide hR
    clear hM hR
    go_wp2_with fail
    refine wp_world (fun wr => RowV wr w1.heap.size 3 n n (i64V (trK n (grw l) 0)) ∧ Same' w1 wr) ⟨HR.out, (Fr.refl _ w1).alloc _⟩ ?_
    clear HR hmk
    rintro w2 ⟨hR, hf2⟩
    obtain ⟨g, hg⟩ : ∃ g, g = w1.heap.size := ⟨_, rfl⟩
    rw [← hg] at hR ⊢
    have HG := hide hg
    clear hg
    go_loopg [9] n (fun f i wr => ∃ k : Nat, i = .int .i64 k ∧ k + f = n ∧ RowV wr g 3 n n (i64V (trK n (grw l) k)) ∧ Same' w1 wr)
    case atStart => exact ⟨0, rfl, by omega, hR, hf2⟩
    case round =>
      clear hR hf2
      obtain ⟨k, rfl, hk, hR, hf⟩ := hrel
      by_cases hlt : k < n
      · rcases HM.out.row with ⟨_, h0⟩ | ⟨gp, rfl, hrow, _⟩
        · omega
        have hc : wr.cell? ⟨gp, k, none⟩ = some (.int .i64 (grw l k)) := (hrow.keep hf id).cell k hlt
        have hne : gp ≠ g := by have := hrow.lt; have := HG.out; omega
        have c1 := hR.cell (n - 1 - k) (by omega)
        have f1 := hR.free (n - 1 - k)
        have hpr := grw_range l k
        have p1 := hpr.1
        have p2 := hpr.2
        have htr : trn n (grw l) (n - 1 - k) = if 0 ≤ grw l k then (n : Int) - 1 - grw l k else -1 := by
          unfold trn
          rw [show n - 1 - (n - 1 - k) = k by omega]
        have HX := hide (And.intro hR (And.intro hf (And.intro htr hrow.lt)))
        clear hR hf hrow htr hpr
        by_cases h0 : 0 ≤ grw l k
        · have d0 : decide (0 ≤ grw l k) = true := by simpa using h0
          go_wp2
          go_roundg (gk - 1)
          case measure => omega
          case rel =>
            obtain ⟨hR, hf, htr, _⟩ := HX.out
            have := HG.out
            refine ⟨k + 1, by go_num, by omega, (((hR.set (n - 1 - k) (by omega) _).set (n - 1 - k) (by omega) _).congr fun u hu => ?_), (hf.setCell _ _ (fun h => by simp at h; omega)).setCell _ _ (fun h => by simp at h; omega)⟩
            unfold i64V
            rw [trK_step hlt hu]
            by_cases e : u = n - 1 - k
            · subst e
              rw [if_pos rfl, if_pos rfl, htr, if_pos h0]
            · rw [if_neg e, if_neg e, if_neg e]
        · have d0 : decide (0 ≤ grw l k) = false := by simpa using h0
          go_wp2
          go_roundg (gk - 1)
          case measure => omega
          case rel =>
            obtain ⟨hR, hf, htr, _⟩ := HX.out
            have := HG.out
            refine ⟨k + 1, by go_num, by omega, ((hR.set (n - 1 - k) (by omega) _).congr fun u hu => ?_), hf.setCell _ _ (fun h => by simp at h; omega)⟩
            unfold i64V
            rw [trK_step hlt hu]
            by_cases e : u = n - 1 - k
            · subst e
              rw [if_pos rfl, if_pos rfl, htr, if_neg (by omega)]
            · rw [if_neg e, if_neg e]
      · have e : n = k := by omega
        subst e
        have hR : RowV wr g 3 n n (i64V (trn n (grw l))) := hR.congr fun u hu => by
          unfold i64V trK
          rw [if_pos (by omega)]
        have C2 := hide (New_ok n (KeyAt.ofRow hR) (by omega) (trn_forest l n) ((HT.out.keep HM.out.fr id).keep hf id))
        have HF := hide hf
        clear hR hf
        go_wp2_with (first
          | (go_at_call 19; refine C2.out.mono ?_; clear C2; rintro e w2 ⟨b, rfl, hO⟩; have CL := hide hO.len; have HO := hide hO; clear hO)
          | (go_at_call 24; refine CL.out.mono ?_; clear CL; rintro e w3 ⟨rfl, rfl⟩))
        go_ret2
        exact ⟨b, n, some ⟨g, 0, none⟩, n, trn n (grw l), rfl, hn3, HO.out.base (HM.out.fr.trans HF.out)⟩

/-- A table of a forest of at most 300 nodes. -/
theorem made_at {w : World} {ao : Option Addr} {m c : Nat} {l : Nat → Nat} (hl : ByAt w ao m l) (hmc : m ≤ c) (hm : c ≤ 9223372036854775807) (ht : TzTab w) (t : Bool) :
    Calls Tryd.prog 12 #[.slice ao m c, .bool t] w (MadePost w) := by
  cases t
  · exact made_up hl hmc hm ht
  · exact made_turned hl hmc hm ht

end Go.Proofs.YthpghcidocjanaaDoor
