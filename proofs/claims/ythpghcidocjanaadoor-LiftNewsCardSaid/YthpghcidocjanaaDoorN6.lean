/- Both tables made of the same parents. -/
import Derived.Test.YthpghcidocjanaaDoorN5
namespace Go.Proofs.YthpghcidocjanaaDoor
open Go.RowKit

/-- What comes of a list of parents: the error, the number of nodes, and whether there is no table. -/
def Out (n : Nat) (p : Nat → Int) (ec : Int) (N : Nat) (z : Bool) : Prop :=
  (¬ Par n p ∧ ec = 3 ∧ N = 0 ∧ z = true) ∨ (Par n p ∧ ¬ Forest n p ∧ ec = 9 ∧ N = 0 ∧ z = true) ∨ (Forest n p ∧ ec = 0 ∧ N = n ∧ z = false)

theorem out_ex (n : Nat) (p : Nat → Int) : ∃ ec N z, Out n p ec N z := by
  by_cases h1 : Par n p
  · by_cases h2 : Forest n p
    · exact ⟨0, n, false, .inr (.inr ⟨h2, rfl, rfl, rfl⟩)⟩
    · exact ⟨9, 0, true, .inr (.inl ⟨h1, h2, rfl, rfl, rfl⟩)⟩
  · exact ⟨3, 0, true, .inl ⟨h1, rfl, rfl, rfl⟩⟩

def isTab (z : Bool) (ao : Option Addr) : Prop := (z = true ∧ ao = none) ∨ (z = false ∧ ∃ b, ao = some ⟨b, 0, none⟩)

theorem New_any {w : World} {ao : Option Addr} {n N : Nat} {ec : Int} {z : Bool} (c : Nat) {p : Nat → Int} (h : Out n p ec N z) (hK : KeyAt w ao n p) (hn : n ≤ 8192) (ht : TzTab w) :
    Calls Tryd.prog 19 #[.slice ao n c] w fun e w' => ∃ to, e = retPE to ec ∧ isTab z to ∧ LifN w.heap.size w' to N p ∧ Same' w w' := by
  rcases h with ⟨hp, rfl, rfl, rfl⟩ | ⟨hp, hF, rfl, rfl, rfl⟩ | ⟨hF, rfl, rfl, rfl⟩
  · refine (New_par c hK hn hp).mono ?_
    rintro e w' ⟨rfl, rfl⟩
    exact ⟨none, rfl, .inl ⟨rfl, rfl⟩, ⟨ht, .inl ⟨rfl, rfl⟩⟩, Fr.refl _ _⟩
  · refine (New_loop c hK hn hp hF).mono ?_
    rintro e w' ⟨rfl, hf⟩
    exact ⟨none, rfl, .inl ⟨rfl, rfl⟩, ⟨ht.keep hf id, .inl ⟨rfl, rfl⟩⟩, hf⟩
  · refine (New_ok c hK hn hF ht).mono ?_
    rintro e w' ⟨b, rfl, hO⟩
    exact ⟨_, rfl, .inr ⟨rfl, b, rfl⟩, ⟨hO.tz, .inr ⟨b, rfl, hO.full⟩⟩, hO.fr⟩

theorem RNew_any {w : World} {ao : Option Addr} {n N : Nat} {ec : Int} {z : Bool} (c : Nat) {p : Nat → Int} (h : Out n p ec N z) (hK : KeyAt w ao n p) (hn : n ≤ 8192) :
    Calls Tryd.prog 20 #[.slice ao n c] w fun e w' => ∃ ro, e = retPE ro ec ∧ isTab z ro ∧ RefN w.heap.size w' ro N p ∧ Same' w w' := by
  rcases h with ⟨hp, rfl, rfl, rfl⟩ | ⟨hp, hF, rfl, rfl, rfl⟩ | ⟨hF, rfl, rfl, rfl⟩
  · refine (RNew_par c hK hn hp).mono ?_
    rintro e w' ⟨rfl, rfl⟩
    exact ⟨none, rfl, .inl ⟨rfl, rfl⟩, .inl ⟨rfl, rfl⟩, Fr.refl _ _⟩
  · refine (RNew_run c hK hn hp).mono ?_
    intro e w' h
    rcases h with ⟨hF', _⟩ | ⟨_, rfl, hf⟩
    · exact absurd hF' hF
    · exact ⟨none, rfl, .inl ⟨rfl, rfl⟩, .inl ⟨rfl, rfl⟩, hf⟩
  · refine (RNew_run c hK hn hF.par).mono ?_
    intro e w' h
    rcases h with ⟨_, b, rfl, hT, hf⟩ | ⟨⟨v, hv, hg⟩, _⟩
    · exact ⟨_, rfl, .inr ⟨rfl, b, rfl⟩, .inr ⟨b, rfl, hT⟩, hf⟩
    · rw [hF.good hv] at hg; cases hg

theorem ask_cells {W : World} {g : Nat} {A B K Mx : Int} {sl : Value} {t : TypeId} (h : W.heap[g]? = some (Obj.cells #[Value.int .i64 A, Value.int .i64 B, Value.int .i64 K, sl, Value.int .i64 Mx] t (0, 0))) :
    W.cell? ⟨g, 0, none⟩ = some (.int .i64 A) ∧ W.cell? ⟨g, 1, none⟩ = some (.int .i64 B) ∧ W.cell? ⟨g, 2, none⟩ = some (.int .i64 K) ∧ W.cell? ⟨g, 3, none⟩ = some sl ∧ W.cell? ⟨g, 4, none⟩ = some (.int .i64 Mx) := by
  refine ⟨?_, ?_, ?_, ?_, ?_⟩ <;> (rw [cell_of_row _ _ _ _ _ _ h]; rfl)

theorem isTab.nil {z : Bool} {to ro : Option Addr} (h : isTab z to) (h' : isTab z ro) : to.isNone = ro.isNone := by
  rcases h with ⟨rfl, rfl⟩ | ⟨rfl, b, rfl⟩ <;> rcases h' with ⟨h1, rfl⟩ | ⟨h1, b', rfl⟩ <;> first | rfl | cases h1

theorem LifN.keep {B n : Nat} {w w' : World} {M : Nat → Prop} {ao : Option Addr} {p : Nat → Int} (h : LifN B w ao n p) (hf : Fr M w w') (hM : ∀ k, B ≤ k → ¬ M k) (ht : TzTab w') : LifN B w' ao n p := by
  refine ⟨ht, ?_⟩
  rcases h.2 with h | ⟨b, h1, h2⟩
  · exact .inl h
  · exact .inr ⟨b, h1, h2.keep hf hM⟩

set_option maxHeartbeats 8000000 in
set_option maxRecDepth 1000000 in
theorem LiftAsks_any {w : World} {ao : Option Addr} {m c : Nat} {l : Nat → Nat} (hl : ByAt w ao m l) (hmc : m ≤ c) (hm : c ≤ 9223372036854775807) (ht : TzTab w)
    (A B K Mx : Int) (ko : Option Addr) (kn kc : Nat) (key : Nat → Int) (hkn : kn ≤ 9223372036854775807) (hkey : KeyAt w ko kn key) :
    Calls Tryd.prog 6 #[.slice ao m c, .agg #[.int .i64 A, .int .i64 B, .int .i64 K, .slice ko kn kc, .int .i64 Mx]] w fun e w' => e = .returned (.bool true) ∧ Same' w w' := by
  have HL := hide (And.intro hl (And.intro ht hkey))
  clear hl ht hkey
  by_cases h1 : m ≤ 100
  · by_cases h2 : kn ≤ 300
    · have d1 : decide ((100 : Int) < (m : Int)) = false := by simp; omega
      have d2 : decide ((300 : Int) < (kn : Int)) = false := by simp; omega
      go_enter Tryd.func6, Tryd.ntmps6
      go_wp2_with fail
      have hnew := heap_alloc_new w (Obj.cells #[Value.int .i64 A, Value.int .i64 B, Value.int .i64 K, Value.slice ko kn kc, Value.int .i64 Mx] 36)
      have hf0 : Same' w (w.alloc (Obj.cells #[Value.int .i64 A, Value.int .i64 B, Value.int .i64 K, Value.slice ko kn kc, Value.int .i64 Mx] 36)) := (Fr.refl _ w).alloc _
      obtain ⟨g, hg⟩ : ∃ g, g = w.heap.size := ⟨_, rfl⟩
      rw [← hg] at hnew ⊢
      generalize w.alloc (Obj.cells #[Value.int .i64 A, Value.int .i64 B, Value.int .i64 K, Value.slice ko kn kc, Value.int .i64 Mx] 36) = w1 at *
      have HB : Hid (∀ W, Same' w1 W → W.heap[g]? = some (Obj.cells #[Value.int .i64 A, Value.int .i64 B, Value.int .i64 K, Value.slice ko kn kc, Value.int .i64 Mx] 36 (0, 0))) := by
        intro W hW
        exact (hW.block g (lt_of_block hnew) id).trans hnew
      clear hnew hg
      refine (grown_at c (HL.out.1.keep hf0) (by omega)).mono ?_
      rintro e w2 ⟨po, pc, rfl, hM⟩
      go_wp2_with fail
      have ho : Out m (grw l) 0 m false := .inr (.inr ⟨grw_forest l m, rfl, rfl, rfl⟩)
      refine (New_any pc ho hM.key (by omega) (HL.out.2.1.keep (hf0.trans hM.fr) id)).mono ?_
      rintro e w3 ⟨to, rfl, hto, hLt, hf3⟩
      go_wp2_with fail
      refine (RNew_any pc ho (hM.key.keep hf3) (by omega)).mono ?_
      rintro e w4 ⟨ro, rfl, hro, hRt, hf4⟩
      have hnil := hto.nil hro
      have HT : Hid (∀ W, Same' w4 W → LifN w2.heap.size W to m (grw l) ∧ RefN w3.heap.size W ro m (grw l) ∧ KeyAt W ko kn key ∧ TzTab W ∧ Same' w1 W ∧ Same' w W) := fun W hW =>
        have hw : Same' w W := (hf0.trans hM.fr).trans ((hf3.trans hf4).trans hW)
        ⟨hLt.same (hf4.trans hW), hRt.same hW, HL.out.2.2.keep hw, HL.out.2.1.keep hw id, (hM.fr.trans (hf3.trans hf4)).trans hW, hw⟩
      clear hto hro hLt hRt hf3 hf4 hM hf0 ho
      go_wp2_with fail
      go_loopg [10] (m + 2) (fun z i wr => ∃ v : Int, i = .int .i64 v ∧ -1 ≤ v ∧ v + z = m + 1 ∧ Same' w4 wr)
      case atStart => exact ⟨-1, rfl, by omega, by omega, Fr.refl _ _⟩
      case round =>
        obtain ⟨v, rfl, hv1, hv, hf⟩ := hrel
        by_cases hlt : v ≤ m
        · have hd : decide (v ≤ (m : Int)) = true := by simpa using hlt
          have hx := HB.out _ (HT.out _ hf).2.2.2.2.1
          have hgl := lt_of_block hx
          obtain ⟨c0, c1, c2, c3, c4⟩ := ask_cells hx
          clear hx
          go_wp2_with fail
          have hf' : Same' w4 (wr.alloc (Obj.cells #[Value.int .i64 v, Value.int .i64 B, Value.int .i64 K, Value.slice ko kn kc, Value.int .i64 Mx] 36)) := hf.alloc _
          have hy := heap_alloc_new wr (Obj.cells #[Value.int .i64 v, Value.int .i64 B, Value.int .i64 K, Value.slice ko kn kc, Value.int .i64 Mx] 36)
          obtain ⟨gy, hgy⟩ : ∃ gy, gy = wr.heap.size := ⟨_, rfl⟩
          rw [← hgy] at hy ⊢
          have hgy4 : ¬ gy < w4.heap.size := by have := hf.size; omega
          obtain ⟨wa, hwa⟩ : ∃ wa, wa = wr.alloc (Obj.cells #[Value.int .i64 v, Value.int .i64 B, Value.int .i64 K, Value.slice ko kn kc, Value.int .i64 Mx] 36) := ⟨_, rfl⟩
          rw [← hwa] at hf' hy ⊢
          clear hf hgy hwa hgl c0 c1 c2 c3 c4
          obtain ⟨t1, t2, t3, t4, t5, t6⟩ := HT.out _ hf'
          refine (agree_at t1 t2 hnil v B K Mx ko kn kc key h2 t3).mono ?_
          clear t1 t2 t3 t4 t5 t6
          rintro e w5 ⟨rfl, hf5⟩
          replace hf' := hf'.trans hf5
          have hy := (hf5.block gy (lt_of_block hy) id).trans hy
          obtain ⟨y0, y1, y2, y3, y4⟩ := ask_cells hy
          have z1 := frozen_of_row w5 gy 1 _ _ hy
          have z2 := frozen_of_row w5 gy 2 _ _ hy
          obtain ⟨c0, c1, c2, c3, c4⟩ := ask_cells (HB.out _ (HT.out _ hf').2.2.2.2.1)
          have hn0 : ((m : Int) + 1 == 0) = false := by rw [beq_eq_false_iff_ne]; omega
          clear c0 c1 c3 c4
          have hgl : gy < w5.heap.size := lt_of_block hy
          go_wp2_with fail
          have hs : ∀ x y : Value, Same' w4 ((w5.setCell ⟨gy, 1, none⟩ x).setCell ⟨gy, 2, none⟩ y) := fun x y => (hf'.setCell _ _ (fun h => hgy4 h)).setCell _ _ (fun h => hgy4 h)
          obtain ⟨t1, t2, t3, t4, t5, t6⟩ := HT.out _ (hs (Value.int IntKind.i64 ((wrap64 (v * 7 + K.tmod 50)).tmod ((m : Int) + 1))) (Value.int IntKind.i64 (v.tdiv 2)))
          refine (agree_at t1 t2 hnil v _ _ Mx ko kn kc key h2 t3).mono ?_
          clear t1 t2 t3 t4 t5 t6
          rintro e w6 ⟨rfl, hf6⟩
          replace hf' := (hs _ _).trans hf6
          go_wp2_with fail
          go_roundg (gk - 1)
          case measure => omega
          case rel => exact ⟨v + 1, by go_num, by omega, by omega, hf'⟩
        · have hd : decide (v ≤ (m : Int)) = false := by simpa using hlt
          obtain ⟨_, _, _, htz, _, hw⟩ := HT.out _ hf
          go_wp2_with fail
          refine (works_at htz).mono ?_
          rintro e w5 ⟨rfl, hf5⟩
          go_wp2_with fail
          go_ret
          exact ⟨rfl, hw.trans hf5⟩
    · have d1 : decide ((100 : Int) < (m : Int)) = false := by simp; omega
      have d2 : decide ((300 : Int) < (kn : Int)) = true := by simp; omega
      go_enter Tryd.func6, Tryd.ntmps6
      go_wp2_with fail
      refine (works_at ((HL.out.2.1.keep ((Fr.refl (fun _ => False) w).alloc _) id))).mono ?_
      rintro e w5 ⟨rfl, hf5⟩
      go_wp2_with fail
      go_ret
      exact ⟨rfl, ((Fr.refl _ w).alloc _).trans hf5⟩
  · have d1 : decide ((100 : Int) < (m : Int)) = true := by simp; omega
    go_enter Tryd.func6, Tryd.ntmps6
    go_wp2_with fail
    refine (works_at ((HL.out.2.1.keep ((Fr.refl (fun _ => False) w).alloc _) id))).mono ?_
    rintro e w5 ⟨rfl, hf5⟩
    go_wp2_with fail
    go_ret
    exact ⟨rfl, ((Fr.refl _ w).alloc _).trans hf5⟩

end Go.Proofs.YthpghcidocjanaaDoor
