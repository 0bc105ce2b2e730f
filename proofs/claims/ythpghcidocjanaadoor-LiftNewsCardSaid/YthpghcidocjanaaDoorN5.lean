/- The code's table and the document's: agree. -/
import Derived.Test.YthpghcidocjanaaDoorN4
import Derived.Test.YthpghcidocjanaaDoorL6
import Derived.BigGuardPart
namespace Go.Proofs.YthpghcidocjanaaDoor
open Go.RowKit

/-- The code's table, or none: then it has no nodes. -/
def LifN (B : Nat) (w : World) (ao : Option Addr) (n : Nat) (p : Nat → Int) : Prop := TzTab w ∧ ((ao = none ∧ n = 0) ∨ ∃ b, ao = some ⟨b, 0, none⟩ ∧ FullN B w b n p)

section
variable {B n : Nat} {w : World} {ao : Option Addr} {p : Nat → Int}

theorem LifN.same {w' : World} (h : LifN B w ao n p) (hf : Same' w w') : LifN B w' ao n p := by
  refine ⟨h.1.keep hf id, ?_⟩
  rcases h.2 with h | ⟨b, h1, h2⟩
  · exact .inl h
  · exact .inr ⟨b, h1, h2.keep hf (fun _ _ => id)⟩

theorem LifN.len (h : LifN B w ao n p) : Calls Tryd.prog 24 #[.pointer ao] w fun e w' => e = .returned (.int .i64 (n : Nat)) ∧ w = w' := by
  rcases h with ⟨_, ⟨rfl, rfl⟩ | ⟨b, rfl, h⟩⟩
  · exact Len_nil w
  · obtain ⟨_, _, g, gd, hT, _⟩ := h
    exact hT.len

theorem LifN.depth (h : LifN B w ao n p) (v : Int) : Calls Tryd.prog 13 #[.pointer ao, .int .i64 v] w fun e w' => e = .returned (.int .i64 (depR n p v)) ∧ w = w' := by
  rcases h with ⟨_, ⟨rfl, rfl⟩ | ⟨b, rfl, h⟩⟩
  · have e : depR 0 p v = 0 := by unfold depR; rw [if_neg (by omega)]
    rw [e]
    exact (noNode_nil w).depth v
  · exact h.full.dpt v

theorem LifN.up (h : LifN B w ao n p) (v k : Int) : Calls Tryd.prog 16 #[.pointer ao, .int .i64 v, .int .i64 k] w fun e w' => e = ret2 (upR n p v k) ∧ Same' w w' := by
  rcases h with ⟨ht, ⟨rfl, rfl⟩ | ⟨b, rfl, h⟩⟩
  · have e : upR 0 p v k = none := by unfold upR; rw [if_neg (by omega)]
    rw [e]
    exact (noNode_nil w).up v k
  · exact h.full.up ht v k

theorem LifN.root (h : LifN B w ao n p) (v : Int) : Calls Tryd.prog 15 #[.pointer ao, .int .i64 v] w fun e w' => e = ret2 (rootR n p v) ∧ Same' w w' := by
  rcases h with ⟨ht, ⟨rfl, rfl⟩ | ⟨b, rfl, h⟩⟩
  · have e : rootR 0 p v = none := by unfold rootR; rw [if_neg (by omega)]
    rw [e]
    exact (noNode_nil w).root v
  · exact h.full.root ht v

theorem LifN.common (h : LifN B w ao n p) (a b : Int) : Calls Tryd.prog 17 #[.pointer ao, .int .i64 a, .int .i64 b] w fun e w' => e = ret2 (cmnR n p a b) ∧ Same' w w' := by
  rcases h with ⟨ht, ⟨rfl, rfl⟩ | ⟨b0, rfl, h⟩⟩
  · have e : cmnR 0 p a b = none := by unfold cmnR; rw [if_neg (by omega)]
    rw [e]
    exact (noNode_nil w).common a b
  · exact h.full.common ht a b

theorem LifN.above (h : LifN B w ao n p) (a b : Int) : Calls Tryd.prog 25 #[.pointer ao, .int .i64 a, .int .i64 b] w fun e w' => e = .returned (.bool (abvR n p a b)) ∧ Same' w w' := by
  rcases h with ⟨ht, ⟨rfl, rfl⟩ | ⟨b0, rfl, h⟩⟩
  · have e : abvR 0 p a b = false := by unfold abvR cmnR; rw [if_neg (by omega)]; rfl
    rw [e]
    exact (noNode_nil w).above a b
  · exact h.full.above ht a b

theorem LifN.dist (h : LifN B w ao n p) (a b : Int) : Calls Tryd.prog 18 #[.pointer ao, .int .i64 a, .int .i64 b] w fun e w' => e = ret2 (dstR n p a b) ∧ Same' w w' := by
  rcases h with ⟨ht, ⟨rfl, rfl⟩ | ⟨b0, rfl, h⟩⟩
  · have e : dstR 0 p a b = none := by unfold dstR cmnR; rw [if_neg (by omega)]; rfl
    rw [e]
    exact (noNode_nil w).dist a b
  · exact h.full.dist ht a b

theorem LifN.climb (h : LifN B w ao n p) (v mx : Int) (ko : Option Addr) (kn kc : Nat) (key : Nat → Int) (hk : KeyAt w ko kn key) :
    Calls Tryd.prog 23 #[.pointer ao, .int .i64 v, .slice ko kn kc, .int .i64 mx] w fun e w' => e = retIE (clbR ao.isNone n p key kn mx v).1 (clbR ao.isNone n p key kn mx v).2 ∧ Same' w w' := by
  rcases h with ⟨ht, ⟨rfl, rfl⟩ | ⟨b0, rfl, h⟩⟩
  · exact Climb_nil w v mx ko kn kc
  · by_cases hv : 0 ≤ v ∧ v < n
    · obtain ⟨x, rfl⟩ : ∃ x : Nat, v = x := ⟨v.toNat, by omega⟩
      by_cases hkn : kn = n
      · subst hkn
        have e : clbR (some ⟨b0, 0, none⟩ : Option Addr).isNone kn p key kn mx x = (((clb p key mx kn x : Nat) : Int), 0) := by
          unfold clbR
          rw [if_neg (by simp), if_neg (by omega), if_neg (by omega)]
          simp
        rw [e]
        exact h.full.climb_in (by omega) mx ko kc key hk
      · have e : clbR (some ⟨b0, 0, none⟩ : Option Addr).isNone n p key kn mx x = (0, 2) := by
          unfold clbR
          rw [if_neg (by simp), if_neg (by omega), if_pos hkn]
        rw [e]
        exact h.full.climb_len (by omega) mx ko kn kc hkn
    · have e : clbR (some ⟨b0, 0, none⟩ : Option Addr).isNone n p key kn mx v = (0, 3) := by
        unfold clbR
        rw [if_neg (by simp), if_pos hv]
      rw [e]
      exact h.full.climb_out hv mx ko kn kc
end

theorem ret2_ex (o : Option Int) : ∃ x t, ret2 o = retIB x t := ⟨_, _, rfl⟩

set_option maxHeartbeats 8000000 in
set_option maxRecDepth 1000000 in
theorem agree_at {B B' n : Nat} {w : World} {to ro : Option Addr} {p : Nat → Int} (hL : LifN B w to n p) (hR : RefN B' w ro n p) (hnil : to.isNone = ro.isNone) (A Bx K Mx : Int) (ko : Option Addr) (kn kc : Nat) (key : Nat → Int) (hkn : kn ≤ 300) (hkey : KeyAt w ko kn key) :
    Calls Tryd.prog 21 #[.pointer to, .pointer ro, .agg #[.int .i64 A, .int .i64 Bx, .int .i64 K, .slice ko kn kc, .int .i64 Mx]] w fun e w' => e = .returned (.bool true) ∧ Same' w w' := by
  obtain ⟨x1, t1, k1⟩ := ret2_ex (rootR n p A)
  obtain ⟨x2, t2, k2⟩ := ret2_ex (upR n p A K)
  obtain ⟨x3, t3, k3⟩ := ret2_ex (cmnR n p A Bx)
  obtain ⟨x4, t4, k4⟩ := ret2_ex (dstR n p A Bx)
  obtain ⟨D, hD⟩ : ∃ D, depR n p A = D := ⟨_, rfl⟩
  obtain ⟨V, hV⟩ : ∃ V, abvR n p A Bx = V := ⟨_, rfl⟩
  obtain ⟨cx, hcx⟩ : ∃ c, (clbR to.isNone n p key kn Mx A).1 = c := ⟨_, rfl⟩
  obtain ⟨ce, hce⟩ : ∃ c, (clbR to.isNone n p key kn Mx A).2 = c := ⟨_, rfl⟩
  have HK := hide (And.intro k1 (And.intro k2 (And.intro k3 (And.intro k4 (And.intro hD (And.intro hV (And.intro hcx (And.intro hce hnil))))))))
  have HL := hide (And.intro hL (And.intro hR hkey))
  clear k1 k2 k3 k4 hD hV hcx hce hL hR hkey hnil
  have hf := Fr.refl (fun _ => False) w
  have b1 : (x1 != x1) = false := by simp
  have b2 : (t1 != t1) = false := by simp
  have b3 : (x2 != x2) = false := by simp
  have b4 : (t2 != t2) = false := by simp
  have b5 : (x3 != x3) = false := by simp
  have b6 : (t3 != t3) = false := by simp
  have b7 : (x4 != x4) = false := by simp
  have b8 : (t4 != t4) = false := by simp
  have b9 : (D != D) = false := by simp
  have b10 : (V != V) = false := by simp
  have b11 : ((n : Int) != (n : Int)) = false := by simp
  have b12 : (cx == cx) = true := by simp
  have b13 : (ce == ce) = true := by simp
  go_enter Tryd.func21, Tryd.ntmps21
  go_wp2_with fail
  have hnew := heap_alloc_new w (Obj.cells #[Value.int .i64 A, Value.int .i64 Bx, Value.int .i64 K, Value.slice ko kn kc, Value.int .i64 Mx] 36)
  have hf0 : Same' w (w.alloc (Obj.cells #[Value.int .i64 A, Value.int .i64 Bx, Value.int .i64 K, Value.slice ko kn kc, Value.int .i64 Mx] 36)) := (Fr.refl _ w).alloc _
  obtain ⟨g, hg⟩ : ∃ g, g = w.heap.size := ⟨_, rfl⟩
  rw [← hg] at hnew ⊢
  generalize w.alloc (Obj.cells #[Value.int .i64 A, Value.int .i64 Bx, Value.int .i64 K, Value.slice ko kn kc, Value.int .i64 Mx] 36) = w1 at *
  have HB : Hid (∀ W, Same' w1 W → W.cell? ⟨g, 0, none⟩ = some (.int .i64 A) ∧ W.cell? ⟨g, 1, none⟩ = some (.int .i64 Bx) ∧ W.cell? ⟨g, 2, none⟩ = some (.int .i64 K) ∧ W.cell? ⟨g, 3, none⟩ = some (.slice ko kn kc) ∧ W.cell? ⟨g, 4, none⟩ = some (.int .i64 Mx)) := by
    intro W hW
    have hl := lt_of_block hnew
    have hW' : W.heap[g]? = _ := (hW.block g hl id).trans hnew
    refine ⟨?_, ?_, ?_, ?_, ?_⟩ <;> (rw [cell_of_row _ _ _ _ _ _ hW']; rfl)
  clear hnew hg
  have hL1 : Hid (∀ W, Same' w1 W → LifN B W to n p ∧ RefN B' W ro n p ∧ KeyAt W ko kn key) := fun W hW => ⟨HL.out.1.same (hf0.trans hW), HL.out.2.1.same (hf0.trans hW), HL.out.2.2.keep (hf0.trans hW)⟩
  have H0 := hide hf0
  clear hf hf0 HL
  have hf := Fr.refl (fun _ => False) w1
  obtain ⟨c0, c1, c2, c3, c4⟩ := HB.out _ hf
  clear c0 c1 c2 c3 c4
  refine ((hL1.out _ hf).1.root A).mono ?_
  rintro e w2 ⟨he, hf2⟩
  rw [HK.out.1] at he
  subst he
  replace hf := hf.trans hf2
  clear hf2
  obtain ⟨c0, c1, c2, c3, c4⟩ := HB.out _ hf
  go_wp2_with fail
  clear c0 c1 c2 c3 c4
  refine (rroot (hL1.out _ hf).2.1 A).mono ?_
  rintro e w2 ⟨he, hf2⟩
  rw [HK.out.1] at he
  subst he
  replace hf := hf.trans hf2
  clear hf2
  obtain ⟨c0, c1, c2, c3, c4⟩ := HB.out _ hf
  go_wp2_with fail
  clear c0 c1 c2 c3 c4
  have q0 : ∀ x : Wd (fun _ => False) w1, x.w.cell? ⟨g, 0, none⟩ = some (.int .i64 A) := fun x => (HB.out _ x.h).1
  have q1 : ∀ x : Wd (fun _ => False) w1, x.w.cell? ⟨g, 1, none⟩ = some (.int .i64 Bx) := fun x => (HB.out _ x.h).2.1
  have D1 : Hid (∀ x : Wd (fun _ => False) w1, Calls Tryd.prog 24 #[.pointer to] x.w fun e w' => e = .returned (.int .i64 (n : Nat)) ∧ x.w = w') := fun x => (hL1.out _ x.h).1.len
  have D2 : Hid (∀ x : Wd (fun _ => False) w1, Calls Tryd.prog 30 #[.pointer ro] x.w fun e w' => e = .returned (.int .i64 (n : Nat)) ∧ x.w = w') := fun x => rlen (hL1.out _ x.h).2.1
  have D3 : Hid (∀ x : Wd (fun _ => False) w1, Calls Tryd.prog 13 #[.pointer to, .int .i64 A] x.w fun e w' => e = .returned (.int .i64 D) ∧ x.w = w') := fun x => HK.out.2.2.2.2.1 ▸ (hL1.out _ x.h).1.depth A
  have D4 : Hid (∀ x : Wd (fun _ => False) w1, Calls Tryd.prog 31 #[.pointer ro, .int .i64 A] x.w fun e w' => e = .returned (.int .i64 D) ∧ Same' x.w w') := fun x => HK.out.2.2.2.2.1 ▸ rdepth (hL1.out _ x.h).2.1 A
  have D5 : Hid (∀ x : Wd (fun _ => False) w1, Calls Tryd.prog 25 #[.pointer to, .int .i64 A, .int .i64 Bx] x.w fun e w' => e = .returned (.bool V) ∧ Same' x.w w') := fun x => HK.out.2.2.2.2.2.1 ▸ (hL1.out _ x.h).1.above A Bx
  have D6 : Hid (∀ x : Wd (fun _ => False) w1, Calls Tryd.prog 32 #[.pointer ro, .int .i64 A, .int .i64 Bx] x.w fun e w' => e = .returned (.bool V) ∧ Same' x.w w') := fun x => HK.out.2.2.2.2.2.1 ▸ rabove (hL1.out _ x.h).2.1 A Bx
  refine wp_region_wd (fun _ => False) w1 (by kernel_rfl) (by kernel_rfl) hf ?_
  repeat (go_big_quiet_step (first | (go_at_call 24; exact Wd.quiet_same (D1.out _)) | (go_at_call 30; exact Wd.quiet_same (D2.out _)) | (go_at_call 13; exact Wd.quiet_same (D3.out _)) | (go_at_call 31; exact Wd.quiet (D4.out _)) | (go_at_call 25; exact Wd.quiet (D5.out _)) | (go_at_call 32; exact Wd.quiet (D6.out _))))
  refine wpQuiet_nil ?_
  rintro _ ⟨y, rfl⟩
  clear D1 D2 D3 D4 D5 D6 q0 q1
  replace hf := y.h
  obtain ⟨c0, c1, c2, c3, c4⟩ := HB.out _ hf
  go_wp2_with fail
  clear c0 c1 c2 c3 c4
  refine ((hL1.out _ hf).1.up A K).mono ?_
  rintro e w2 ⟨he, hf2⟩
  rw [HK.out.2.1] at he
  subst he
  replace hf := hf.trans hf2
  clear hf2
  obtain ⟨c0, c1, c2, c3, c4⟩ := HB.out _ hf
  go_wp2_with fail
  clear c0 c1 c2 c3 c4
  refine (rup (hL1.out _ hf).2.1 A K).mono ?_
  rintro e w2 ⟨he, hf2⟩
  rw [HK.out.2.1] at he
  subst he
  replace hf := hf.trans hf2
  clear hf2
  obtain ⟨c0, c1, c2, c3, c4⟩ := HB.out _ hf
  go_wp2_with fail
  clear c0 c1 c2 c3 c4
  refine ((hL1.out _ hf).1.common A Bx).mono ?_
  rintro e w2 ⟨he, hf2⟩
  rw [HK.out.2.2.1] at he
  subst he
  replace hf := hf.trans hf2
  clear hf2
  obtain ⟨c0, c1, c2, c3, c4⟩ := HB.out _ hf
  go_wp2_with fail
  clear c0 c1 c2 c3 c4
  refine (rcommon (hL1.out _ hf).2.1 A Bx).mono ?_
  rintro e w2 ⟨he, hf2⟩
  rw [HK.out.2.2.1] at he
  subst he
  replace hf := hf.trans hf2
  clear hf2
  obtain ⟨c0, c1, c2, c3, c4⟩ := HB.out _ hf
  go_wp2_with fail
  clear c0 c1 c2 c3 c4
  refine ((hL1.out _ hf).1.dist A Bx).mono ?_
  rintro e w2 ⟨he, hf2⟩
  rw [HK.out.2.2.2.1] at he
  subst he
  replace hf := hf.trans hf2
  clear hf2
  obtain ⟨c0, c1, c2, c3, c4⟩ := HB.out _ hf
  go_wp2_with fail
  clear c0 c1 c2 c3 c4
  refine (rdist (hL1.out _ hf).2.1 A Bx).mono ?_
  rintro e w2 ⟨he, hf2⟩
  rw [HK.out.2.2.2.1] at he
  subst he
  replace hf := hf.trans hf2
  clear hf2
  obtain ⟨c0, c1, c2, c3, c4⟩ := HB.out _ hf
  have e3 := (HB.out _ (hf.alloc (Obj.cells #[] 2))).2.2.2.1
  have HK2 := hide (hL1.out _ hf).2.2
  go_wp2_with (at_builtin; refine wpList_copyK _ rfl _ _ 34 rfl 2 (.int .i64 0) 8 Tryd.underlying34 info2 rfl rfl ko kn kc (i64V key) rfl HK2.out (oneI64V key) (by unfold maxLen; omega) (by omega) ?_)
  intro g' cap' w3 hM
  clear c0 c1 c2 c3 c4 e3
  have HF0 := hf
  replace hf := hf.trans hM.fr
  have HM := hide hM
  clear hM
  obtain ⟨c0, c1, c2, c3, c4⟩ := HB.out _ hf
  go_wp2_with fail
  clear c0 c1 c2 c3 c4
  refine ((hL1.out _ hf).1.climb A Mx _ kn cap' key HM.out.key2).mono ?_
  rintro e w4 ⟨he, hf2⟩
  rw [HK.out.2.2.2.2.2.2.1, HK.out.2.2.2.2.2.2.2.1] at he
  subst he
  replace hf := hf.trans hf2
  have HM4 := hide (HM.out.keep hf2)
  clear hf2
  obtain ⟨c0, c1, c2, c3, c4⟩ := HB.out _ hf
  go_wp2_with fail
  clear c0 c1 c2 c3 c4
  refine (rclimb (hL1.out _ hf).2.1 A Mx ko kn kc key (hL1.out _ hf).2.2).mono ?_
  rintro e w5 ⟨he, hw5⟩
  rw [← HK.out.2.2.2.2.2.2.2.2, HK.out.2.2.2.2.2.2.1, HK.out.2.2.2.2.2.2.2.1] at he
  subst he
  subst hw5
  obtain ⟨c0, c1, c2, c3, c4⟩ := HB.out _ hf
  go_wp2_with fail
  clear c0 c1 c2 c3 c4
  have HF4 := hide hf
  clear hf HF0
  go_loopg [16] kn (fun z i wr => ∃ k : Nat, k + z = kn ∧ i = .int .i64 k ∧ Same' w4 wr)
  case atStart => exact ⟨0, by omega, rfl, Fr.refl _ _⟩
  case round =>
    obtain ⟨k, hk, rfl, hf⟩ := hrel
    by_cases hlt : k < kn
    · have hd : decide (k < kn) = true := by simpa using hlt
      have c3 := (HB.out _ (HF4.out.trans hf)).2.2.2.1
      obtain ⟨ad, rfl, hc⟩ := (hL1.out _ (HF4.out.trans hf)).2.2 k hlt
      rcases (HM4.out.keep hf).row with ⟨_, h⟩ | ⟨g2, hg2, hr, _⟩
      · omega
      cases hg2
      have hcap : kn ≤ cap' := by obtain ⟨_, _, h, _⟩ := hr; exact h
      have hcr : wr.cell? ⟨g', k, none⟩ = some (.int .i64 (key k)) := hr.cell k hlt
      have hki : (k : Int) < kn := by omega
      clear hr
      generalize key k = z at *
      have hz : (z != z) = false := by simp
      go_wp2
      go_quiet (fail)
      go_wp2
      go_roundg (gk - 1)
      case measure => omega
      case rel => exact ⟨k + 1, by omega, by go_num, hf.drewN _⟩
    · have hd : decide (k < kn) = false := by simpa using hlt
      go_wp2
      go_ret
      exact ⟨rfl, (H0.out.trans HF4.out).trans hf⟩

end Go.Proofs.YthpghcidocjanaaDoor
