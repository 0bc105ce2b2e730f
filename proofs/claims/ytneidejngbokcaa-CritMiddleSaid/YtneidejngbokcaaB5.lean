/- Walks: terms, an iterator over products. -/
import Derived.Sort.LoopGhostIn
import Derived.Shelf.RegionOpen
import Derived.OwnWalkIn
import Derived.TacticsInMore
import Derived.LoopNIn
import Derived.LoopIn
import Derived.Test.YtneidejngbokcaaT6
import Derived.Test.YtneidejngbokcaaRW
import Derived.Test.YtneidejngbokcaaB4
namespace Go.Proofs.Ytneidejngbokcaa
open Go.RowKit Go.Shelf

attribute [local go_sem] Oper.semAt_some

theorem terms_at (xo vo : Option Addr) (n c m d : Nat) (w : World) :
    Calls Try.prog 51 #[.slice xo n c, .slice vo m d] w fun e w' => ∃ b1 b2, e = .returned (.func (.func 64) #[] #[.pointer (some ⟨b1, 0, none⟩), .pointer (some ⟨b2, 0, none⟩)]) ∧ b1 < b2 ∧ w.heap.size ≤ b1 ∧
      w'.cell? ⟨b1, 0, none⟩ = some (.slice xo n c) ∧ w'.cell? ⟨b2, 0, none⟩ = some (.slice vo m d) ∧ Same' w w' := by
  go_enter Try.func51, Try.ntmps51
  go_wp2_with fail
  go_ret
  exact ⟨w.heap.size, w.heap.size + 1, rfl, by omega, Nat.le_refl _, by simp, by simp, ((Fr.refl _ w).alloc _).alloc _⟩

/-- How a round came out. -/
def Out2 {α : Type} (I2 Ix : α → World → Prop) (B Bx : World → Prop) (x : α) (bv : Bool) (W : World) : Prop := (bv = true ∧ I2 x W ∧ B W) ∨ (bv = false ∧ Ix x W ∧ Bx W)

set_option maxHeartbeats 4000000 in
theorem terms1_at (l b1 b2 : Nat) {xo vo : Option Addr} {n c d : Nat} {f g : Nat → Nat} (I1 I2 Ix : Nat × Nat → World → Prop) (B Bx : World → Prop) (hn : n ≤ 16385)
    (hc1 : ∀ r W, I1 r W → W.cell? ⟨b1, 0, none⟩ = some (.slice xo n c) ∧ W.cell? ⟨b2, 0, none⟩ = some (.slice vo n d) ∧ FlAt W xo n f ∧ FlAt W vo n g)
    (hd1 : ∀ k r r' W, I1 (k, r) W → I1 (k, r') W.drew.drew ∧ I1 (k, r') W.drew)
    (hc2 : ∀ k r r' W, I2 (k, r) W → I1 (k + 1, r') W)
    (hB : ∀ W W', B W → KeepsOthers W W' → B W')
    (hY : ∀ x W, (x.1 < n ∧ cls x.2 = fop .mul (cls (f x.1)) (cls (g x.1))) → I1 x W → B W → YieldAt Fence.wide (8 - 1 - 1) Try.prog l #[.float .f64 x.2] W fun e W' => (e = .returned (.bool true) ∧ I2 x W' ∧ B W') ∨ (e = .returned (.bool false) ∧ Ix x W' ∧ Bx W'))
    (W : World) (h0 : I1 (0, 0) W) (hB0 : B W) :
    CallsIn Fence.wide (8 - 1) Try.prog 64 #[.func (.yield l) #[] #[], .pointer (some ⟨b1, 0, none⟩), .pointer (some ⟨b2, 0, none⟩)] W fun e W' => (∃ v, e = .returned v) ∧ ((I1 (n, 0) W' ∧ B W') ∨ (∃ x, Ix x W' ∧ Bx W')) := by
  have hcb := (hc1 _ _ h0).1
  refine callsIn_of_wp Try.func64 rfl trivial ?_ rfl
  simp only [Try.ntmps64, List.size_toArray, List.length_cons, List.length_nil, Nat.reduceAdd, Nat.reduceSub, Array.replicate_succ, Array.replicate_zero, List.push_toArray, List.append_toArray, List.nil_append, List.cons_append]
  gi_wp2
  gi_loopg [7] n (fun z i wr => ∃ k : Nat, k + z = n ∧ i = .int .i64 k ∧ I1 (k, 0) wr ∧ B wr)
  case atStart => exact ⟨0, by omega, rfl, h0, hB0⟩
  case round =>
    obtain ⟨k, hk, rfl, hi, hb⟩ := hrel
    obtain ⟨ca, cb, fx, fv⟩ := hc1 _ _ hi
    have HB := hide hB
    have HC := hide hc1
    have HC2 := hide hc2
    have HD := hide hd1
    have HY := hide hY
    clear hB hc1 hc2 hd1 hY h0 hB0 hcb
    by_cases hlt : k < n
    · have hd : decide (k < n) = true := by simpa using hlt
      obtain ⟨a1, rfl, e1⟩ := fx k hlt
      obtain ⟨a2, rfl, e2⟩ := fv k hlt
      have hi2 : (k : Int) < n := by omega
      clear fx fv
      cases em : floatBits .mul .f64 (f k) (g k) with
      | some r =>
        have hm : ∀ w, (binOp .mul 24 (.float .f64 (f k)) (.float .f64 (g k))).run Try.prog w = .ok (.float .f64 r) w := fun w => run_float_arith w .mul 24 .f64 _ _ _ em
        obtain ⟨fn, tmps, assign, body, hy, hR⟩ := HY.out (k, r) wr.drew ⟨hlt, cls_some em⟩ (HD.out _ _ r _ hi).2 (HB.out _ _ hb (KeepsOthers.drew _))
        clear em
        have hmo : Try.prog.follows .mixedOrders = true := by kernel_rfl
        have hR' := hR.mono (R' := fun e W' => ∃ bv, e = .returned (.bool bv) ∧ Out2 I2 Ix B Bx (k, r) bv W') (fun e W' h => by
          rcases h with ⟨h1, h2⟩ | ⟨h1, h2⟩
          · exact ⟨true, h1, .inl ⟨rfl, h2⟩⟩
          · exact ⟨false, h1, .inr ⟨rfl, h2⟩⟩)
        clear hR
        gi_wp2
        gi_region_with_o (refine hR'.mono ?_; clear hR'; rintro e W2 ⟨bv, rfl, hp⟩)
        all_goals
          dsimp [Act.put]
          rcases hp with ⟨rfl, hi2, hb2⟩ | ⟨rfl, hi2, hb2⟩
          · gi_wp2
            gi_roundg (gk - 1)
            case measure => omega
            case rel => exact ⟨k + 1, by omega, by go_num, HC2.out _ _ _ _ hi2, hb2⟩
          · gi_wp2
            refine bodyPost_ret (results_none rfl _ _ _) rfl ?_
            exact ⟨⟨_, rfl⟩, .inr ⟨_, hi2, hb2⟩⟩
      | none =>
        have hm : ∀ w, (binOp .mul 24 (.float .f64 (f k)) (.float .f64 (g k))).run Try.prog w = .ok (.float .f64 (nanW (f k) (g k) w)) w.drew := run_none .mul 24 _ _ (by simp) em
        obtain ⟨fn, tmps, assign, body, hy, hR⟩ := HY.out (k, nanW (f k) (g k) wr.drew) wr.drew.drew ⟨hlt, cls_none em (nanW_nan _ _ _)⟩ (HD.out _ _ _ _ hi).1 (HB.out _ _ (HB.out _ _ hb (KeepsOthers.drew _)) (KeepsOthers.drew _))
        clear em
        have hmo : Try.prog.follows .mixedOrders = true := by kernel_rfl
        have hR' := hR.mono (R' := fun e W' => ∃ bv, e = .returned (.bool bv) ∧ Out2 I2 Ix B Bx (k, nanW (f k) (g k) wr.drew) bv W') (fun e W' h => by
          rcases h with ⟨h1, h2⟩ | ⟨h1, h2⟩
          · exact ⟨true, h1, .inl ⟨rfl, h2⟩⟩
          · exact ⟨false, h1, .inr ⟨rfl, h2⟩⟩)
        clear hR
        gi_wp2
        gi_region_with_o (refine hR'.mono ?_; clear hR'; rintro e W2 ⟨bv, rfl, hp⟩)
        all_goals
          dsimp [Act.put]
          rcases hp with ⟨rfl, hi2, hb2⟩ | ⟨rfl, hi2, hb2⟩
          · gi_wp2
            gi_roundg (gk - 1)
            case measure => omega
            case rel => exact ⟨k + 1, by omega, by go_num, HC2.out _ _ _ _ hi2, hb2⟩
          · gi_wp2
            refine bodyPost_ret (results_none rfl _ _ _) rfl ?_
            exact ⟨⟨_, rfl⟩, .inr ⟨_, hi2, hb2⟩⟩
    · have hd : decide (k < n) = false := by simpa using hlt
      obtain rfl : k = n := by omega
      clear fx fv
      gi_wp2
      go_end0
      exact ⟨⟨_, rfl⟩, .inl ⟨hi, hb⟩⟩
end Go.Proofs.Ytneidejngbokcaa
