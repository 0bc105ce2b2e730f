/- Walks: Climb over a table's nodes. -/
import Derived.Test.YthpghcidocjanaaDoorT12
namespace Go.Proofs.YthpghcidocjanaaDoor
open Go.RowKit

section
variable {w : World} {b0 n : Nat} {p : Nat → Int}

theorem clb_step {key : Nat → Int} {mx : Int} {f v : Nat} (h : lowB key mx (p v) = true) : clb p key mx (f + 1) v = clb p key mx f (p v).toNat := by
  show (if lowB key mx (p v) = true then _ else _) = _
  rw [if_pos h]

theorem clb_stop {key : Nat → Int} {mx : Int} {f v : Nat} (h : lowB key mx (p v) = false) : clb p key mx f v = v := by
  cases f with
  | zero => rfl
  | succ f =>
    show (if lowB key mx (p v) = true then _ else _) = _
    rw [h, if_neg (by simp)]

theorem lowB_neg {key : Nat → Int} {mx q : Int} (h : q < 0) : lowB key mx q = false := by unfold lowB; simp; omega

theorem Forest.dep_up (hF : Forest n p) {v : Nat} (hv : v < n) (h : 0 ≤ p v) : ∃ u : Nat, p v = (u : Nat) ∧ u < n ∧ dep n p v = dep n p u + 1 := by
  have h1 : 1 ≤ dep n p v := (hF.anc_iff hv 1).1 (by rw [anc_one]; exact h)
  obtain ⟨u, h2, h3, h4⟩ := hF.anc_dep hv h1
  rw [anc_one] at h2
  exact ⟨u, h2, h3, by omega⟩

set_option maxHeartbeats 1000000 in
set_option maxRecDepth 100000 in
theorem Full.climb_in (h : Full w b0 n p) {v : Nat} (hv : v < n) (mx : Int) (ko : Option Addr) (kc : Nat) (key : Nat → Int) (hK : KeyAt w ko n key) :
    Calls Tryd.prog 23 #[.pointer (some ⟨b0, 0, none⟩), .int .i64 v, .slice ko n kc, .int .i64 mx] w fun e w' => e = retIE (clb p key mx n v : Nat) 0 ∧ Same' w w' := by
  obtain ⟨hF, hn, g, gd, hT⟩ := h
  have c0 := hT.c0
  have hb := block_lt_of_cell c0
  have hdv := hF.dep_lt hv
  have C := hide (fun W (hf : Same' w W) => (hT.same hf).node_is (v : Int) (t := true) (by unfold inN; simp; omega))
  have C2 := hide (fun W (hf : Same' w W) => (hT.same hf).len)
  have hne : ((n : Int) != (n : Int)) = false := by simp
  have HT := hide hT
  have HF := hide hF
  have HK := hide hK
  have c1 := hT.cu (i := 0) (by omega)
  have cv : w.cell? ⟨g 0, v, none⟩ = some (.int .i32 (p v)) := by rw [(hT.up 0 (by omega)).cell v hv]; unfold i32V; rw [upAt_zero]
  have hg := block_lt_of_cell cv
  clear hT hK hF
  go_enter Tryd.func23, Tryd.ntmps23
  go_wp2_with (go_at_call 26; refine (C.out _ (((Fr.refl _ w).alloc _).alloc _)).mono ?_; clear C; rintro e w' ⟨rfl, rfl⟩)
  go_quiet ((go_at_call 24; exact Calls.quiet_of_same ((C2.out _ ((((Fr.refl _ w).alloc _).alloc _).drewN _)).mono fun _ _ h => ⟨h.1, h.2.symm⟩)))
  go_wp2
  have hs : Same' w (((w.alloc (Obj.cells #[Value.slice ko n kc] 34)).alloc (Obj.cells #[Value.int IntKind.i64 mx] 2)).drewN nq) := (((Fr.refl _ w).alloc _).alloc _).drewN _
  have k1 : (((w.alloc (Obj.cells #[Value.slice ko n kc] 34)).alloc (Obj.cells #[Value.int IntKind.i64 mx] 2)).drewN nq).cell? ⟨w.heap.size, 0, none⟩ = some (.slice ko n kc) := by go_simp
  have k2 : (((w.alloc (Obj.cells #[Value.slice ko n kc] 34)).alloc (Obj.cells #[Value.int IntKind.i64 mx] 2)).drewN nq).cell? ⟨w.heap.size + 1, 0, none⟩ = some (.int .i64 mx) := by go_simp
  generalize (((w.alloc (Obj.cells #[Value.slice ko n kc] 34)).alloc (Obj.cells #[Value.int IntKind.i64 mx] 2)).drewN nq) = w0 at hs k1 k2 ⊢
  have HX := hide (And.intro hs (And.intro k1 k2))
  clear hs k1 k2 c0 c1 cv hg hb hne C2
  go_loopg [1, 11] n (fun f a q wr => ∃ u : Nat, a = .int .i64 u ∧ u < n ∧ q = .int .i32 (p u) ∧ clb p key mx f u = clb p key mx n v ∧ dep n p u ≤ f ∧ Same' w0 wr)
  case atStart => exact ⟨v, rfl, hv, rfl, rfl, by omega, Fr.refl _ _⟩
  case round =>
    obtain ⟨u, rfl, hu, rfl, hcl, hdf, hf⟩ := hrel
    obtain ⟨hs, k1, k2⟩ := HX.out
    have k1' := (hf.cell (block_lt_of_cell k1) id).trans k1
    have k2' := (hf.cell (block_lt_of_cell k2) id).trans k2
    have hpr := HF.out.par u hu
    have L := low_at k1' k2' (HK.out.keep (hs.trans hf)) hpr.2
    have HS := hide (hs.trans hf)
    clear hs k1 k2 k1' k2'
    cases hl : lowB key mx (p u) with
    | false =>
      rw [hl] at L
      rw [clb_stop hl] at hcl
      have L := hide L
      have HC := hide hcl
      clear hl hcl
      go_wp2_with (go_at_call 37; refine L.out.mono ?_; clear L; rintro e w5 ⟨rfl, hf5⟩)
      go_ret2
      exact ⟨by rw [← HC.out]; rfl, HS.out.trans hf5⟩
    | true =>
      have h0 : 0 ≤ p u := by
        by_cases h0 : 0 ≤ p u
        · exact h0
        · rw [lowB_neg (by omega)] at hl; cases hl
      obtain ⟨x, hx, hxn, hdx⟩ := HF.out.dep_up hu h0
      obtain ⟨f', rfl⟩ : ∃ f', gk = f' + 1 := ⟨gk - 1, by omega⟩
      rw [clb_step hl, hx] at hcl
      rw [hl] at L
      rw [hx] at L ⊢
      have L := hide L
      have HC := hide hcl
      clear hl hcl hx h0
      have hcx : ∀ W, Same' w W → W.cell? ⟨b0, 1, none⟩ = some (.slice (some ⟨g 0, 0, none⟩) n n) ∧ W.cell? ⟨g 0, x, none⟩ = some (.int .i32 (p x)) := fun W hW => by
        have T := HT.out.same hW
        refine ⟨T.cu (i := 0) (by omega), ?_⟩
        rw [(T.up 0 (by omega)).cell x hxn]; unfold i32V; rw [upAt_zero]
      have HCX := hide hcx
      clear hcx hpr
      go_wp2_with (go_at_call 37; refine L.out.mono ?_; clear L; rintro e w5 ⟨rfl, hf5⟩; obtain ⟨c1, c2⟩ := HCX.out w5 (HS.out.trans hf5))
      go_roundg f'
      case measure => omega
      case rel => exact ⟨x, rfl, hxn, rfl, HC.out, by omega, hf.trans hf5⟩
end

end Go.Proofs.YthpghcidocjanaaDoor
