/- The document's tables: nodes and lines. -/
import Derived.Test.YthpghcidocjanaaDoorL7
namespace Go.Proofs.YthpghcidocjanaaDoor
open Go.RowKit

/-- The document's table. -/
structure RefT (B : Nat) (w : World) (b n : Nat) (p : Nat → Int) : Prop where
  F : Forest n p
  le : n ≤ 8192
  made : w.cell? ⟨b, 0, none⟩ = some (.bool true)
  row : ∃ g c, w.cell? ⟨b, 1, none⟩ = some (.slice (some ⟨g, 0, none⟩) n c) ∧ RowV w g 3 c n (i64V p) ∧ B ≤ g
  nb : B ≤ b

theorem RefT.keep {B : Nat} {w w' : World} {M : Nat → Prop} {b n : Nat} {p : Nat → Int} (h : RefT B w b n p) (hf : Fr M w w') (hM : ∀ k, B ≤ k → ¬ M k) : RefT B w' b n p := by
  obtain ⟨h1, h2, h3, ⟨g, c, h4, h5, h6⟩, h7⟩ := h
  exact ⟨h1, h2, (hf.cell (block_lt_of_cell h3) (hM _ h7)).trans h3, ⟨g, c, (hf.cell (block_lt_of_cell h4) (hM _ h7)).trans h4, h5.keep hf (hM _ h6), h6⟩, h7⟩

/-- The document's table, or none: then it has no nodes. -/
def RefN (B : Nat) (w : World) (ao : Option Addr) (n : Nat) (p : Nat → Int) : Prop := (ao = none ∧ n = 0) ∨ ∃ b, ao = some ⟨b, 0, none⟩ ∧ RefT B w b n p

theorem RefN.keep {B : Nat} {w w' : World} {M : Nat → Prop} {ao : Option Addr} {n : Nat} {p : Nat → Int} (h : RefN B w ao n p) (hf : Fr M w w') (hM : ∀ k, B ≤ k → ¬ M k) : RefN B w' ao n p := by
  rcases h with h | ⟨b, h1, h2⟩
  · exact .inl h
  · exact .inr ⟨b, h1, h2.keep hf hM⟩

theorem RefN.same {B : Nat} {w w' : World} {ao : Option Addr} {n : Nat} {p : Nat → Int} (h : RefN B w ao n p) (hf : Same' w w') : RefN B w' ao n p := h.keep hf (fun _ _ => id)

theorem RefN.F {B : Nat} {w : World} {ao : Option Addr} {n : Nat} {p : Nat → Int} (h : RefN B w ao n p) : Forest n p := by
  rcases h with ⟨_, rfl⟩ | ⟨b, _, h⟩
  · exact ⟨fun v hv => by omega, fun v hv => by omega⟩
  · exact h.F

theorem RefN.le {B : Nat} {w : World} {ao : Option Addr} {n : Nat} {p : Nat → Int} (h : RefN B w ao n p) : n ≤ 8192 := by
  rcases h with ⟨_, rfl⟩ | ⟨b, _, h⟩
  · omega
  · exact h.le

/-- The length of a line, and what stands in it. -/
def lineN (n : Nat) (p : Nat → Int) (v : Int) : Nat := if 0 ≤ v ∧ v < n then dep n p v.toNat + 1 else 0
def lineF (p : Nat → Int) (v : Int) (j : Nat) : Int := anc p j v.toNat

section
variable {B n : Nat} {w : World} {ao : Option Addr} {p : Nat → Int}

set_option maxHeartbeats 1000000 in
theorem rlen (h : RefN B w ao n p) : Calls Tryd.prog 30 #[.pointer ao] w fun e w' => e = .returned (.int .i64 (n : Nat)) ∧ w = w' := by
  rcases h with ⟨rfl, rfl⟩ | ⟨b, rfl, h⟩
  · go_enter Tryd.func30, Tryd.ntmps30
    go_wp2
    go_ret
    exact ⟨rfl, rfl⟩
  · obtain ⟨g, c, hc, hr, _⟩ := h.row
    have hm := h.made
    go_enter Tryd.func30, Tryd.ntmps30
    go_wp2
    go_ret
    exact ⟨rfl, rfl⟩

set_option maxHeartbeats 1000000 in
theorem rnode (h : RefN B w ao n p) (v : Int) : Calls Tryd.prog 40 #[.pointer ao, .int .i64 v] w fun e w' => e = .returned (.bool (inN n v)) ∧ w = w' := by
  rcases h with ⟨rfl, rfl⟩ | ⟨b, rfl, h⟩
  · have e : inN 0 v = false := by unfold inN; simp <;> omega
    rw [e]
    go_enter Tryd.func40, Tryd.ntmps40
    go_wp2
    go_ret
    exact ⟨rfl, rfl⟩
  · obtain ⟨g, c, hc, hr, _⟩ := h.row
    have hm := h.made
    by_cases h0 : 0 ≤ v
    · have d0 : decide (0 ≤ v) = true := by simpa using h0
      by_cases h1 : v < n
      · have e : inN n v = true := by unfold inN; simp; omega
        have d1 : decide (v < (n : Int)) = true := by simpa using h1
        rw [e]
        go_enter Tryd.func40, Tryd.ntmps40
        go_wp2
        go_ret
        exact ⟨rfl, rfl⟩
      · have e : inN n v = false := by unfold inN; simp; omega
        have d1 : decide (v < (n : Int)) = false := by simpa using h1
        rw [e]
        go_enter Tryd.func40, Tryd.ntmps40
        go_wp2
        go_ret
        exact ⟨rfl, rfl⟩
    · have e : inN n v = false := by unfold inN; simp; omega
      have d0 : decide (0 ≤ v) = false := by simpa using h0
      rw [e]
      go_enter Tryd.func40, Tryd.ntmps40
      go_wp2
      go_ret
      exact ⟨rfl, rfl⟩

theorem rnode_is (h : RefN B w ao n p) (v : Int) {t : Bool} (ht : inN n v = t) : Calls Tryd.prog 40 #[.pointer ao, .int .i64 v] w fun e w' => e = .returned (.bool t) ∧ w = w' := ht ▸ rnode h v

set_option maxHeartbeats 1000000 in
theorem rline (h : RefN B w ao n p) (v : Int) : Calls Tryd.prog 41 #[.pointer ao, .int .i64 v] w fun e w' => ∃ lo lc, e = .returned (.slice lo (lineN n p v) lc) ∧ Mine w w' 3 (lineN n p v) (i64V (lineF p v)) lo lc := by
  by_cases hv : 0 ≤ v ∧ v < n
  · obtain ⟨x, rfl⟩ : ∃ x : Nat, v = x := ⟨v.toNat, by omega⟩
    have e : lineN n p x = dep n p x + 1 := by unfold lineN; rw [if_pos hv]; simp
    have ef : lineF p x = fun j => anc p j x := by unfold lineF; simp
    rw [e, ef]
    rcases h with ⟨_, rfl⟩ | ⟨b, rfl, h⟩
    · omega
    have hxn : x < n := by omega
    have C := hide (rnode_is (.inr ⟨b, rfl, h⟩) (x : Int) (t := true) (by unfold inN; simp; omega))
    have HF := hide h
    have hd9 := h.F.dep_lt hxn
    have hn9 := h.le
    clear h e ef hv
    go_enter Tryd.func41, Tryd.ntmps41
    go_wp2_with (go_at_call 40; refine C.out.mono ?_; clear C; rintro e w' ⟨rfl, rfl⟩)
    go_loopg [1, 5] (dep n p x + 1) (fun g v o wr => ∃ (k : Nat) (ao' : Option Addr) (c' : Nat), k + g = dep n p x + 1 ∧ v = .int .i64 (anc p k x) ∧ o = .slice ao' k c' ∧ Mine w wr 3 k (i64V fun j => anc p j x) ao' c')
    case atStart => exact ⟨0, none, 0, by omega, rfl, rfl, Mine.nil _ _ (Fr.refl _ _)⟩
    case round =>
      obtain ⟨k, ao', c', hk, rfl, rfl, hM⟩ := hrel
      by_cases hlt : k ≤ dep n p x
      · obtain ⟨u, hu, hun, _⟩ := HF.out.F.anc_dep hxn hlt
        have hnext : anc p (k + 1) x = p u := by rw [anc_succ, hu, if_neg (by omega)]; simp
        have hwr : RefT B wr b n p := HF.out.keep hM.fr (fun _ _ => id)
        obtain ⟨g, c, hc, hr, hg⟩ := hwr.row
        have hcu := hr.cell u hun
        have hcu : wr.cell? ⟨g, u, none⟩ = some (.int .i64 (p u)) := hcu
        have hne : ∀ g' : Nat, (blk ao' = some g' ∨ wr.heap.size < g') → g' ≠ g ∨ True := fun _ _ => .inr trivial
        have HM := hide hM
        have HU := hide (And.intro hnext hu)
        have hui : (u : Int) < n := by omega
        rw [hu]
        have hbig : k < 8192 := by omega
        clear hM hnext hu hwr hr hne
        go_wp2_with (at_builtin; refine wpList_app1 _ rfl _ _ 25 rfl 3 (.int .i64 0) 8 Tryd.underlying25 info3 rfl ao' k c' ((List.range k).map (i64V fun j => anc p j x)) rfl HM.out.own _ (.int .i64 u) rfl rfl (by unfold maxLen; omega) (by omega) ?_)
        intro g' cap' w3 hown3 hf3 hg3
        have hM3 : Mine w w3 3 (k + 1) (i64V fun j => anc p j x) (some ⟨g', 0, none⟩) cap' := HM.out.snoc (by show Value.int .i64 u = .int .i64 (anc p k x); rw [HU.out.2]) hown3 hf3 hg3
        have hwr3 : RefT B w3 b n p := HF.out.keep hM3.fr (fun _ _ => id)
        obtain ⟨g3, c3, hc3, hr3, hg3'⟩ := hwr3.row
        have hcu3 : w3.cell? ⟨g3, u, none⟩ = some (.int .i64 (p u)) := hr3.cell u hun
        clear hc hcu hown3 hf3 hr3 hwr3
        go_wp2
        go_roundg (gk - 1)
        case measure => omega
        case rel => exact ⟨k + 1, some ⟨g', 0, none⟩, cap', by omega, by rw [HU.out.1], rfl, hM3⟩
      · have hneg : anc p k x < 0 := by
          have := (HF.out.F.anc_iff hxn k).1
          omega
        have hd : decide (0 ≤ anc p k x) = false := by simp; omega
        obtain rfl : k = dep n p x + 1 := by omega
        have HM := hide hM
        clear hM
        go_wp2
        go_ret
        exact ⟨ao', c', rfl, HM.out⟩
  · have e : lineN n p v = 0 := by unfold lineN; rw [if_neg hv]
    rw [e]
    have C := hide (rnode_is h v (t := false) (by unfold inN; simp; omega))
    clear h
    go_enter Tryd.func41, Tryd.ntmps41
    go_wp2_with (go_at_call 40; refine C.out.mono ?_; clear C; rintro e w' ⟨rfl, rfl⟩)
    go_ret
    exact ⟨none, 0, rfl, Mine.nil _ _ (Fr.refl _ _)⟩
end

end Go.Proofs.YthpghcidocjanaaDoor
