/- Walks: tables without nodes; Climb. -/
import Derived.Test.YthpghcidocjanaaDoorT11
namespace Go.Proofs.YthpghcidocjanaaDoor
open Go.RowKit

/-- A table that has no node, now and as long as no old block changes. -/
def NoNode (w : World) (ao : Option Addr) : Prop :=
  ∀ W, Same' w W → (Calls Tryd.prog 24 #[.pointer ao] W fun e w' => e = .returned (.int .i64 0) ∧ W = w') ∧ ∀ v : Int, Calls Tryd.prog 26 #[.pointer ao, .int .i64 v] W fun e w' => e = .returned (.bool false) ∧ W = w'

theorem NoNode.keep {w w' : World} {ao : Option Addr} (h : NoNode w ao) (hf : Same' w w') : NoNode w' ao := fun W hW => h W (hf.trans hW)

theorem noNode_nil (w : World) : NoNode w none := fun W _ =>
  ⟨Len_nil W, fun v => by
    have := node_of (w := W) (t := .pointer none) (n := 0) v (Len_nil W)
    have e : inN 0 v = false := by unfold inN; simp <;> omega
    rw [e] at this
    exact this⟩

theorem noNode_zero {w : World} {b : Nat} {c : Nat} {ao : Option Addr} (h : w.cell? ⟨b, 15, none⟩ = some (.slice ao 0 c)) : NoNode w (some ⟨b, 0, none⟩) := fun W hW =>
  have h' := (hW.cell (block_lt_of_cell h) id).trans h
  ⟨Len_at h', fun v => by
    have := node_of (w := W) (t := .pointer (some ⟨b, 0, none⟩)) (n := 0) v (Len_at h')
    have e : inN 0 v = false := by unfold inN; simp <;> omega
    rw [e] at this
    exact this⟩

section
variable {w : World} {ao : Option Addr}

theorem NoNode.depth (h : NoNode w ao) (v : Int) : Calls Tryd.prog 13 #[.pointer ao, .int .i64 v] w fun e w' => e = .returned (.int .i64 0) ∧ w = w' :=
  Depth_out v ((h w (Fr.refl _ _)).2 v)

theorem NoNode.up (h : NoNode w ao) (v k : Int) : Calls Tryd.prog 16 #[.pointer ao, .int .i64 v, .int .i64 k] w fun e w' => e = retIB 0 false ∧ Same' w w' :=
  Up_no k (fun W hf => (h W hf).2 v)

set_option maxHeartbeats 400000 in
theorem NoNode.root (h : NoNode w ao) (v : Int) : Calls Tryd.prog 15 #[.pointer ao, .int .i64 v] w fun e w' => e = retIB 0 false ∧ Same' w w' := by
  have C1 := hide (h.depth v)
  have C2 := hide (h.up v 0)
  clear h
  go_enter Tryd.func15, Tryd.ntmps15
  go_wp2_with (first | (go_at_call 13; refine C1.out.mono ?_; clear C1; rintro e w' ⟨rfl, rfl⟩) | (go_at_call 16; refine C2.out.mono ?_; clear C2; rintro e w' ⟨rfl, hf⟩))
  go_ret2
  exact ⟨rfl, hf⟩

set_option maxHeartbeats 400000 in
theorem NoNode.common (h : NoNode w ao) (a b : Int) : Calls Tryd.prog 17 #[.pointer ao, .int .i64 a, .int .i64 b] w fun e w' => e = retIB 0 false ∧ Same' w w' := by
  have C1 := hide (h.root a)
  have C2 := hide (fun W (hf : Same' w W) => (h.keep hf).root b)
  clear h
  go_enter Tryd.func17, Tryd.ntmps17
  go_wp2_with (first | (go_at_call 15; refine C1.out.mono ?_; clear C1; rintro e w' ⟨rfl, hf⟩) | (go_at_call 15; refine (C2.out _ hf).mono ?_; clear C2; rintro e w'' ⟨rfl, hf2⟩))
  go_ret2
  exact ⟨rfl, hf.trans hf2⟩

set_option maxHeartbeats 400000 in
theorem NoNode.above (h : NoNode w ao) (a b : Int) : Calls Tryd.prog 25 #[.pointer ao, .int .i64 a, .int .i64 b] w fun e w' => e = .returned (.bool false) ∧ Same' w w' := by
  have C := hide (h.common a b)
  clear h
  go_enter Tryd.func25, Tryd.ntmps25
  go_wp2_with (go_at_call 17; refine C.out.mono ?_; clear C; rintro e w' ⟨rfl, hf⟩)
  go_ret
  exact ⟨rfl, hf⟩

set_option maxHeartbeats 400000 in
theorem NoNode.dist (h : NoNode w ao) (a b : Int) : Calls Tryd.prog 18 #[.pointer ao, .int .i64 a, .int .i64 b] w fun e w' => e = retIB 0 false ∧ Same' w w' := by
  have C := hide (h.common a b)
  clear h
  go_enter Tryd.func18, Tryd.ntmps18
  go_wp2_with (go_at_call 17; refine C.out.mono ?_; clear C; rintro e w' ⟨rfl, hf⟩)
  go_ret2
  exact ⟨rfl, hf⟩
end

/-- A number and an error. -/
abbrev retIE (x : Int) (e : Int) : Ending := .returned (.tuple #[.int .i64 x, .int .i64 e])

set_option maxHeartbeats 400000 in
theorem Climb_nil (w : World) (v mx : Int) (ko : Option Addr) (kn kc : Nat) : Calls Tryd.prog 23 #[.pointer none, .int .i64 v, .slice ko kn kc, .int .i64 mx] w fun e w' => e = retIE 0 1 ∧ Same' w w' := by
  go_enter Tryd.func23, Tryd.ntmps23
  go_wp2
  go_ret2
  exact ⟨rfl, ((Fr.refl _ w).alloc _).alloc _⟩

set_option maxHeartbeats 400000 in
theorem Climb_zero {w : World} {b : Nat} (h : w.cell? ⟨b, 0, none⟩ = some (.bool false)) (v mx : Int) (ko : Option Addr) (kn kc : Nat) :
    Calls Tryd.prog 23 #[.pointer (some ⟨b, 0, none⟩), .int .i64 v, .slice ko kn kc, .int .i64 mx] w fun e w' => e = retIE 0 1 ∧ Same' w w' := by
  have hb := block_lt_of_cell h
  go_enter Tryd.func23, Tryd.ntmps23
  go_wp2
  go_ret2
  exact ⟨rfl, ((Fr.refl _ w).alloc _).alloc _⟩

/-- What lies in a slice of keys. -/
def KeyAt (w : World) (ko : Option Addr) (m : Nat) (key : Nat → Int) : Prop := ∀ i, i < m → ∃ ad, ko = some ad ∧ w.cell? (ad.add i) = some (.int .i64 (key i))

theorem KeyAt.keep {w w' : World} {ko : Option Addr} {m : Nat} {key : Nat → Int} (h : KeyAt w ko m key) (hf : Same' w w') : KeyAt w' ko m key := fun i hi => by
  obtain ⟨ad, h1, h2⟩ := h i hi
  exact ⟨ad, h1, (hf.cell (block_lt_of_cell h2) id).trans h2⟩

theorem KeyAt.take {w : World} {ko : Option Addr} {m m' : Nat} {key : Nat → Int} (h : KeyAt w ko m key) (hm : m' ≤ m) : KeyAt w ko m' key := fun i hi => h i (by omega)

theorem KeyAt.ofRow {w : World} {g cap m : Nat} {t : TypeId} {key : Nat → Int} (h : RowV w g t cap m (i64V key)) : KeyAt w (some ⟨g, 0, none⟩) m key := fun i hi =>
  ⟨_, rfl, by
    have := h.cell i hi
    unfold Addr.add
    split
    · rename_i e; subst e; exact this
    · show w.cell? ⟨g, 0 + i, none⟩ = _
      rw [Nat.zero_add]
      exact this⟩

/-- Whether a parent is gone to. -/
def lowB (key : Nat → Int) (mx : Int) (q : Int) : Bool := decide (0 ≤ q) && decide (key q.toNat ≤ mx)

/-- The climb, in so many steps at most. -/
def clb (p key : Nat → Int) (mx : Int) : Nat → Nat → Nat
  | 0, v => v
  | f + 1, v => if lowB key mx (p v) then clb p key mx f (p v).toNat else v

section
variable {w : World} {b0 n : Nat} {p : Nat → Int}

set_option maxHeartbeats 400000 in
theorem Full.climb_out (h : Full w b0 n p) {v : Int} (hv : ¬ (0 ≤ v ∧ v < n)) (mx : Int) (ko : Option Addr) (kn kc : Nat) :
    Calls Tryd.prog 23 #[.pointer (some ⟨b0, 0, none⟩), .int .i64 v, .slice ko kn kc, .int .i64 mx] w fun e w' => e = retIE 0 3 ∧ Same' w w' := by
  obtain ⟨_, _, g, gd, hT⟩ := h
  have c0 := hT.c0
  have hb := block_lt_of_cell c0
  have C := hide (fun W (hf : Same' w W) => (hT.same hf).node_is v (t := false) (by unfold inN; simp; omega))
  clear hT
  go_enter Tryd.func23, Tryd.ntmps23
  go_wp2_with (go_at_call 26; refine (C.out _ (((Fr.refl _ w).alloc _).alloc _)).mono ?_; clear C; rintro e w' ⟨rfl, rfl⟩)
  go_ret2
  exact ⟨rfl, ((Fr.refl _ w).alloc _).alloc _⟩

set_option maxHeartbeats 400000 in
theorem Full.climb_len (h : Full w b0 n p) {v : Nat} (hv : v < n) (mx : Int) (ko : Option Addr) (kn kc : Nat) (hk : kn ≠ n) :
    Calls Tryd.prog 23 #[.pointer (some ⟨b0, 0, none⟩), .int .i64 v, .slice ko kn kc, .int .i64 mx] w fun e w' => e = retIE 0 2 ∧ Same' w w' := by
  obtain ⟨_, _, g, gd, hT⟩ := h
  have c0 := hT.c0
  have hb := block_lt_of_cell c0
  have C := hide (fun W (hf : Same' w W) => (hT.same hf).node_is (v : Int) (t := true) (by unfold inN; simp; omega))
  have C2 := hide (fun W (hf : Same' w W) => (hT.same hf).len)
  have hne : ((kn : Int) != (n : Int)) = true := by rw [bne_iff_ne]; omega
  clear hT hk
  go_enter Tryd.func23, Tryd.ntmps23
  go_wp2_with (go_at_call 26; refine (C.out _ (((Fr.refl _ w).alloc _).alloc _)).mono ?_; clear C; rintro e w' ⟨rfl, rfl⟩)
  go_quiet ((go_at_call 24; exact Calls.quiet_of_same ((C2.out _ ((((Fr.refl _ w).alloc _).alloc _).drewN _)).mono fun _ _ h => ⟨h.1, h.2.symm⟩)))
  go_wp2
  go_ret2
  exact ⟨rfl, (((Fr.refl _ w).alloc _).alloc _).drewN _⟩

theorem KeyAt.keep' {w w' : World} {M : Nat → Prop} {ko : Option Addr} {m : Nat} {key : Nat → Int} (h : KeyAt w ko m key) (hf : Fr M w w') (hM : ∀ a, ko = some a → ¬ M a.block) : KeyAt w' ko m key := fun i hi => by
  obtain ⟨ad, h1, h2⟩ := h i hi
  refine ⟨ad, h1, (hf.cell (block_lt_of_cell h2) ?_).trans h2⟩
  have : (ad.add i).block = ad.block := by unfold Addr.add; split <;> rfl
  rw [this]
  exact hM ad h1

set_option maxHeartbeats 400000 in
/-- The closure of Climb. -/
theorem low_at {w : World} {bk bm : Nat} {ko : Option Addr} {n : Nat} {kc : Nat} {key : Nat → Int} {mx : Int} (hk : w.cell? ⟨bk, 0, none⟩ = some (.slice ko n kc)) (hm : w.cell? ⟨bm, 0, none⟩ = some (.int .i64 mx)) (hK : KeyAt w ko n key)
    {q : Int} (hq : q < n) : Calls Tryd.prog 37 #[.int .i32 q, .pointer (some ⟨bk, 0, none⟩), .pointer (some ⟨bm, 0, none⟩)] w fun e w' => e = .returned (.bool (lowB key mx q)) ∧ Same' w w' := by
  by_cases h0 : 0 ≤ q
  · obtain ⟨x, rfl⟩ : ∃ x : Nat, q = x := ⟨q.toNat, by omega⟩
    obtain ⟨ad, rfl, hc⟩ := hK x (by omega)
    have hx : x < n := by omega
    have e : lowB key mx x = decide (key x ≤ mx) := by unfold lowB; simp
    rw [e]
    generalize key x = kx at hc
    clear hK e hq
    go_enter Tryd.func37, Tryd.ntmps37
    go_wp2
    go_quiet (fail)
    go_wp2
    go_ret
    exact ⟨rfl, (Fr.refl _ w).drewN _⟩
  · have e : lowB key mx q = false := by unfold lowB; simp; omega
    rw [e]
    clear hK e hq
    have hd : decide (0 ≤ q) = false := by simp; omega
    go_enter Tryd.func37, Tryd.ntmps37
    go_wp2
    go_quiet (fail)
    go_wp2
    go_ret
    exact ⟨rfl, (Fr.refl _ w).drewN _⟩

end

end Go.Proofs.YthpghcidocjanaaDoor
