/- Walks: Union, Same, Size, Count, Mark. -/
import Derived.Test.YtiaddgagncmbeaaW3
namespace Go.Proofs.Ytiaddgagncmbeaa
open Go.RowKit

/-- Nothing old has changed. -/
abbrev Same' (w w' : World) : Prop := Fr (fun _ => False) w w'

theorem SetsAt.same {w w' : World} {L : Lay} {n : Nat} {p s : Nat → Nat} {log : List Nat} (h : SetsAt w L n p s log) (hf : Same' w w') : SetsAt w' L n p s log :=
  h.keep hf (fun _ _ h => h)

theorem Upd.from {w0 w w' : World} {L : Lay} {n : Nat} {p s : Nat → Nat} {log : List Nat} (hf : Same' w0 w) (h : Upd w w' L n p s log) : Upd w0 w' L n p s log := by
  obtain ⟨al, cl, hS, hfr, hb⟩ := h
  exact ⟨al, cl, hS, (hf.mono (fun _ _ h => h.elim)).trans hfr, fun k hk => (hb k hk).imp id (fun h => Nat.le_trans hf.size h)⟩

theorem in2_false {n : Nat} {a b : Int} (h : in2 n a b = false) : (!in2 n a b) = true := by rw [h]; rfl

set_option maxHeartbeats 400000 in
theorem Union_bad (v : Value) (w : World) (a b : Int) (hv : Calls Try.prog 30 #[v] w fun e w' => e = .returned (.bool false) ∧ w = w') :
    Calls Try.prog 23 #[v, .int .i64 a, .int .i64 b] w fun e w' => e = .returned (.tuple #[.bool false, .int .i64 1]) ∧ w = w' := by
  have HV := hide hv
  clear hv
  go_enter Try.func23, Try.ntmps23
  go_wp2_with (go_at_call 30; refine HV.out.mono ?_; rintro e w' ⟨rfl, rfl⟩)
  go_ret2
  exact ⟨rfl, rfl⟩

set_option maxHeartbeats 400000 in
theorem Union_out (L : Lay) (n : Nat) (p s : Nat → Nat) (log : List Nat) (w : World) (hS : SetsAt w L n p s log) (hn : n ≤ 65536) (a b : Int) (h : in2 n a b = false) :
    Calls Try.prog 23 #[.pointer (some ⟨L.b, 0, none⟩), .int .i64 a, .int .i64 b] w fun e w' => e = .returned (.tuple #[.bool false, .int .i64 3]) ∧ Same' w w' := by
  have h0 := hide hS.c0
  have HS := hide hS
  clear hS
  go_enter Try.func23, Try.ntmps23
  go_wp2_with (first | (go_at_call 30; refine (valid_at L.b true _ h0.out).mono ?_; rintro e w' ⟨rfl, rfl⟩) | (go_at_call 38; refine (has2 L n p s log w HS.out hn a b).mono ?_; rintro e w' ⟨rfl, rfl⟩))
  go_ret2
  exact ⟨rfl, (Fr.refl _ w).alloc _⟩

set_option maxHeartbeats 400000 in
theorem Union_in (L : Lay) (n : Nat) (p s r d : Nat → Nat) (log : List Nat) (w : World) (hS : SetsAt w L n p s log) (hF : Fo n p r d) (hn : n ≤ 65536) (a b : Nat) (ha : a < n) (hb : b < n)
    (hsum : r a ≠ r b → s (r a) + s (r b) ≤ 65536) (hlog : log.length ≤ 65536) :
    Calls Try.prog 23 #[.pointer (some ⟨L.b, 0, none⟩), .int .i64 a, .int .i64 b] w fun e w' => (r a = r b ∧ e = .returned (.tuple #[.bool false, .int .i64 0]) ∧ Same' w w') ∨
      (r a ≠ r b ∧ e = .returned (.tuple #[.bool true, .int .i64 0]) ∧ Upd w w' L n (upd p (sml s r a b) (big s r a b)) (upd s (big s r a b) (s (r a) + s (r b))) (log ++ [sml s r a b])) := by
  have h0 := hide hS.c0
  have HS := hide hS
  have hi : in2 n a b = true := by unfold in2; simp; omega
  have HU := hide (unite_any L n p s r d log _ (hS.same ((Fr.refl _ w).alloc (.cells #[.int .i64 a, .int .i64 b] 3))) hF a b ha hb hsum hlog)
  clear hS hF hsum
  go_enter Try.func23, Try.ntmps23
  go_wp2_with (first | (go_at_call 30; refine (valid_at L.b true _ h0.out).mono ?_; rintro e w' ⟨rfl, rfl⟩) | (go_at_call 38; refine (has2 L n p s log w HS.out hn a b).mono ?_; rintro e w' ⟨rfl, rfl⟩) | (go_at_call 39; refine HU.out.mono ?_; clear HU; rintro e w' (⟨hr, rfl, rfl⟩ | ⟨hr, rfl, hU⟩)))
  · go_ret2
    exact .inl ⟨hr, rfl, (Fr.refl _ w).alloc _⟩
  · go_ret2
    exact .inr ⟨hr, rfl, hU.from ((Fr.refl _ w).alloc _)⟩

set_option maxHeartbeats 400000 in
theorem Same_out (L : Lay) (n : Nat) (p s : Nat → Nat) (log : List Nat) (w : World) (hS : SetsAt w L n p s log) (hn : n ≤ 65536) (a b : Int) (h : in2 n a b = false) :
    Calls Try.prog 21 #[.pointer (some ⟨L.b, 0, none⟩), .int .i64 a, .int .i64 b] w fun e w' => e = .returned (.bool false) ∧ Same' w w' := by
  have HS := hide hS
  clear hS
  go_enter Try.func21, Try.ntmps21
  go_wp2_with (go_at_call 38; refine (has2 L n p s log w HS.out hn a b).mono ?_; rintro e w' ⟨rfl, rfl⟩)
  go_ret
  exact ⟨rfl, (Fr.refl _ w).alloc _⟩

set_option maxHeartbeats 400000 in
theorem Same_in (L : Lay) (n : Nat) (p s r d : Nat → Nat) (log : List Nat) (w : World) (hS : SetsAt w L n p s log) (hF : Fo n p r d) (hn : n ≤ 65536) (a b : Nat) (ha : a < n) (hb : b < n) :
    Calls Try.prog 21 #[.pointer (some ⟨L.b, 0, none⟩), .int .i64 a, .int .i64 b] w fun e w' => e = .returned (.bool (decide (r a = r b))) ∧ Same' w w' := by
  have HS := hide hS
  have HF := hide hF
  have hi : in2 n a b = true := by unfold in2; simp; omega
  clear hS hF
  go_enter Try.func21, Try.ntmps21
  go_wp2_with (first | (go_at_call 38; refine (has2 L n p s log w HS.out hn a b).mono ?_; rintro e w' ⟨rfl, rfl⟩) | (go_at_call_of 31 (a : Int); refine ((HS.out.same ((Fr.refl _ w).alloc (.cells #[.int .i64 a, .int .i64 b] 3))).root HF.out a ha).mono ?_; rintro e w' ⟨rfl, rfl⟩) | (go_at_call_of 31 (b : Int); refine ((HS.out.same ((Fr.refl _ w).alloc (.cells #[.int .i64 a, .int .i64 b] 3))).root HF.out b hb).mono ?_; rintro e w' ⟨rfl, rfl⟩))
  go_ret
  refine ⟨ret_bool ?_, (Fr.refl _ w).alloc _⟩
  by_cases e : r a = r b
  · simp [e]
  · simp [e]
    omega

set_option maxHeartbeats 400000 in
theorem Size_out (L : Lay) (n : Nat) (p s : Nat → Nat) (log : List Nat) (w : World) (hS : SetsAt w L n p s log) (hn : n ≤ 65536) (a : Int) (h : in1 n a = false) :
    Calls Try.prog 22 #[.pointer (some ⟨L.b, 0, none⟩), .int .i64 a] w fun e w' => e = .returned (.int .i64 0) ∧ Same' w w' := by
  have HS := hide hS
  clear hS
  go_enter Try.func22, Try.ntmps22
  go_wp2_with (go_at_call 38; refine (has1 L n p s log w HS.out hn a).mono ?_; rintro e w' ⟨rfl, rfl⟩)
  go_ret
  exact ⟨rfl, (Fr.refl _ w).alloc _⟩

set_option maxHeartbeats 400000 in
theorem Size_in (L : Lay) (n : Nat) (p s r d : Nat → Nat) (log : List Nat) (w : World) (hS : SetsAt w L n p s log) (hF : Fo n p r d) (hn : n ≤ 65536) (a : Nat) (ha : a < n) :
    Calls Try.prog 22 #[.pointer (some ⟨L.b, 0, none⟩), .int .i64 a] w fun e w' => e = .returned (.int .i64 (s (r a) : Nat)) ∧ Same' w w' := by
  have HS := hide hS
  have HF := hide hF
  have hi : in1 n a = true := by unfold in1; simp; omega
  have hra := hF.rlt a ha
  have hS1 := hS.same ((Fr.refl _ w).alloc (.cells #[.int .i64 (a : Nat)] 3))
  have h2 := hS1.c2
  have q := hS1.siz.cell (r a) hra
  have HS1 := hide hS1
  clear hS hF hS1
  go_enter Try.func22, Try.ntmps22
  go_wp2_with (go_at_call 38; refine (has1 L n p s log w HS.out hn a).mono ?_; rintro e w' ⟨rfl, rfl⟩)
  go_quiet ((go_at_call 31; exact Calls.quiet_of_same (((HS1.out.drewN _).root HF.out a ha).mono fun e w' h => ⟨h.1, h.2.symm⟩)))
  go_wp2
  go_ret
  exact ⟨rfl, ((Fr.refl _ w).alloc _).drewN _⟩

set_option maxHeartbeats 400000 in
theorem Count_at (L : Lay) (n : Nat) (p s : Nat → Nat) (log : List Nat) (w : World) (hS : SetsAt w L n p s log) (hn : n ≤ 65536) (hl : log.length ≤ n) :
    Calls Try.prog 14 #[.pointer (some ⟨L.b, 0, none⟩)] w fun e w' => e = .returned (.int .i64 ((n : Int) - log.length)) ∧ Same' w w' := by
  have h0 := hide hS.c0
  have h1 := hS.c1
  have h3 := hS.c3
  clear hS
  go_enter Try.func14, Try.ntmps14
  go_wp2_with (go_at_call 30; refine (valid_at L.b true _ h0.out).mono ?_; rintro e w' ⟨rfl, rfl⟩)
  go_quiet (fail)
  go_wp2
  go_ret
  exact ⟨rfl, (Fr.refl _ w).drewN _⟩

set_option maxHeartbeats 400000 in
theorem Count_bad (v : Value) (w : World) (hv : Calls Try.prog 30 #[v] w fun e w' => e = .returned (.bool false) ∧ w = w') :
    Calls Try.prog 14 #[v] w fun e w' => e = .returned (.int .i64 0) ∧ w = w' := by
  have HV := hide hv
  clear hv
  go_enter Try.func14, Try.ntmps14
  go_wp2_with (go_at_call 30; refine HV.out.mono ?_; rintro e w' ⟨rfl, rfl⟩)
  go_ret
  exact ⟨rfl, rfl⟩

set_option maxHeartbeats 400000 in
theorem Mark_at (L : Lay) (n : Nat) (p s : Nat → Nat) (log : List Nat) (w : World) (hS : SetsAt w L n p s log) :
    Calls Try.prog 12 #[.pointer (some ⟨L.b, 0, none⟩)] w fun e w' => e = .returned (.int .i64 (log.length : Nat)) ∧ w = w' := by
  have h0 := hide hS.c0
  have h3 := hS.c3
  clear hS
  go_enter Try.func12, Try.ntmps12
  go_wp2_with (go_at_call 30; refine (valid_at L.b true _ h0.out).mono ?_; rintro e w' ⟨rfl, rfl⟩)
  go_ret
  exact ⟨rfl, rfl⟩

set_option maxHeartbeats 400000 in
theorem Mark_bad (v : Value) (w : World) (hv : Calls Try.prog 30 #[v] w fun e w' => e = .returned (.bool false) ∧ w = w') :
    Calls Try.prog 12 #[v] w fun e w' => e = .returned (.int .i64 0) ∧ w = w' := by
  have HV := hide hv
  clear hv
  go_enter Try.func12, Try.ntmps12
  go_wp2_with (go_at_call 30; refine HV.out.mono ?_; rintro e w' ⟨rfl, rfl⟩)
  go_ret
  exact ⟨rfl, rfl⟩

end Go.Proofs.Ytiaddgagncmbeaa
