/- The walk of unite: what uniting two elements does to sets in memory. -/
import Derived.Test.YtiaddgagncmbeaaW1
import Derived.Test.YtiaddgagncmbeaaX
import Derived.BigRegion
import Derived.Deep.RegionWith
namespace Go.Proofs.Ytiaddgagncmbeaa
open Go.RowKit

theorem Try.info3 : (Try.prog.info? 3).map (fun i => (i.zero, i.size, i.bytes)) = some (some (.int .i64 0), 1, 8) := by kernel_rfl

/-- The log may have moved to a block that is new since w. -/
def Upd (w w' : World) (L : Lay) (n : Nat) (p s : Nat → Nat) (log : List Nat) : Prop :=
  ∃ al cl, SetsAt w' { L with al := al, cl := cl } n p s log ∧ Fr L.mem w w' ∧ ∀ k, blk al = some k → blk L.al = some k ∨ w.heap.size ≤ k

set_option maxHeartbeats 400000 in
theorem unite_same (L : Lay) (n : Nat) (p s r d : Nat → Nat) (log : List Nat) (w : World) (hS : SetsAt w L n p s log) (hF : Fo n p r d) (a b : Nat) (ha : a < n) (hb : b < n)
    (hr : r a = r b) : Calls Try.prog 39 #[.pointer (some ⟨L.b, 0, none⟩), .int .i64 a, .int .i64 b] w fun e w' => e = .returned (.bool false) ∧ w = w' := by
  have HS := hide hS
  have HF := hide hF
  have HR := hide hr
  clear hS hF hr
  have t : ((r a : Int) == (r b : Int)) = true := by rw [HR.out]; simp
  go_enter Try.func39, Try.ntmps39
  go_wp2_with (first | (go_at_call_of 31 (a : Int); refine (HS.out.root HF.out a ha).mono ?_; rintro e w' ⟨rfl, rfl⟩) | (go_at_call_of 31 (b : Int); refine (HS.out.root HF.out b hb).mono ?_; rintro e w' ⟨rfl, rfl⟩))
  go_ret
  exact ⟨rfl, rfl⟩

set_option maxHeartbeats 400000 in
theorem unite_ge (L : Lay) (n : Nat) (p s r d : Nat → Nat) (log : List Nat) (w : World) (hS : SetsAt w L n p s log) (hF : Fo n p r d) (a b : Nat) (ha : a < n) (hb : b < n)
    (hr : r a ≠ r b) (hge : s (r b) ≤ s (r a)) (hsum : s (r a) + s (r b) ≤ 65536) (hlog : log.length ≤ 65536) :
    Calls Try.prog 39 #[.pointer (some ⟨L.b, 0, none⟩), .int .i64 a, .int .i64 b] w fun e w' => e = .returned (.bool true) ∧ Upd w w' L n (upd p (r b) (r a)) (upd s (r a) (s (r a) + s (r b))) (log ++ [r b]) := by
  obtain ⟨x, hx⟩ : ∃ x, x = r a := ⟨_, rfl⟩
  obtain ⟨y, hy⟩ : ∃ y, y = r b := ⟨_, rfl⟩
  have hxn : x < n := by rw [hx]; exact hF.rlt a ha
  have hyn : y < n := by rw [hy]; exact hF.rlt b hb
  rw [← hx, ← hy] at hr hge hsum
  rw [← hx, ← hy]
  have Hx := hide hx
  have Hy := hide hy
  have HS := hide hS
  have HF := hide hF
  have h1 := hS.c1
  have h2 := hS.c2
  have q1 : w.cell? ⟨L.gs, x, none⟩ = some (.int .i64 (s x : Nat)) := hS.siz.cell x hxn
  have q2 : w.cell? ⟨L.gs, y, none⟩ = some (.int .i64 (s y : Nat)) := hS.siz.cell y hyn
  have t : ((x : Int) == (y : Int)) = false := by simp; omega
  have Hr := hide hr
  have hS' := hS
  clear hS hF hr hx hy
  go_enter Try.func39, Try.ntmps39
  go_wp2_with (first | (go_at_call_of 31 (a : Int); refine (HS.out.root HF.out a ha).mono ?_; rintro e w' ⟨rfl, rfl⟩; rw [← Hx.out]) | (go_at_call_of 31 (b : Int); refine (HS.out.root HF.out b hb).mono ?_; rintro e w' ⟨rfl, rfl⟩; rw [← Hy.out]))
  have hlt : decide ((s x : Int) < (s y : Int)) = false := by simp; omega
  go_quiet (fail)
  have fp := hS'.par.free y
  have n1 := hS'.ne
  have n2 := hS'.nbp
  have n3 := hS'.nbs
  have o1 : w.cell? ⟨L.gp, y, none⟩ = some (.int .i64 (p y : Nat)) := hS'.par.cell y hyn
  go_wp2
  have hS1 := (hS'.drewN nq).setPar y x hyn
  have hf1 : Fr L.mem w ((w.drewN nq).setCell ⟨L.gp, y, none⟩ (.int .i64 (x : Nat))) := ((Fr.refl _ w).drewN nq).setCell _ _ (fun _ => .inr (.inl rfl))
  clear h1 h2 q1 q2 fp o1 hS'
  generalize ((w.drewN nq).setCell ⟨L.gp, y, none⟩ (.int .i64 (x : Nat))) = w1 at *
  have h2 := hS1.c2
  have q1 : w1.cell? ⟨L.gs, x, none⟩ = some (.int .i64 (s x : Nat)) := hS1.siz.cell x hxn
  have q2 : w1.cell? ⟨L.gs, y, none⟩ = some (.int .i64 (s y : Nat)) := hS1.siz.cell y hyn
  have fs := hS1.siz.free x
  go_region
  rw [show (s x : Int) + (s y : Int) = ((s x + s y : Nat) : Int) from by omega]
  have hS2 := (hS1.setSiz x (s x + s y) hxn).drew
  have hf2 := (hf1.setCell ⟨L.gs, x, none⟩ (.int .i64 ((s x + s y : Nat) : Int)) (fun _ => .inr (.inr (.inl rfl)))).drew
  clear h2 q1 q2 fs hS1 hf1
  generalize (w1.setCell ⟨L.gs, x, none⟩ (.int .i64 ((s x + s y : Nat) : Int))).drew = w2 at *
  have h3 := hS2.c3
  have hown := hide hS2.lg
  go_wp2_with (at_builtin; refine wpList_app1 _ rfl _ _ 27 rfl 3 (.int .i64 0) 8 Try.underlying27 Try.info3 rfl L.al log.length L.cl (nats log) rfl hown.out _ (.int .i64 (y : Nat)) rfl rfl (by unfold maxLen; omega) (by omega) ?_)
  intro g' cap' w3 hown3 hf3 hg3
  have hb3 := (hf3.block _ hS2.blt (fun hk => hS2.nbl _ hk rfl)).trans hS2.hdr
  have h3' : w3.cell? ⟨L.b, 3, none⟩ = some (.slice L.al log.length L.cl) := by rw [cell_of_row w3 _ _ _ _ _ hb3]; rfl
  have f3' : w3.frozen? ⟨L.b, 3, none⟩ = false := frozen_of_row w3 _ _ _ _ hb3
  clear hb3 h3
  go_wp2
  go_ret
  refine ⟨rfl, some ⟨g', 0, none⟩, cap', ?_, ?_, ?_⟩
  · refine (show log.length + 1 = (log ++ [y]).length from by simp) ▸ ?_
    refine hS2.setLog (log ++ [y]) (some ⟨g', 0, none⟩) cap' hf3 ?_ ?_
    · have e : (log ++ [y]).length = log.length + 1 := by simp
      rw [e]
      exact (show nats (log ++ [y]) = nats log ++ [.int .i64 (y : Nat)] from by simp [nats]) ▸ hown3
    · intro k hk
      simp at hk
      subst hk
      rcases hg3 with h | h
      · exact ⟨hS2.nbl _ h, hS2.nel _ h⟩
      · have := hS2.blt
        have := hS2.par.lt
        have := hS2.siz.lt
        exact ⟨by omega, by omega, by omega⟩
  · refine (hf2.trans' hf3 (fun k _ hk => .inr (.inr (.inr hk)))).setCell _ _ (fun _ => .inl rfl)
  · intro k hk
    simp [blk] at hk
    subst hk
    rcases hg3 with h | h
    · exact .inl h
    · right
      have := hf2.size
      omega

set_option maxHeartbeats 400000 in
theorem unite_lt (L : Lay) (n : Nat) (p s r d : Nat → Nat) (log : List Nat) (w : World) (hS : SetsAt w L n p s log) (hF : Fo n p r d) (a b : Nat) (ha : a < n) (hb : b < n)
    (hr : r a ≠ r b) (hge : s (r a) < s (r b)) (hsum : s (r a) + s (r b) ≤ 65536) (hlog : log.length ≤ 65536) :
    Calls Try.prog 39 #[.pointer (some ⟨L.b, 0, none⟩), .int .i64 a, .int .i64 b] w fun e w' => e = .returned (.bool true) ∧ Upd w w' L n (upd p (r a) (r b)) (upd s (r b) (s (r b) + s (r a))) (log ++ [r a]) := by
  obtain ⟨x, hx⟩ : ∃ x, x = r b := ⟨_, rfl⟩
  obtain ⟨y, hy⟩ : ∃ y, y = r a := ⟨_, rfl⟩
  have hxn : x < n := by rw [hx]; exact hF.rlt b hb
  have hyn : y < n := by rw [hy]; exact hF.rlt a ha
  rw [← hx, ← hy] at hr hge hsum
  rw [← hx, ← hy]
  have Hx := hide hx
  have Hy := hide hy
  have HS := hide hS
  have HF := hide hF
  have h1 := hS.c1
  have h2 := hS.c2
  have q1 : w.cell? ⟨L.gs, x, none⟩ = some (.int .i64 (s x : Nat)) := hS.siz.cell x hxn
  have q2 : w.cell? ⟨L.gs, y, none⟩ = some (.int .i64 (s y : Nat)) := hS.siz.cell y hyn
  have t : ((y : Int) == (x : Int)) = false := by simp; omega
  have Hr := hide hr
  have hS' := hS
  clear hS hF hr hx hy
  go_enter Try.func39, Try.ntmps39
  go_wp2_with (first | (go_at_call_of 31 (a : Int); refine (HS.out.root HF.out a ha).mono ?_; rintro e w' ⟨rfl, rfl⟩; rw [← Hy.out]) | (go_at_call_of 31 (b : Int); refine (HS.out.root HF.out b hb).mono ?_; rintro e w' ⟨rfl, rfl⟩; rw [← Hx.out]))
  have hlt : decide ((s y : Int) < (s x : Int)) = true := by simp; omega
  go_quiet (fail)
  have fp := hS'.par.free y
  have n1 := hS'.ne
  have n2 := hS'.nbp
  have n3 := hS'.nbs
  have o1 : w.cell? ⟨L.gp, y, none⟩ = some (.int .i64 (p y : Nat)) := hS'.par.cell y hyn
  go_wp2
  have hS1 := (hS'.drewN nq).setPar y x hyn
  have hf1 : Fr L.mem w ((w.drewN nq).setCell ⟨L.gp, y, none⟩ (.int .i64 (x : Nat))) := ((Fr.refl _ w).drewN nq).setCell _ _ (fun _ => .inr (.inl rfl))
  clear h1 h2 q1 q2 fp o1 hS'
  generalize ((w.drewN nq).setCell ⟨L.gp, y, none⟩ (.int .i64 (x : Nat))) = w1 at *
  have h2 := hS1.c2
  have q1 : w1.cell? ⟨L.gs, x, none⟩ = some (.int .i64 (s x : Nat)) := hS1.siz.cell x hxn
  have q2 : w1.cell? ⟨L.gs, y, none⟩ = some (.int .i64 (s y : Nat)) := hS1.siz.cell y hyn
  have fs := hS1.siz.free x
  go_region
  rw [show (s x : Int) + (s y : Int) = ((s x + s y : Nat) : Int) from by omega]
  have hS2 := (hS1.setSiz x (s x + s y) hxn).drew
  have hf2 := (hf1.setCell ⟨L.gs, x, none⟩ (.int .i64 ((s x + s y : Nat) : Int)) (fun _ => .inr (.inr (.inl rfl)))).drew
  clear h2 q1 q2 fs hS1 hf1
  generalize (w1.setCell ⟨L.gs, x, none⟩ (.int .i64 ((s x + s y : Nat) : Int))).drew = w2 at *
  have h3 := hS2.c3
  have hown := hide hS2.lg
  go_wp2_with (at_builtin; refine wpList_app1 _ rfl _ _ 27 rfl 3 (.int .i64 0) 8 Try.underlying27 Try.info3 rfl L.al log.length L.cl (nats log) rfl hown.out _ (.int .i64 (y : Nat)) rfl rfl (by unfold maxLen; omega) (by omega) ?_)
  intro g' cap' w3 hown3 hf3 hg3
  have hb3 := (hf3.block _ hS2.blt (fun hk => hS2.nbl _ hk rfl)).trans hS2.hdr
  have h3' : w3.cell? ⟨L.b, 3, none⟩ = some (.slice L.al log.length L.cl) := by rw [cell_of_row w3 _ _ _ _ _ hb3]; rfl
  have f3' : w3.frozen? ⟨L.b, 3, none⟩ = false := frozen_of_row w3 _ _ _ _ hb3
  clear hb3 h3
  go_wp2
  go_ret
  refine ⟨rfl, some ⟨g', 0, none⟩, cap', ?_, ?_, ?_⟩
  · refine (show log.length + 1 = (log ++ [y]).length from by simp) ▸ ?_
    refine hS2.setLog (log ++ [y]) (some ⟨g', 0, none⟩) cap' hf3 ?_ ?_
    · have e : (log ++ [y]).length = log.length + 1 := by simp
      rw [e]
      exact (show nats (log ++ [y]) = nats log ++ [.int .i64 (y : Nat)] from by simp [nats]) ▸ hown3
    · intro k hk
      simp at hk
      subst hk
      rcases hg3 with h | h
      · exact ⟨hS2.nbl _ h, hS2.nel _ h⟩
      · have := hS2.blt
        have := hS2.par.lt
        have := hS2.siz.lt
        exact ⟨by omega, by omega, by omega⟩
  · refine (hf2.trans' hf3 (fun k _ hk => .inr (.inr (.inr hk)))).setCell _ _ (fun _ => .inl rfl)
  · intro k hk
    simp [blk] at hk
    subst hk
    rcases hg3 with h | h
    · exact .inl h
    · right
      have := hf2.size
      omega

/-- Uniting two elements. -/
theorem unite_any (L : Lay) (n : Nat) (p s r d : Nat → Nat) (log : List Nat) (w : World) (hS : SetsAt w L n p s log) (hF : Fo n p r d) (a b : Nat) (ha : a < n) (hb : b < n)
    (hsum : r a ≠ r b → s (r a) + s (r b) ≤ 65536) (hlog : log.length ≤ 65536) :
    Calls Try.prog 39 #[.pointer (some ⟨L.b, 0, none⟩), .int .i64 a, .int .i64 b] w fun e w' => (r a = r b ∧ e = .returned (.bool false) ∧ w = w') ∨
      (r a ≠ r b ∧ e = .returned (.bool true) ∧ Upd w w' L n (upd p (sml s r a b) (big s r a b)) (upd s (big s r a b) (s (r a) + s (r b))) (log ++ [sml s r a b])) := by
  by_cases hr : r a = r b
  · exact (unite_same L n p s r d log w hS hF a b ha hb hr).mono fun e w' h => .inl ⟨hr, h⟩
  · by_cases hlt : s (r a) < s (r b)
    · refine (unite_lt L n p s r d log w hS hF a b ha hb hr hlt (hsum hr) hlog).mono fun e w' h => .inr ⟨hr, h.1, ?_⟩
      have h2 := h.2
      rw [Nat.add_comm] at h2
      simpa only [sml, big, hlt, if_true] using h2
    · refine (unite_ge L n p s r d log w hS hF a b ha hb hr (by omega) (hsum hr) hlog).mono fun e w' h => .inr ⟨hr, h.1, ?_⟩
      simpa only [sml, big, hlt, if_false] using h.2

end Go.Proofs.Ytiaddgagncmbeaa
