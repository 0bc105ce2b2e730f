/- Walks: back, Undo. -/
import Derived.Test.YtiaddgagncmbeaaW4
import Derived.Deep.LoopGhost
namespace Go.Proofs.Ytiaddgagncmbeaa
open Go.RowKit

theorem SetsAt.log_addr {w : World} {L : Lay} {n : Nat} {p s : Nat → Nat} {log : List Nat} (h : SetsAt w L n p s log) (hl : 0 < log.length) :
    ∃ g, L.al = some ⟨g, 0, none⟩ ∧ log.length ≤ L.cl ∧ (∀ i, (hi : i < log.length) → w.cell? ⟨g, i, none⟩ = some (.int .i64 (log[i] : Nat))) := by
  rcases h.lg.2 with ⟨_, h'⟩ | ⟨g, cap, cur, hv, _, hg, hnc, _⟩
  · omega
  · simp only [Value.slice.injEq] at hv
    obtain ⟨h1, _, h3⟩ := hv
    refine ⟨g, h1, by omega, fun i hi => ?_⟩
    have := h.lg
    rw [h1] at this
    rw [this.cellAt i (by omega)]
    simp [nats, hi]

theorem owns_take {w : World} {e : TypeId} {al : Option Addr} {n cl : Nat} {xs : List Value} (h : w.ownsRow 0 e 1 (.slice al n cl) n xs) {m : Nat} (hm : m ≤ n) :
    w.ownsRow 0 e 1 (.slice al m cl) m (xs.take m) := by
  refine ⟨by have := h.1; simp; omega, ?_⟩
  rcases h.2 with ⟨hv, hn⟩ | ⟨g, cap, cur, hv, hb, hg, hnc, hcm, hcs, ht⟩
  · simp only [Value.slice.injEq] at hv
    obtain ⟨rfl, _, rfl⟩ := hv
    have : m = 0 := by omega
    subst this
    exact .inl ⟨rfl, rfl⟩
  · simp only [Value.slice.injEq] at hv
    obtain ⟨rfl, _, rfl⟩ := hv
    refine .inr ⟨g, cl, cur, rfl, hb, hg, by omega, hcm, hcs, ?_⟩
    rw [← ht, List.take_take]
    congr 1
    omega

set_option maxHeartbeats 1000000 in
theorem back_both (L : Lay) (n : Nat) (t : T) (log : List Nat) (past : List T) (hB : Built n t log past) (w : World) (hS : SetsAt w L n t.p t.s log) (hn : n ≤ 65536) (m : Nat) (hm : m ≤ log.length) (u : FrameMode) :
    (Calls Try.prog 32 #[.pointer (some ⟨L.b, 0, none⟩), .int .i64 m] w fun e w' => e = .returned (.tuple #[]) ∧ SetsAt w' L n (t.back past m).p (t.back past m).s (log.take m) ∧ Fr L.mem w w') ∧
    (CallsD Try.prog 32 #[.pointer (some ⟨L.b, 0, none⟩), .int .i64 m] u w fun e u' w' => u' = u ∧ (e = .returned (.tuple #[]) ∧ SetsAt w' L n (t.back past m).p (t.back past m).s (log.take m) ∧ Fr L.mem w w')) := by
  have HB := hide hB
  have hl : log.length ≤ n := hB.loglen
  have hS0 : SetsAt w L n (t.back past log.length).p (t.back past log.length).s (log.take log.length) := by
    have : t.back past log.length = t := by
      unfold T.back
      rw [List.getElem?_eq_none (by have := hB.len; omega)]
      rfl
    rw [this, List.take_length]
    exact hS
  have HS0 := hide hS0
  clear hB hS hS0
  refine ⟨calls_of_wp Try.func32 rfl ?k, callsD_of_wp Try.func32 rfl ?k⟩
  simp only [Try.ntmps32, List.size_toArray, List.length_cons, List.length_nil, Nat.reduceAdd, Nat.reduceSub, Array.replicate_succ, Array.replicate_zero, List.push_toArray, List.append_toArray, List.nil_append, List.cons_append]
  go_wp2
  go_loopg [4] log.length (fun k _ wr => m ≤ k ∧ k ≤ log.length ∧ SetsAt wr L n (t.back past k).p (t.back past k).s (log.take k) ∧ Fr L.mem w wr)
  case atStart => exact ⟨hm, Nat.le_refl _, HS0.out, Fr.refl _ _⟩
  case round =>
    obtain ⟨hk1, hk2, hSk, hfk⟩ := hrel
    by_cases hlt : m < gk
    · obtain ⟨j, rfl⟩ : ∃ j, gk = j + 1 := ⟨gk - 1, by omega⟩
      obtain ⟨x, hx, hy, rx, ry, hne, hjoin⟩ := HB.out.last j (by omega)
      obtain ⟨y, hyy⟩ : ∃ y, y = log[j] := ⟨_, rfl⟩
      have hlen : (log.take (j + 1)).length = j + 1 := by simp; omega
      obtain ⟨gl, hal, hcl, hlc⟩ := hSk.log_addr (by omega)
      have h3 := hSk.c3
      rw [hal, hlen] at h3
      have hlj := hlc j (by omega)
      rw [List.getElem_take, ← hyy] at hlj
      rw [hlen] at hcl
      have h1 := hSk.c1
      have h2 := hSk.c2
      have f3 := hSk.hfree 3
      have HSK := hide hSk
      have HX := hide (And.intro hx (And.intro hy (And.intro rx (And.intro ry (And.intro hne hjoin)))))
      have HY := hide hyy
      have HL := hide hlen
      have HA := hide hal
      clear hSk hx hy rx ry hne hjoin hyy hlc hlen hal
      have hlt2 : decide ((m : Int) < (j : Int) + 1) = true := by simp; omega
      go_wp2
      go_quiet (fail)
      go_wp2
      go_region
      go_wp2
      refine wp_world (fun w2 => SetsAt w2 L n (t.back past (j + 1)).p (t.back past (j + 1)).s (log.take j) ∧ Fr L.mem w w2) ?_ ?_
      · have hlj : (log.take j).length = j := by simp; omega
        have := (HSK.out.drewN nq).setLog (log.take j) L.al L.cl (Fr.refl _ _) (by
          have h := HSK.out.lg
          rw [HL.out] at h
          have h := owns_take h (m := j) (by omega)
          rw [hlj]
          have e : (nats (log.take (j + 1))).take j = nats (log.take j) := by
            unfold nats
            rw [← List.map_take, List.take_take]
            congr 2
            omega
          rw [e] at h
          exact h) (fun k hk => ⟨HSK.out.nbl _ hk, HSK.out.nel _ hk⟩)
        rw [hlj, show (L.al : Option Addr) = _ from HA.out] at this
        refine ⟨?_, ((hfk.drewN nq).setCell ⟨L.b, 3, none⟩ (.slice (some ⟨gl, 0, none⟩) j L.cl) (fun _ => .inl rfl)).to rfl rfl rfl rfl⟩
        have h' := this.to (w' := (((wr.drewN nq).setCell ⟨L.b, 3, none⟩ (.slice (some ⟨gl, 0, none⟩) j L.cl)).drew)) rfl
        rw [← HA.out] at h'
        rw [← HA.out]
        exact h'.to rfl
      rintro w2 ⟨hS2, hf2⟩
      clear h1 h2 h3 f3 hlj HSK
      obtain ⟨hx, hy, rx, ry, hne, hjoin⟩ := HX.out
      rw [← HY.out] at hy ry hne hjoin
      rw [hjoin] at hS2
      have hBj := HB.out.back j (by omega)
      have hpy := ((hBj.inv).pr y hy).2 ry
      obtain ⟨A, hA⟩ : ∃ A, A = ((t.back past j).join x y).s x := ⟨_, rfl⟩
      obtain ⟨B, hBB⟩ : ∃ B, B = ((t.back past j).join x y).s y := ⟨_, rfl⟩
      have hpx : ((t.back past j).join x y).p y = x := by simp [T.join, upd]
      have hAB : B ≤ A ∧ A ≤ 65536 := by
        have e1 : ((t.back past j).join x y).s x = (t.back past j).s x + (t.back past j).s y := by simp [T.join, upd]
        have e2 : ((t.back past j).join x y).s y = (t.back past j).s y := by
          show (if y = x then _ else _) = _
          rw [if_neg (fun h => hne h.symm)]
        have := hBj.sum_le hx hy rx ry hne
        omega
      obtain ⟨hAB1, hAB2⟩ := hAB
      have h1 := hS2.c1
      have h2 := hS2.c2
      have q1 : w2.cell? ⟨L.gp, y, none⟩ = some (.int .i64 (x : Nat)) := by rw [hS2.par.cell y hy, numV, hpx]
      have q2 : w2.cell? ⟨L.gs, x, none⟩ = some (.int .i64 (A : Nat)) := by rw [hS2.siz.cell x hx, numV, hA]
      have q3 : w2.cell? ⟨L.gs, y, none⟩ = some (.int .i64 (B : Nat)) := by rw [hS2.siz.cell y hy, numV, hBB]
      have fs := hS2.siz.free x
      have HU := hide (T.undo (t := t.back past j) hpy hne)
      have HS2 := hide hS2
      have HAB := hide (And.intro hA (And.intro hBB hpx))
      clear hS2 hA hBB hpx hjoin hne rx ry hpy hBj HX
      go_region
      refine exit_world (fun w3 => SetsAt w3 L n ((t.back past j).join x y).p (t.back past j).s (log.take j) ∧ Fr L.mem w w3) ?_ ?_
      · refine ⟨?_, ((hf2.setCell ⟨L.gs, x, none⟩ _ (fun _ => .inr (.inr (.inl rfl)))).to rfl rfl rfl rfl)⟩
        have h := HU.out.2
        obtain ⟨hA, hBB, hpx⟩ := HAB.out
        rw [hpx, ← hA, ← hBB] at h
        have h' := HS2.out.setSiz x (A - B) hx
        rw [h] at h'
        rw [show (A : Int) - (B : Int) = ((A - B : Nat) : Int) from by omega]
        exact h'.to rfl
      rintro w3 ⟨hS3, hf3⟩
      clear h1 h2 q1 q2 q3 fs HS2
      have h1 := hS3.c1
      have q1 := hS3.par.cell y hy
      have fs := hS3.par.free y
      have HS3 := hide hS3
      clear hS3
      go_wp2
      go_roundg j
      case measure => omega
      case rel =>
        refine ⟨by omega, by omega, ?_, hf3.setCell _ _ (fun _ => .inr (.inl rfl))⟩
        have h := HS3.out.setPar y y hy
        rw [HU.out.1] at h
        exact h
    · obtain rfl : m = gk := by omega
      have h3 := hSk.c3
      have hlen : (log.take m).length = m := by simp; omega
      rw [hlen] at h3
      have HS := hide hSk
      clear hlen hSk
      go_wp2
      go_end0
      exact ⟨rfl, HS.out, hfk⟩

theorem back_any (L : Lay) (n : Nat) (t : T) (log : List Nat) (past : List T) (hB : Built n t log past) (w : World) (hS : SetsAt w L n t.p t.s log) (hn : n ≤ 65536) (m : Nat) (hm : m ≤ log.length) :
    Calls Try.prog 32 #[.pointer (some ⟨L.b, 0, none⟩), .int .i64 m] w fun e w' => e = .returned (.tuple #[]) ∧ SetsAt w' L n (t.back past m).p (t.back past m).s (log.take m) ∧ Fr L.mem w w' :=
  (back_both L n t log past hB w hS hn m hm .returning).1

theorem back_d (L : Lay) (n : Nat) (t : T) (log : List Nat) (past : List T) (hB : Built n t log past) (w : World) (hS : SetsAt w L n t.p t.s log) (hn : n ≤ 65536) (m : Nat) (hm : m ≤ log.length) (u : FrameMode) :
    CallsD Try.prog 32 #[.pointer (some ⟨L.b, 0, none⟩), .int .i64 m] u w fun e u' w' => u' = u ∧ (e = .returned (.tuple #[]) ∧ SetsAt w' L n (t.back past m).p (t.back past m).s (log.take m) ∧ Fr L.mem w w') :=
  (back_both L n t log past hB w hS hn m hm u).2

set_option maxHeartbeats 400000 in
theorem Undo_bad (v : Value) (w : World) (m : Int) (hv : Calls Try.prog 30 #[v] w fun e w' => e = .returned (.bool false) ∧ w = w') :
    Calls Try.prog 16 #[v, .int .i64 m] w fun e w' => e = .returned (.int .i64 1) ∧ w = w' := by
  have HV := hide hv
  clear hv
  go_enter Try.func16, Try.ntmps16
  go_wp2_with (go_at_call 30; refine HV.out.mono ?_; rintro e w' ⟨rfl, rfl⟩)
  go_ret
  exact ⟨rfl, rfl⟩

set_option maxHeartbeats 400000 in
theorem Undo_out (L : Lay) (n : Nat) (p s : Nat → Nat) (log : List Nat) (w : World) (hS : SetsAt w L n p s log) (m : Int) (h : m < 0 ∨ log.length < m) :
    Calls Try.prog 16 #[.pointer (some ⟨L.b, 0, none⟩), .int .i64 m] w fun e w' => e = .returned (.int .i64 3) ∧ w = w' := by
  have h0 := hide hS.c0
  have h3 := hS.c3
  clear hS
  rcases h with h | h
  · go_enter Try.func16, Try.ntmps16
    go_wp2_with (go_at_call 30; refine (valid_at L.b true _ h0.out).mono ?_; rintro e w' ⟨rfl, rfl⟩)
    go_ret
    exact ⟨rfl, rfl⟩
  · have hm : 0 ≤ m := by omega
    go_enter Try.func16, Try.ntmps16
    go_wp2_with (go_at_call 30; refine (valid_at L.b true _ h0.out).mono ?_; rintro e w' ⟨rfl, rfl⟩)
    go_ret
    exact ⟨rfl, rfl⟩

set_option maxHeartbeats 400000 in
theorem Undo_in (L : Lay) (n : Nat) (t : T) (log : List Nat) (past : List T) (hB : Built n t log past) (w : World) (hS : SetsAt w L n t.p t.s log) (hn : n ≤ 65536) (m : Nat) (hm : m ≤ log.length) :
    Calls Try.prog 16 #[.pointer (some ⟨L.b, 0, none⟩), .int .i64 m] w fun e w' => e = .returned (.int .i64 0) ∧ SetsAt w' L n (t.back past m).p (t.back past m).s (log.take m) ∧ Fr L.mem w w' := by
  have h0 := hide hS.c0
  have h3 := hS.c3
  have HS := hide hS
  have HB := hide hB
  clear hS hB
  go_enter Try.func16, Try.ntmps16
  go_wp2_with (first | (go_at_call 30; refine (valid_at L.b true _ h0.out).mono ?_; rintro e w' ⟨rfl, rfl⟩) | (go_at_call 32; refine (back_any L n t log past HB.out w HS.out hn m hm).mono ?_; rintro e w' ⟨rfl, hS', hf'⟩))
  go_ret
  exact ⟨rfl, hS', hf'⟩

end Go.Proofs.Ytiaddgagncmbeaa
