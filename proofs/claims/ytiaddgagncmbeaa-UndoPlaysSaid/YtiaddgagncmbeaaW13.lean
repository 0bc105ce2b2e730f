/- The walks of the laws' helpers: add, made. -/
import Derived.Test.YtiaddgagncmbeaaW12
import Derived.StillTailTactics
namespace Go.Proofs.Ytiaddgagncmbeaa
open Go.RowKit

/-- A slice of n pairs of bytes. -/
def SlB (w : World) (v : Value) (n : Nat) (xs ys : Nat → Nat) : Prop :=
  ∃ ao c, v = .slice ao n c ∧ ∀ i, i < n → ∃ g o, ao = some ⟨g, o, none⟩ ∧ w.cell? ⟨g, o + i * 2, none⟩ = some (.int .u8 (xs i : Nat)) ∧ w.cell? ⟨g, o + i * 2 + 1, none⟩ = some (.int .u8 (ys i : Nat)) ∧ xs i < 256 ∧ ys i < 256

theorem SlB.keep {M : Nat → Prop} {w w' : World} {v : Value} {n : Nat} {xs ys : Nat → Nat} (h : SlB w v n xs ys) (hf : Fr M w w') (hm : 0 < n → ∀ k, v.ownBlock = some k → ¬ M k) : SlB w' v n xs ys := by
  obtain ⟨ao, c, rfl, h⟩ := h
  refine ⟨ao, c, rfl, fun i hi => ?_⟩
  obtain ⟨g, o, hg, h1, h2, h3⟩ := h i hi
  have hlt : g < w.heap.size := block_lt_of_cell h1
  have hn := hm (by omega) g (by rw [hg]; rfl)
  exact ⟨g, o, hg, (hf.cell (a := ⟨g, o + i * 2, none⟩) hlt hn).trans h1, (hf.cell (a := ⟨g, o + i * 2 + 1, none⟩) hlt hn).trans h2, h3⟩

theorem SlB.lt {w : World} {v : Value} {n : Nat} {xs ys : Nat → Nat} (h : SlB w v n xs ys) (hn : 0 < n) : ∀ k, v.ownBlock = some k → k < w.heap.size := by
  intro k hk
  obtain ⟨ao, c, rfl, h⟩ := h
  obtain ⟨g, o, hg, h1, _⟩ := h 0 hn
  subst hg
  simp [Value.ownBlock] at hk
  subst hk
  exact block_lt_of_cell h1

def bp (xs ys : Nat → Nat) (n : Nat) : List (Nat × Nat) := (List.range n).map fun i => (xs i % 50, ys i % 50)

theorem bp_succ (xs ys : Nat → Nat) (j : Nat) : bp xs ys (j + 1) = bp xs ys j ++ [(xs j % 50, ys j % 50)] := by
  simp [bp, List.range_succ]

theorem St.Ok.unis {n : Nat} {S : St} (h : S.Ok n) {l : List (Nat × Nat)} (hl : ∀ x ∈ l, x.1 < n ∧ x.2 < n) : (S.unis l).Ok n ∧ St.Pre S (S.unis l) := by
  induction l generalizing S with
  | nil => exact ⟨h, .refl h⟩
  | cons x l ih =>
    have hx := hl x (by simp)
    have := ih (h.uni hx.1 hx.2) (fun y hy => hl y (by simp [hy]))
    exact ⟨this.1, (h.pre_uni _ _).trans this.2⟩

theorem bp_lt (xs ys : Nat → Nat) (n : Nat) : ∀ x ∈ bp xs ys n, x.1 < 50 ∧ x.2 < 50 := by
  intro x hx
  simp only [bp, List.mem_map] at hx
  obtain ⟨i, _, rfl⟩ := hx
  exact ⟨Nat.mod_lt _ (by omega), Nat.mod_lt _ (by omega)⟩

theorem wrapmod {x : Nat} (h : x < 256) : IntKind.i64.wrap ((x : Int).tmod 50) = ((x % 50 : Nat) : Int) := by
  rw [IntKind.wrap_i64, Int.tmod_eq_emod_of_nonneg (by omega)]
  omega

set_option maxHeartbeats 2000000 in
theorem add_any {L : Lay} {S : St} {w : World} (hS : SetsS w L 50 S) (hO : S.Ok 50) (v : Value) (n : Nat) (xs ys : Nat → Nat) (hl : SlB w v n xs ys) (hn : n ≤ 100) (hd : 0 < n → ∀ k, v.ownBlock = some k → ¬ L.mem k) :
    Calls Try.prog 15 #[.pointer (some ⟨L.b, 0, none⟩), v] w fun e w' => e = .returned (.bool true) ∧ ∃ L', SetsS w' L' 50 (S.unis (bp xs ys n)) ∧ Mv w w' L L' := by
  have HS := hide hS
  have HO := hide hO
  have HL := hide hl
  have HD := hide hd
  obtain ⟨ao, c, rfl, _⟩ := hl
  clear hS hO hd
  go_enter Try.func15, Try.ntmps15
  go_wp2
  go_loopg [5, 6, 7, 8] n (fun q k _ _ _ wr => ∃ (j : Nat) (L' : Lay), q + j = n ∧ k = .int .i64 j ∧ SetsS wr L' 50 (S.unis (bp xs ys j)) ∧ Mv w wr L L')
  case atStart => exact ⟨0, L, rfl, rfl, HS.out, Mv.refl _ _⟩
  case round =>
    obtain ⟨j, L', hj, rfl, hSr, hmv⟩ := hrel
    have hOj := HO.out.unis (bp_lt xs ys j)
    by_cases hlt : j < n
    · have hl' : SlB wr (.slice ao n c) n xs ys := HL.out.keep hmv.fr HD.out
      obtain ⟨ao', c', ev, hcell⟩ := hl'
      simp only [Value.slice.injEq] at ev
      obtain ⟨rfl, _, rfl⟩ := ev
      obtain ⟨g, o, rfl, hx, hy, hx8, hy8⟩ := hcell j hlt
      have c1 := hSr.mark
      rw [hmv.b] at c1
      have hSd : SetsS wr.drew L' 50 (S.unis (bp xs ys j)) := SetsAt.drew hSr
      by_cases hr : (S.unis (bp xs ys j)).t.r (xs j % 50) = (S.unis (bp xs ys j)).t.r (ys j % 50)
      · skip
        have c2 := hSd.union hOj.1 (by omega) (a := xs j % 50) (b := ys j % 50) (Nat.mod_lt _ (by omega)) (Nat.mod_lt _ (by omega))
        rw [hmv.b, show decide ((S.unis (bp xs ys j)).t.r (xs j % 50) ≠ (S.unis (bp xs ys j)).t.r (ys j % 50)) = false from by simp [hr]] at c2
        have hlen : ((S.unis (bp xs ys j)).uni (xs j % 50) (ys j % 50)).log.length = (S.unis (bp xs ys j)).log.length := by unfold St.uni; rw [if_pos hr]
        obtain ⟨k, hk⟩ : ∃ k, k = (S.unis (bp xs ys j)).log.length := ⟨_, rfl⟩
        obtain ⟨k', hk'⟩ : ∃ k', k' = ((S.unis (bp xs ys j)).uni (xs j % 50) (ys j % 50)).log.length := ⟨_, rfl⟩
        rw [← hk, ← hk'] at hlen
        rw [← hk] at c1
        have hk1 : k ≤ 50 := by have := hOj.1.loglen; omega
        have hk2 : k' ≤ 51 := by omega
        have t1 : ((k' : Int) == (k : Int) + 1) = false := by simp; omega
        have t2 : ((k' : Int) != (k : Int)) = false := by simp; omega
        have HK := hide hk'
        have C1 := hide c1
        have C2 := hide c2
        have HSR := hide hSr
        have HMV := hide hmv
        have HR := hide hr
        clear c1 c2 hSr hmv hcell hSd hr hlen hk hk'
        have hw1 : IntKind.i64.wrap ((xs j : Int).tmod 50) = ((xs j % 50 : Nat) : Int) := wrapmod hx8
        have hw2 : IntKind.i64.wrap ((ys j : Int).tmod 50) = ((ys j % 50 : Nat) : Int) := wrapmod hy8
        go_wp2_with (first | (go_at_call 12; refine C1.out.mono ?_; clear C1; rintro e w' ⟨rfl, rfl⟩))
        go_region_with (go_at_call 23; refine C2.out.mono ?_; rintro e w3 ⟨rfl, L3, hS3, hM3⟩; have HS3 := hide hS3; have HM3 := hide hM3; clear hS3 hM3)
        all_goals
          clear hw1 hw2 hx hy
          have c3 := HS3.out.mark
          rw [HM3.out.b, HMV.out.b, ← HK.out] at c3
          have C3 := hide c3
          clear c3
          go_wp2_with (go_at_call 12; refine C3.out.mono ?_; rintro e w' ⟨rfl, rfl⟩)
          go_roundg (n - (j + 1))
          case measure => omega
          case rel =>
            refine ⟨j + 1, L3, by omega, by go_num, ?_, (HMV.out.then (Fr.refl _ _).drew).trans HM3.out⟩
            rw [bp_succ, St.unis_snoc]
            exact HS3.out
      · skip
        have c2 := hSd.union hOj.1 (by omega) (a := xs j % 50) (b := ys j % 50) (Nat.mod_lt _ (by omega)) (Nat.mod_lt _ (by omega))
        rw [hmv.b, show decide ((S.unis (bp xs ys j)).t.r (xs j % 50) ≠ (S.unis (bp xs ys j)).t.r (ys j % 50)) = true from by simp [hr]] at c2
        have hlen : ((S.unis (bp xs ys j)).uni (xs j % 50) (ys j % 50)).log.length = (S.unis (bp xs ys j)).log.length + 1 := by unfold St.uni; rw [if_neg hr]; simp
        obtain ⟨k, hk⟩ : ∃ k, k = (S.unis (bp xs ys j)).log.length := ⟨_, rfl⟩
        obtain ⟨k', hk'⟩ : ∃ k', k' = ((S.unis (bp xs ys j)).uni (xs j % 50) (ys j % 50)).log.length := ⟨_, rfl⟩
        rw [← hk, ← hk'] at hlen
        rw [← hk] at c1
        have hk1 : k ≤ 50 := by have := hOj.1.loglen; omega
        have hk2 : k' ≤ 51 := by omega
        have t1 : ((k' : Int) == (k : Int) + 1) = true := by simp; omega
        have t2 : ((k' : Int) != (k : Int)) = true := by simp; omega
        have HK := hide hk'
        have C1 := hide c1
        have C2 := hide c2
        have HSR := hide hSr
        have HMV := hide hmv
        have HR := hide hr
        clear c1 c2 hSr hmv hcell hSd hr hlen hk hk'
        have hw1 : IntKind.i64.wrap ((xs j : Int).tmod 50) = ((xs j % 50 : Nat) : Int) := wrapmod hx8
        have hw2 : IntKind.i64.wrap ((ys j : Int).tmod 50) = ((ys j % 50 : Nat) : Int) := wrapmod hy8
        go_wp2_with (first | (go_at_call 12; refine C1.out.mono ?_; clear C1; rintro e w' ⟨rfl, rfl⟩))
        go_region_with (go_at_call 23; refine C2.out.mono ?_; rintro e w3 ⟨rfl, L3, hS3, hM3⟩; have HS3 := hide hS3; have HM3 := hide hM3; clear hS3 hM3)
        all_goals
          clear hw1 hw2 hx hy
          have c3 := HS3.out.mark
          rw [HM3.out.b, HMV.out.b, ← HK.out] at c3
          have C3 := hide c3
          clear c3
          go_wp2_with (go_at_call 12; refine C3.out.mono ?_; rintro e w' ⟨rfl, rfl⟩)
          go_roundg (n - (j + 1))
          case measure => omega
          case rel =>
            refine ⟨j + 1, L3, by omega, by go_num, ?_, (HMV.out.then (Fr.refl _ _).drew).trans HM3.out⟩
            rw [bp_succ, St.unis_snoc]
            exact HS3.out
    · obtain rfl : j = n := by omega
      have HSR := hide hSr
      have HMV := hide hmv
      clear hSr hmv
      go_wp2
      go_ret
      exact ⟨rfl, L', HSR.out, HMV.out⟩

/-- made: the sets after the unions of l. -/
theorem made_any (w : World) (v : Value) (n : Nat) (xs ys : Nat → Nat) (hl : SlB w v n xs ys) (hn : n ≤ 100) :
    Calls Try.prog 11 #[v] w fun e w' => ∃ L, e = .returned (.pointer (some ⟨L.b, 0, none⟩)) ∧ SetsS w' L 50 (St.zero.unis (bp xs ys n)) ∧ Same' w w' ∧ ∀ k, L.mem k → w.heap.size ≤ k := by
  have c1 : Calls Try.prog 18 #[.int .i64 50] w _ := New_S 50 (by omega) w
  have HL := hide hl
  clear hl
  go_enter Try.func11, Try.ntmps11
  go_wp2_with fail
  refine c1.mono ?_
  clear c1
  rintro e w1 ⟨L, rfl, hS1, hf1, hm1⟩
  have c := add_any hS1 (St.zero_ok 50) v n xs ys (HL.out.keep hf1 (fun _ _ _ h => h)) hn (fun h0 k hk hm => by have := hm1 k hm; have := HL.out.lt h0 k hk; omega)
  have C := hide c
  have HM := hide hm1
  clear c hS1 hm1
  go_wp2_with (go_at_call 15; refine C.out.mono ?_; clear C; rintro e w2 ⟨rfl, L2, hS2, hv2⟩)
  go_ret
  refine ⟨L2, by rw [hv2.b]; rfl, hS2, hf1.trans' hv2.fr (fun k hk hm => by have := HM.out k hm; omega), fun k hk => ?_⟩
  rcases hv2.mem k hk with h | h
  · exact HM.out k h
  · have := hf1.size
    omega

end Go.Proofs.Ytiaddgagncmbeaa
