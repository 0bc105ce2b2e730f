/- The walk of Trial. -/
import Derived.Test.YtiaddgagncmbeaaW9
namespace Go.Proofs.Ytiaddgagncmbeaa
open Go.RowKit

set_option maxHeartbeats 400000 in
theorem Trial_bad (v : Value) (w : World) (ao : Option Addr) (m c : Nat) (hv : ∀ w, Calls Try.prog 30 #[v] w fun e w' => e = .returned (.bool false) ∧ w = w') :
    Calls Try.prog 26 #[v, .slice ao m c] w fun e w' => e = .returned (.tuple #[.agg #[.int .i64 0, .int .i64 0, .int .i64 0], .int .i64 1]) ∧ Same' w w' := by
  have HV := hide hv
  clear hv
  go_enter_defers Try.func26, Try.ntmps26
  go_wp2_with (go_at_call 30; refine (HV.out _).mono ?_; rintro e w' ⟨rfl, rfl⟩)
  refine ⟨.tuple #[.agg #[.int .i64 0, .int .i64 0, .int .i64 0], .int .i64 1], ?_, rfl, (Fr.refl _ w).alloc _⟩
  simp [results, Try.results26, go_sem]

/-- The first j pairs. -/
def pairsTo (xs ys : Nat → Int) (j : Nat) : List (Nat × Nat) := (List.range j).map fun i => ((xs i).toNat, (ys i).toNat)

theorem pairsTo_succ (xs ys : Nat → Int) (j : Nat) : pairsTo xs ys (j + 1) = pairsTo xs ys j ++ [((xs j).toNat, (ys j).toNat)] := by
  simp [pairsTo, List.range_succ]

def allIn2 (n m : Nat) (xs ys : Nat → Int) : Bool := decide (∀ i, i < m → in2 n (xs i) (ys i) = true)

theorem St.Ok.unisTo {n : Nat} {S : St} (h : S.Ok n) {xs ys : Nat → Int} {j : Nat} (hin : ∀ i, i < j → in2 n (xs i) (ys i) = true) :
    (S.unis (pairsTo xs ys j)).Ok n ∧ St.Pre S (S.unis (pairsTo xs ys j)) := by
  induction j with
  | zero => exact ⟨h, .refl h⟩
  | succ j ih =>
    have ih := ih (fun i hi => hin i (by omega))
    rw [pairsTo_succ, St.unis_snoc]
    have hj := hin j (by omega)
    unfold in2 at hj
    simp only [Bool.and_eq_true, decide_eq_true_eq] at hj
    exact ⟨ih.1.uni (by simp; omega) (by simp; omega), ih.2.trans (ih.1.pre_uni _ _)⟩

/-- What Trial returns. -/
def trialV (n : Nat) (S : St) (m : Nat) (xs ys : Nat → Int) : Value :=
  if allIn2 n m xs ys then
    .tuple #[.agg #[.int .i64 (mxTo (S.unis (pairsTo xs ys m)).t.p (S.unis (pairsTo xs ys m)).t.s n : Nat), .int .i64 (n - (S.unis (pairsTo xs ys m)).log.length : Nat), .int .i64 (sqTo (S.unis (pairsTo xs ys m)).t.p (S.unis (pairsTo xs ys m)).t.s n : Nat)], .int .i64 0]
  else .tuple #[.agg #[.int .i64 0, .int .i64 0, .int .i64 0], .int .i64 3]

theorem Three.of_same {w w' : World} {g : Nat} {t : TypeId} {a b c : Nat} (h : Three w g t a b c) (hf : Same' w w') : Three w' g t a b c := h.keep hf (fun h => h)

theorem three_put {w : World} {g : Nat} {t : TypeId} {a b c : Nat} (h : Three w g t a b c) (x y z : Nat) :
    Three (((w.setCell ⟨g, 0, none⟩ (.int .i64 (x : Nat))).setCell ⟨g, 1, none⟩ (.int .i64 (y : Nat))).setCell ⟨g, 2, none⟩ (.int .i64 (z : Nat))) g t x y z ∧
    Fr (fun k => k = g) w (((w.setCell ⟨g, 0, none⟩ (.int .i64 (x : Nat))).setCell ⟨g, 1, none⟩ (.int .i64 (y : Nat))).setCell ⟨g, 2, none⟩ (.int .i64 (z : Nat))) :=
  ⟨((h.set0 x).set1 y).set2 z, Fr.setCell (M := fun k => k = g) (Fr.setCell (M := fun k => k = g) (Fr.setCell (M := fun k => k = g) (Fr.refl (fun k => k = g) w) ⟨g, 0, none⟩ (.int .i64 (x : Nat)) (fun _ => rfl)) ⟨g, 1, none⟩ (.int .i64 (y : Nat)) (fun _ => rfl)) ⟨g, 2, none⟩ (.int .i64 (z : Nat)) (fun _ => rfl)⟩

theorem Mv.new {w w' w'' : World} {L L' : Lay} {M : Nat → Prop} (h : Mv w w' L L') (h' : Fr M w' w'') (hm : ∀ k, M k → w.heap.size ≤ k) : Mv w w'' L L' :=
  ⟨h.b, h.fr.trans' h' (fun k hk hk' => absurd (hm k hk') (by omega)), h.mem⟩

/-- The deferred call gives the sets back as they were; the result is read behind it. -/
theorem trial_door {L L' : Lay} {n : Nat} {S S' : St} {w W : World} {B0 a b c k : Nat} {tmps : Array Value} {R : Ending → World → Prop} (hS' : SetsS W L' n S') (hO' : S'.Ok n) (hpre : St.Pre S S') (hn : n ≤ 65536) (hLb : L'.b = L.b)
    (hmv : Mv w W L L') (hT : Three W B0 52 a b c) (hnB : ¬ L'.mem B0) (h4 : tmps.getD 4 undef = .pointer (some ⟨B0, 0, none⟩)) (h5 : tmps.getD 5 undef = .int .i64 (k : Nat))
    (hR : ∀ w', SetsS w' L' n S → Mv w w' L L' → R (.returned (.tuple #[.agg #[.int .i64 (a : Nat), .int .i64 (b : Nat), .int .i64 (c : Nat)], .int .i64 (k : Nat)])) w') :
    Leaves Try.prog Try.f26 tmps R [{ target := .fn (.func 32) #[], args := #[.pointer (some ⟨L.b, 0, none⟩), .int .i64 (S.log.length : Nat)] }] .returning W := by
  refine leaves_cons (f := 32) (args := #[.pointer (some ⟨L.b, 0, none⟩), .int .i64 (S.log.length : Nat)]) (by simp) (by simp [go_sem]) ?_
  have h := back_d L' n S'.t S'.log S'.past hO' W hS' hn S.log.length hpre.1 .returning
  rw [hLb] at h
  refine h.mono ?_
  rintro e u' w' ⟨rfl, rfl, h1, h2⟩
  have hS : SetsS w' L' n (S'.back S.log.length) := h1
  rw [hpre.2] at hS
  have hT' := hT.keep h2 hnB
  have y0 := hT'.c0
  have y1 := hT'.c1
  have y2 := hT'.c2
  refine ⟨_, ?_, hR w' hS (hmv.trans ⟨rfl, h2, fun _ h => .inl h⟩)⟩
  have h4' : tmps[4]?.getD undef = .pointer (some ⟨B0, 0, none⟩) := by simpa using h4
  have h5' : tmps[5]?.getD undef = .int .i64 (k : Nat) := by simpa using h5
  simp [results, Try.results26, go_sem, h4', h5', y0, y1, y2]

set_option maxHeartbeats 2000000 in
theorem Trial_at {L : Lay} {n : Nat} {S : St} {w : World} (hS : SetsS w L n S) (hO : S.Ok n) (hn : n ≤ 65536) (ao : Option Addr) (m c : Nat) (xs ys : Nat → Int) (hm : m ≤ 140737488351232)
    (hc : 0 < m → ∃ g off, ao = some ⟨g, off, none⟩ ∧ ¬ L.mem g ∧ ∀ i, i < m → w.cell? ⟨g, off + i * 2, none⟩ = some (.int .i64 (xs i)) ∧ w.cell? ⟨g, off + i * 2 + 1, none⟩ = some (.int .i64 (ys i))) :
    Calls Try.prog 26 #[.pointer (some ⟨L.b, 0, none⟩), .slice ao m c] w fun e w' => e = .returned (trialV n S m xs ys) ∧ ∃ L', SetsS w' L' n S ∧ Mv w w' L L' := by
  have h3' : ∀ o, (w.alloc o).cell? ⟨L.b, 3, none⟩ = some (.slice L.al S.log.length L.cl) := fun o => (World.cell?_alloc_lt w o _ hS.blt).trans hS.c3
  have h0' : ∀ o, Hid ((w.alloc o).cell? ⟨L.b, 0, none⟩ = some (.bool true)) := fun o => (World.cell?_alloc_lt w o _ hS.blt).trans hS.c0
  have HS := hide hS
  have HC := hide hc
  have HO := hide hO
  clear hS hc hO
  go_enter_defers Try.func26, Try.ntmps26
  go_wp2_with (go_at_call 30; refine (valid_at L.b true _ (h0' _).out).mono ?_; rintro e w' ⟨rfl, rfl⟩)
  generalize hB0 : w.heap.size = B0
  refine wp_world (fun w2 => Three w2 B0 52 0 0 0 ∧ Same' w w2) ⟨by rw [← hB0]; exact heap_alloc_new w _, (Fr.refl _ w).alloc _⟩ ?_
  rintro w2 ⟨t0, hf2⟩
  clear h3' h0'
  have HB0 := hide hB0
  clear hB0
  go_loopg [7, 20] m (fun q _ k wr => ∃ (j : Nat) (L' : Lay), q + j = m ∧ k = .int .i64 j ∧ (∀ i, i < j → in2 n (xs i) (ys i) = true) ∧ SetsS wr L' n (S.unis (pairsTo xs ys j)) ∧ Mv w wr L L' ∧ Three wr B0 52 0 0 0 ∧ ¬ L'.mem B0)
  case atStart => exact ⟨0, L, rfl, rfl, by intro i hi; omega, HS.out.same hf2, Mv.same _ hf2, t0, fun h => by have := HS.out.memlt _ h; have := HB0.out; omega⟩
  case round =>
    obtain ⟨j, L', hj, rfl, hin, hSr, hmv, ht, hnB⟩ := hrel
    have Hin := hide hin
    clear hin
    have hOj := HO.out.unisTo Hin.out
    have hLb := hmv.b
    by_cases hlt : j < m
    · obtain ⟨g, off, rfl, hg, hcell⟩ := HC.out (by omega)
      obtain ⟨hx, hy⟩ := hcell j hlt
      have hx' : wr.cell? ⟨g, off + j * 2, none⟩ = some (.int .i64 (xs j)) := (hmv.fr.cell (block_lt_of_cell hx) hg).trans hx
      have hy' : wr.cell? ⟨g, off + j * 2 + 1, none⟩ = some (.int .i64 (ys j)) := (hmv.fr.cell (block_lt_of_cell hy) hg).trans hy
      have HR := hide (And.intro hSr (And.intro hmv (And.intro ht (And.intro hOj (And.intro hLb hnB)))))
      clear hcell hx hy hSr hmv ht hOj hLb hnB
      by_cases hi2 : in2 n (xs j) (ys j) = true
      · have hi3 := hi2
        unfold in2 at hi3
        simp only [Bool.and_eq_true, decide_eq_true_eq] at hi3
        obtain ⟨a, ha⟩ : ∃ a : Nat, xs j = a := ⟨(xs j).toNat, by omega⟩
        obtain ⟨b, hb⟩ : ∃ b : Nat, ys j = b := ⟨(ys j).toNat, by omega⟩
        rw [ha] at hx'
        rw [hb] at hy'
        have han : a < n := by omega
        have hbn : b < n := by omega
        rw [ha, hb] at hi2
        have HAB := hide (And.intro ha hb)
        clear ha hb hi3
        have HI := hide hi2
        clear hi2
        have hal : Same' wr ((wr.alloc (.cells #[.int .i64 (a : Nat), .int .i64 (b : Nat)] 62)).alloc (.cells #[.int .i64 (a : Nat), .int .i64 (b : Nat)] 3)) := ((Fr.refl _ wr).alloc _).alloc _
        have HAL := hide hal
        clear hal
        have hc1 := has2g L' n _ _ _ _ (wr.heap.size + 1) (by simp) (HR.out.1.same ((Fr.refl _ wr).alloc (.cells #[.int .i64 (a : Nat), .int .i64 (b : Nat)] 62))) hn a b
        rw [HR.out.2.2.2.2.1, HI.out] at hc1
        have hc2 := (HR.out.1.same HAL.out).unite HR.out.2.2.2.1.1 hn han hbn
        rw [HR.out.2.2.2.2.1] at hc2
        have C1 := hide hc1
        have C2 := hide hc2
        clear hc1 hc2
        go_wp2_with (first | (go_at_call 38; refine C1.out.mono ?_; rintro e w' ⟨rfl, rfl⟩) | (go_at_call 39; refine C2.out.mono ?_; clear C2; rintro e w3 ⟨rfl, hu⟩; have HU := hide hu; clear hu))
        go_roundg (m - (j + 1))
        case measure => omega
        case rel =>
          obtain ⟨L3, hS3, hm3⟩ := HU.out
          obtain ⟨hSr, hmv, ht, hOj, hLb, hnB⟩ := HR.out
          have hB := HB0.out
          have hB3 : ¬ L3.mem B0 := by
            intro hk
            rcases hm3.mem _ hk with h | h
            · exact hnB h
            · have := hmv.fr.size
              simp at h
              omega
          refine ⟨j + 1, L3, by omega, by go_num, ?_, ?_, (hmv.then HAL.out).trans hm3, ?_, hB3⟩
          · intro i hi
            by_cases e : i = j
            · subst e; rw [HAB.out.1, HAB.out.2]; exact HI.out
            · exact Hin.out i (by omega)
          · rw [pairsTo_succ, St.unis_snoc, HAB.out.1, HAB.out.2]
            exact hS3
          · exact (ht.of_same HAL.out).keep hm3.fr hnB
      · have HI := hide (show in2 n (xs j) (ys j) = false by simpa using hi2)
        clear hi2
        have hc1 := has2g L' n _ _ _ _ (wr.heap.size + 1) (by simp) (HR.out.1.same ((Fr.refl _ wr).alloc (.cells #[.int .i64 (xs j), .int .i64 (ys j)] 62))) hn (xs j) (ys j)
        rw [HR.out.2.2.2.2.1, HI.out] at hc1
        have C1 := hide hc1
        clear hc1
        have hal : Same' wr ((wr.alloc (.cells #[.int .i64 (xs j), .int .i64 (ys j)] 62)).alloc (.cells #[.int .i64 (xs j), .int .i64 (ys j)] 3)) := ((Fr.refl _ wr).alloc _).alloc _
        have HAL := hide hal
        have ht2 := HR.out.2.2.1.of_same hal
        have z0 := ht2.c0
        have z1 := ht2.c1
        have z2 := ht2.c2
        have f0 := ht2.free 0
        have f1 := ht2.free 1
        have f2 := ht2.free 2
        have hB0lt := ht2.lt
        clear hal ht2
        go_wp2_with (go_at_call 38; refine C1.out.mono ?_; rintro e w' ⟨rfl, rfl⟩)
        obtain ⟨hSr, hmv, ht, hOj, hLb, hnB⟩ := HR.out
        have hv : trialV n S m xs ys = .tuple #[.agg #[.int .i64 0, .int .i64 0, .int .i64 0], .int .i64 3] := by
          unfold trialV
          rw [if_neg]
          unfold allIn2
          simp only [decide_eq_true_eq]
          intro h
          have := h j hlt
          rw [HI.out] at this
          cases this
        have hp := three_put (ht.of_same HAL.out) 0 0 0
        refine trial_door (a := 0) (b := 0) (c := 0) (k := 3) (B0 := B0) ((hSr.same HAL.out).keep hp.2 (fun k hk e => hnB (e ▸ hk))) hOj.1 hOj.2 hn hLb ((hmv.then HAL.out).new hp.2 (fun k hk => by have := HB0.out; omega)) hp.1 hnB rfl rfl ?_
        intro w' h1 h2
        rw [hv]
        exact ⟨rfl, L', h1, h2⟩
    · obtain rfl : j = m := by omega
      have HR := hide (And.intro hSr (And.intro hmv (And.intro ht (And.intro hOj (And.intro hLb hnB)))))
      have hc1 := hSr.row hOj.1 hn
      rw [hLb] at hc1
      have C1 := hide hc1
      clear hc1 hSr hmv ht hOj hLb hnB
      go_wp2_with (go_at_call 43; refine C1.out.mono ?_; rintro e w5 ⟨rfl, hf5⟩; have ht2 := HR.out.2.2.1.of_same hf5; have z0 := ht2.c0; have z1 := ht2.c1; have z2 := ht2.c2; have f0 := ht2.free 0; have f1 := ht2.free 1; have f2 := ht2.free 2; have HT := hide ht2; clear ht2)
      obtain ⟨hSr, hmv, ht, hOj, hLb, hnB⟩ := HR.out
      have hp := three_put HT.out (mxTo (S.unis (pairsTo xs ys j)).t.p (S.unis (pairsTo xs ys j)).t.s n) (n - (S.unis (pairsTo xs ys j)).log.length) (sqTo (S.unis (pairsTo xs ys j)).t.p (S.unis (pairsTo xs ys j)).t.s n)
      refine trial_door (k := 0) (B0 := B0) ((hSr.same hf5).keep hp.2 (fun k hk e => hnB (e ▸ hk))) hOj.1 hOj.2 hn hLb ((hmv.then hf5).new hp.2 (fun k hk => by have := HB0.out; omega)) hp.1 hnB rfl rfl ?_
      intro w' h1 h2
      have hv : allIn2 n j xs ys = true := by
        unfold allIn2
        simp only [decide_eq_true_eq]
        exact Hin.out
      unfold trialV
      rw [if_pos hv]
      exact ⟨rfl, L', h1, h2⟩

end Go.Proofs.Ytiaddgagncmbeaa
