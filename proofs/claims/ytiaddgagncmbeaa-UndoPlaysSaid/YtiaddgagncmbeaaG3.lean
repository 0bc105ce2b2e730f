/- Pairs: the program's sets and the document's in the same state; what each step of a script does to both. -/
import Derived.Test.YtiaddgagncmbeaaL3
namespace Go.Proofs.Ytiaddgagncmbeaa
open Go.RowKit

theorem LabAt.clip {M : Nat → Prop} {w : World} {v : Value} {n : Nat} {l : Nat → Nat} (h : LabAt M w v n l) : LabAt (fun k => M k ∧ k < w.heap.size) w v n l := by
  obtain ⟨ao, c, rfl, h1, h2⟩ := h
  exact ⟨ao, c, rfl, h1, fun k hk => ⟨h2 k hk, (h1.lt k (by rw [ownBlock_blk]; exact hk)).2⟩⟩

theorem RefAt.clip {M : Nat → Prop} {w : World} {b n : Nat} {S : St} (h : RefAt M w b n S) : RefAt (fun k => M k ∧ k < w.heap.size) w b n S := by
  obtain ⟨v, ap, cp, vs, h⟩ := h
  exact ⟨v, ap, cp, vs, h.hdr, ⟨h.mb, h.blt⟩, h.lab.clip, h.past, fun k hk => ⟨h.mp k hk, (h.past.lt k (by rw [ownBlock_blk]; exact hk)).2⟩, fun i hi => by obtain ⟨u, h1, h2⟩ := h.old i hi; exact ⟨u, h1, h2.clip⟩⟩

theorem RefAt.mono {M M' : Nat → Prop} {w : World} {b n : Nat} {S : St} (h : RefAt M w b n S) (hm : ∀ k, M k → M' k) : RefAt M' w b n S := by
  obtain ⟨v, ap, cp, vs, h⟩ := h
  exact ⟨v, ap, cp, vs, h.mono hm⟩

/-- Both in the state S, apart from each other, all in blocks of F, which are newer than w0. -/
structure Both (w0 w : World) (n : Nat) (S : St) (L : Lay) (M : Nat → Prop) (b : Nat) (F : Nat → Prop) : Prop where
  hF : ∀ k, F k → w0.heap.size ≤ k ∧ k < w.heap.size
  f0 : Same' w0 w
  hS : SetsS w L n S
  hR : RefAt M w b n S
  hO : S.Ok n
  hn : n ≤ 65536
  hL : ∀ k, L.mem k → F k ∧ ¬ M k
  hM : ∀ k, M k → F k

def Pair (w0 w : World) (n : Nat) (s r : Value) (F : Nat → Prop) : Prop :=
  (s = .pointer none ∧ r = .pointer none ∧ (∀ k, ¬ F k) ∧ Same' w0 w) ∨ ∃ S L M b, s = .pointer (some ⟨Lay.b L, 0, none⟩) ∧ r = .pointer (some ⟨b, 0, none⟩) ∧ Both w0 w n S L M b F

namespace Both
variable {w0 w w' w1 w2 : World} {n : Nat} {S S' : St} {L L' : Lay} {M M' F : Nat → Prop} {b : Nat}

theorem same (h : Both w0 w n S L M b F) (hf : Same' w w') : Both w0 w' n S L M b F :=
  ⟨fun k hk => ⟨(h.hF k hk).1, Nat.lt_of_lt_of_le (h.hF k hk).2 hf.size⟩, h.f0.trans hf, h.hS.same hf, h.hR.same hf, h.hO, h.hn, h.hL, h.hM⟩

/-- First the program's, then the document's. -/
theorem then_ref (h : Both w0 w n S L M b F) (hv : Mv w w1 L L') (hS' : SetsS w1 L' n S') (hr : RMv M w1 w2 b n S') (hO' : S'.Ok n) :
    ∃ M' F', Both w0 w2 n S' L' M' b F' ∧ Fr F w w2 ∧ L'.b = L.b := by
  obtain ⟨M1, hR, hf, hm⟩ := hr
  have hLM : ∀ k, L'.mem k → ¬ M k := by
    intro k hk hk'
    rcases hv.mem k hk with h' | h'
    · exact (h.hL k h').2 hk'
    · have := (h.hF k (h.hM k hk')).2
      omega
  have hlt := SetsAt.memlt hS'
  have h0 := h.f0.size
  have h1 := hv.fr.size
  have h2 := hf.size
  refine ⟨fun k => M1 k ∧ k < w2.heap.size, fun k => L'.mem k ∨ (M1 k ∧ k < w2.heap.size), ⟨?_, ?_, hS'.keep hf hLM, hR.clip, hO', h.hn, fun k hk => ⟨.inl hk, fun hk' => ?_⟩, fun k hk => .inr hk⟩, ?_, hv.b⟩
  · rintro k (hk | hk)
    · refine ⟨?_, Nat.lt_of_lt_of_le (hlt k hk) h2⟩
      rcases hv.mem k hk with h' | h'
      · exact (h.hF k (h.hL k h').1).1
      · omega
    · refine ⟨?_, hk.2⟩
      rcases hm k hk.1 with h' | h'
      · exact (h.hF k (h.hM k h')).1
      · omega
  · refine (h.f0.trans' hv.fr (fun k hk hm' => by have := (h.hF k (h.hL k hm').1).1; omega)).trans' hf (fun k hk hm' => by have := (h.hF k (h.hM k hm')).1; omega)
  · rcases hm k hk'.1 with h' | h'
    · exact hLM k hk h'
    · have := hlt k hk
      omega
  · exact (hv.fr.mono (fun k _ hk => (h.hL k hk).1)).trans' hf (fun k _ hk => h.hM k hk)

/-- First the document's, then the program's. -/
theorem then_sets (h : Both w0 w n S L M b F) (hr : RMv M w w1 b n S') (hv : Mv w1 w2 L L') (hS' : SetsS w2 L' n S') (hO' : S'.Ok n) :
    ∃ M' F', Both w0 w2 n S' L' M' b F' ∧ Fr F w w2 ∧ L'.b = L.b := by
  obtain ⟨M1, hR, hf, hm⟩ := hr
  have hlt := SetsAt.memlt hS'
  have hltL := SetsAt.memlt h.hS
  have h0 := h.f0.size
  have h1 := hv.fr.size
  have h2 := hf.size
  have hML : ∀ k, (M1 k ∧ k < w1.heap.size) → ¬ L.mem k := by
    intro k hk hk'
    rcases hm k hk.1 with h' | h'
    · exact (h.hL k hk').2 h'
    · have := hltL k hk'
      omega
  refine ⟨fun k => M1 k ∧ k < w1.heap.size, fun k => L'.mem k ∨ (M1 k ∧ k < w1.heap.size), ⟨?_, ?_, hS', hR.clip.keep hv.fr hML, hO', h.hn, fun k hk => ⟨.inl hk, fun hk' => ?_⟩, fun k hk => .inr hk⟩, ?_, hv.b⟩
  · rintro k (hk | hk)
    · refine ⟨?_, hlt k hk⟩
      rcases hv.mem k hk with h' | h'
      · exact (h.hF k (h.hL k h').1).1
      · omega
    · refine ⟨?_, by omega⟩
      rcases hm k hk.1 with h' | h'
      · exact (h.hF k (h.hM k h')).1
      · omega
  · refine (h.f0.trans' hf (fun k hk hm' => by have := (h.hF k (h.hM k hm')).1; omega)).trans' hv.fr (fun k hk hm' => by have := (h.hF k (h.hL k hm').1).1; omega)
  · rcases hv.mem k hk with h' | h'
    · exact hML k hk' h'
    · omega
  · exact (hf.mono (fun k _ hk => h.hM k hk)).trans' hv.fr (fun k _ hk => (h.hL k hk).1)

/-- The document's, once the program's have moved. -/
theorem ref_keep (h : Both w0 w n S L M b F) (hv : Mv w w1 L L') : RefAt M w1 b n S := h.hR.keep hv.fr (fun k hk hl => (h.hL k hl).2 hk)

/-- The program's, once the document's have moved. -/
theorem sets_keep (h : Both w0 w n S L M b F) (hr : RMv M w w1 b n S') : SetsS w1 L n S := by
  obtain ⟨M1, hR, hf, hm⟩ := hr
  exact h.hS.keep hf (fun k hk => (h.hL k hk).2)
end Both

theorem Pair.same {w0 w w' : World} {n : Nat} {s r : Value} {F : Nat → Prop} (h : Pair w0 w n s r F) (hf : Same' w w') : Pair w0 w' n s r F := by
  rcases h with ⟨h1, h2, h3, h4⟩ | ⟨S, L, M, b, h1, h2, h⟩
  · exact .inl ⟨h1, h2, h3, h4.trans hf⟩
  · exact .inr ⟨S, L, M, b, h1, h2, h.same hf⟩

theorem Pair.f0 {w0 w : World} {n : Nat} {s r : Value} {F : Nat → Prop} (h : Pair w0 w n s r F) : Same' w0 w := by
  rcases h with ⟨h1, h2, h3, h4⟩ | ⟨S, L, M, b, h1, h2, h⟩
  · exact h4
  · exact h.f0

theorem Pair.lt {w0 w : World} {n : Nat} {s r : Value} {F : Nat → Prop} (h : Pair w0 w n s r F) : ∀ k, F k → k < w.heap.size := by
  rcases h with ⟨h1, h2, h3, h4⟩ | ⟨S, L, M, b, h1, h2, h⟩
  · exact fun k hk => absurd hk (h3 k)
  · exact fun k hk => (h.hF k hk).2

theorem Pair.agree {w0 w : World} {n : Nat} {s r : Value} {F : Nat → Prop} (h : Pair w0 w n s r F) (x y : Int) :
    Calls Try.prog 20 #[s, r, .int .i64 x, .int .i64 y] w fun e w' => e = .returned (.bool true) ∧ Same' w w' := by
  rcases h with ⟨rfl, rfl, h3, h4⟩ | ⟨S, L, M, b, rfl, rfl, h⟩
  · exact agree_nil w x y
  · exact agree_at h.hS h.hR h.hO h.hn x y

/-- Behind a step: the same pointers, in the same state again. -/
def PS (w0 w w' : World) (n : Nat) (s r : Value) (F : Nat → Prop) : Prop := ∃ F', Pair w0 w' n s r F' ∧ Fr F w w'

theorem Pair.union {w0 w : World} {n : Nat} {s r : Value} {F : Nat → Prop} (h : Pair w0 w n s r F) (x y : Int) :
    ∃ (c : Bool) (k : Int), Calls Try.prog 23 #[s, .int .i64 x, .int .i64 y] w fun e w1 => e = .returned (.tuple #[.bool c, .int .i64 k]) ∧ Fr F w w1 ∧
      Calls Try.prog 24 #[r, .int .i64 x, .int .i64 y] w1 fun e w2 => e = .returned (.tuple #[.bool c, .int .i64 k]) ∧ PS w0 w w2 n s r F := by
  rcases h with ⟨rfl, rfl, h3, h4⟩ | ⟨S, L, M, b, rfl, rfl, h⟩
  · refine ⟨false, 1, (Union_bad _ w x y (valid_nil w)).mono ?_⟩
    rintro e w1 ⟨rfl, rfl⟩
    refine ⟨rfl, Fr.refl _ _, (RUnion_nil w x y).mono ?_⟩
    rintro e w2 ⟨rfl, rfl⟩
    exact ⟨rfl, F, .inl ⟨rfl, rfl, h3, h4⟩, Fr.refl _ _⟩
  · by_cases hi : in2 n x y = true
    · obtain ⟨a, c, rfl, rfl, ha, hc⟩ := in2_nat hi
      refine ⟨decide (S.t.r a ≠ S.t.r c), 0, (h.hS.union h.hO h.hn ha hc).mono ?_⟩
      rintro e w1 ⟨rfl, L1, hS1, hv⟩
      obtain ⟨v, ap, cp, vs, hR1⟩ := h.ref_keep hv
      refine ⟨rfl, hv.fr.mono (fun k _ hk => (h.hL k hk).1), (RUnion_in hR1 h.hO h.hn a c ha hc).mono ?_⟩
      rintro e w2 ⟨rfl, hr⟩
      obtain ⟨M', F', hB, hf, hb⟩ := h.then_ref hv hS1 hr (h.hO.uni ha hc)
      exact ⟨rfl, F', .inr ⟨_, L1, M', b, by rw [hb], rfl, hB⟩, hf⟩
    · have hi := Bool.eq_false_iff.2 hi
      refine ⟨false, 3, (Union_out L n _ _ S.log w h.hS h.hn x y hi).mono ?_⟩
      rintro e w1 ⟨rfl, hf⟩
      obtain ⟨v, ap, cp, vs, hR1⟩ := h.hR.same hf
      refine ⟨rfl, hf.mono (fun _ _ h => h.elim), (RUnion_out hR1 h.hn x y hi).mono ?_⟩
      rintro e w2 ⟨rfl, rfl⟩
      exact ⟨rfl, F, .inr ⟨S, L, M, b, rfl, rfl, h.same hf⟩, hf.mono (fun _ _ h => h.elim)⟩

theorem Pair.undo {w0 w : World} {n : Nat} {s r : Value} {F : Nat → Prop} (h : Pair w0 w n s r F) (m : Int) :
    ∃ k : Int, (Calls Try.prog 16 #[s, .int .i64 m] w fun e w1 => e = .returned (.int .i64 k) ∧ Fr F w w1 ∧
      Calls Try.prog 25 #[r, .int .i64 m] w1 fun e w2 => e = .returned (.int .i64 k) ∧ PS w0 w w2 n s r F) ∧
      (Calls Try.prog 25 #[r, .int .i64 m] w fun e w1 => e = .returned (.int .i64 k) ∧ Fr F w w1 ∧
      Calls Try.prog 16 #[s, .int .i64 m] w1 fun e w2 => e = .returned (.int .i64 k) ∧ PS w0 w w2 n s r F) := by
  rcases h with ⟨rfl, rfl, h3, h4⟩ | ⟨S, L, M, b, rfl, rfl, h⟩
  · have hend : PS w0 w w n (.pointer none) (.pointer none) F := ⟨F, .inl ⟨rfl, rfl, h3, h4⟩, Fr.refl _ _⟩
    refine ⟨1, (Undo_bad _ w m (valid_nil w)).mono ?_, (RUndo_nil w m).mono ?_⟩
    · rintro e w1 ⟨rfl, rfl⟩
      refine ⟨rfl, Fr.refl _ _, (RUndo_nil w m).mono ?_⟩
      rintro e w2 ⟨rfl, rfl⟩
      exact ⟨rfl, hend⟩
    · rintro e w1 ⟨rfl, rfl⟩
      refine ⟨rfl, Fr.refl _ _, (Undo_bad _ w m (valid_nil w)).mono ?_⟩
      rintro e w2 ⟨rfl, rfl⟩
      exact ⟨rfl, hend⟩
  · by_cases hm : m < 0 ∨ S.log.length < m
    · have hend : PS w0 w w n (.pointer (some ⟨L.b, 0, none⟩)) (.pointer (some ⟨b, 0, none⟩)) F := ⟨F, .inr ⟨S, L, M, b, rfl, rfl, h⟩, Fr.refl _ _⟩
      obtain ⟨v, ap, cp, vs, hR⟩ := h.hR
      refine ⟨3, (Undo_out L n _ _ S.log w h.hS m hm).mono ?_, (RUndo_out hR m hm).mono ?_⟩
      · rintro e w1 ⟨rfl, rfl⟩
        refine ⟨rfl, Fr.refl _ _, (RUndo_out hR m hm).mono ?_⟩
        rintro e w2 ⟨rfl, rfl⟩
        exact ⟨rfl, hend⟩
      · rintro e w1 ⟨rfl, rfl⟩
        refine ⟨rfl, Fr.refl _ _, (Undo_out L n _ _ S.log w h.hS m hm).mono ?_⟩
        rintro e w2 ⟨rfl, rfl⟩
        exact ⟨rfl, hend⟩
    · obtain ⟨q, rfl⟩ : ∃ q : Nat, m = q := ⟨m.toNat, by omega⟩
      have hq : q ≤ S.log.length := by omega
      refine ⟨0, (h.hS.undo h.hO h.hn hq).mono ?_, ?_⟩
      · rintro e w1 ⟨rfl, hS1, hv⟩
        obtain ⟨v, ap, cp, vs, hR1⟩ := h.ref_keep hv
        refine ⟨rfl, hv.fr.mono (fun k _ hk => (h.hL k hk).1), (RUndo_in hR1 h.hO h.hn q hq).mono ?_⟩
        rintro e w2 ⟨rfl, hr⟩
        obtain ⟨M', F', hB, hf, hb⟩ := h.then_ref hv hS1 hr (h.hO.back hq)
        exact ⟨rfl, F', .inr ⟨_, L, M', b, rfl, rfl, hB⟩, hf⟩
      · obtain ⟨v, ap, cp, vs, hR⟩ := h.hR
        refine (RUndo_in hR h.hO h.hn q hq).mono ?_
        rintro e w1 ⟨rfl, hr⟩
        have hf1 : Fr M w w1 := by obtain ⟨_, _, hf, _⟩ := hr; exact hf
        refine ⟨rfl, hf1.mono (fun k _ hk => h.hM k hk), ((h.sets_keep hr).undo h.hO h.hn hq).mono ?_⟩
        rintro e w2 ⟨rfl, hS2, hv⟩
        obtain ⟨M', F', hB, hf, hb⟩ := h.then_sets hr hv hS2 (h.hO.back hq)
        exact ⟨rfl, F', .inr ⟨_, L, M', b, rfl, rfl, hB⟩, hf⟩

/-- A slice of pairs that is older than w0. -/
def PairsAt (w : World) (v : Value) : Prop :=
  ∃ (ao : Option Addr) (m c : Nat) (xs ys : Nat → Int), v = .slice ao m c ∧ m ≤ maxLen ∧ ∀ i, i < m → ∃ g o, ao = some ⟨g, o, none⟩ ∧ w.cell? ⟨g, o + i * 2, none⟩ = some (.int .i64 (xs i)) ∧ w.cell? ⟨g, o + i * 2 + 1, none⟩ = some (.int .i64 (ys i))

theorem Pair.trial {w0 w : World} {n : Nat} {s r : Value} {F : Nat → Prop} (h : Pair w0 w n s r F) {ao : Option Addr} {m c : Nat} {xs ys : Nat → Int} (hm : m ≤ 60)
    (hc : ∀ i, i < m → ∃ g o, ao = some ⟨g, o, none⟩ ∧ w0.cell? ⟨g, o + i * 2, none⟩ = some (.int .i64 (xs i)) ∧ w0.cell? ⟨g, o + i * 2 + 1, none⟩ = some (.int .i64 (ys i))) :
    ∃ (x y z k : Int), Calls Try.prog 26 #[s, .slice ao m c] w fun e w1 => e = .returned (.tuple #[.agg #[.int .i64 x, .int .i64 y, .int .i64 z], .int .i64 k]) ∧ Fr F w w1 ∧
      ∀ w1', Same' w1 w1' → Calls Try.prog 27 #[r, .slice ao m c] w1' fun e w2 => e = .returned (.tuple #[.agg #[.int .i64 x, .int .i64 y, .int .i64 z], .int .i64 k]) ∧ Same' w1' w2 ∧ PS w0 w w2 n s r F := by
  rcases h with ⟨rfl, rfl, h3, h4⟩ | ⟨S, L, M, b, rfl, rfl, h⟩
  · refine ⟨0, 0, 0, 1, (Trial_bad _ w ao m c (fun w => valid_nil w)).mono ?_⟩
    rintro e w1 ⟨rfl, hf⟩
    refine ⟨rfl, hf.mono (fun _ _ h => h.elim), fun w1' hf' => (RTrial_nil w1' ao m c).mono ?_⟩
    rintro e w2 ⟨rfl, hf2⟩
    exact ⟨rfl, hf2, F, .inl ⟨rfl, rfl, h3, ((h4.trans hf).trans hf').trans hf2⟩, ((hf.trans hf').trans hf2).mono (fun _ _ h => h.elim)⟩
  · have hcell : 0 < m → ∃ g o, ao = some ⟨g, o, none⟩ ∧ g < w0.heap.size ∧ ∀ i, i < m → w0.cell? ⟨g, o + i * 2, none⟩ = some (.int .i64 (xs i)) ∧ w0.cell? ⟨g, o + i * 2 + 1, none⟩ = some (.int .i64 (ys i)) := by
      intro h0
      obtain ⟨g, o, rfl, h1, h2⟩ := hc 0 h0
      refine ⟨g, o, rfl, block_lt_of_cell h1, fun i hi => ?_⟩
      obtain ⟨g', o', e, q⟩ := hc i hi
      simp only [Option.some.injEq, Addr.mk.injEq, and_true] at e
      obtain ⟨rfl, rfl⟩ := e
      exact q
    have hat : ∀ w', Same' w0 w' → 0 < m → ∃ g o, ao = some ⟨g, o, none⟩ ∧ g < w0.heap.size ∧ ∀ i, i < m → w'.cell? ⟨g, o + i * 2, none⟩ = some (.int .i64 (xs i)) ∧ w'.cell? ⟨g, o + i * 2 + 1, none⟩ = some (.int .i64 (ys i)) := by
      intro w' hf h0
      obtain ⟨g, o, rfl, hg, hq⟩ := hcell h0
      exact ⟨g, o, rfl, hg, fun i hi => ⟨(hf.cell hg id).trans (hq i hi).1, (hf.cell hg id).trans (hq i hi).2⟩⟩
    obtain ⟨x, y, z, k, hv⟩ : ∃ x y z k : Int, trialV n S m xs ys = .tuple #[.agg #[.int .i64 x, .int .i64 y, .int .i64 z], .int .i64 k] := by
      unfold trialV
      split
      · exact ⟨_, _, _, _, rfl⟩
      · exact ⟨_, _, _, _, rfl⟩
    refine ⟨x, y, z, k, (Trial_at h.hS h.hO h.hn ao m c xs ys (by omega) (fun h0 => by
      obtain ⟨g, o, e, hg, hq⟩ := hat w h.f0 h0
      exact ⟨g, o, e, fun hk => by have := (h.hF g (h.hL g hk).1).1; omega, hq⟩)).mono ?_⟩
    rintro e w1 ⟨rfl, L1, hS1, hmv⟩
    refine ⟨by rw [hv], hmv.fr.mono (fun k _ hk => (h.hL k hk).1), fun w1' hf' => ?_⟩
    have hmv' := hmv.then hf'
    have hS1' := hS1.same hf'
    have hR1 := h.ref_keep hmv'
    obtain ⟨v, ap, cp, vs, hR1'⟩ := hR1
    have hf01 : Same' w0 w1' := h.f0.trans' hmv'.fr (fun k hk hm' => by have := (h.hF k (h.hL k hm').1).1; omega)
    refine (RTrial_at hR1' h.hO h.hn ao m c xs ys (by omega) (fun h0 => by
      obtain ⟨g, o, e, hg, hq⟩ := hat w1' hf01 h0
      exact ⟨g, o, e, hq⟩)).mono ?_
    rintro e w2 ⟨rfl, hf2⟩
    refine ⟨by rw [h.hO.trial_eq, hv], hf2, ?_⟩
    obtain ⟨M', F', hB, hf, hb⟩ := h.then_ref hmv' hS1' (w2 := w2) ⟨M, RefAt.same ⟨v, ap, cp, vs, hR1'⟩ hf2, hf2.mono (fun _ _ h => h.elim), fun _ h => .inl h⟩ h.hO
    exact ⟨F', .inr ⟨_, L1, M', b, by rw [hb], rfl, hB⟩, hf⟩

theorem SetsS.union_any {w : World} {L : Lay} {n : Nat} {S : St} (hS : SetsS w L n S) (hO : S.Ok n) (hn : n ≤ 65536) (x y : Int) :
    Calls Try.prog 23 #[.pointer (some ⟨L.b, 0, none⟩), .int .i64 x, .int .i64 y] w fun e w' => (∃ c k, e = .returned (.tuple #[.bool c, .int .i64 k])) ∧ ∃ S' L', SetsS w' L' n S' ∧ S'.Ok n ∧ Mv w w' L L' := by
  by_cases hi : in2 n x y = true
  · obtain ⟨a, c, rfl, rfl, ha, hc⟩ := in2_nat hi
    refine (hS.union hO hn ha hc).mono ?_
    rintro e w1 ⟨rfl, L1, hS1, hv⟩
    exact ⟨⟨_, _, rfl⟩, _, L1, hS1, hO.uni ha hc, hv⟩
  · refine (Union_out L n _ _ S.log w hS hn x y (Bool.eq_false_iff.2 hi)).mono ?_
    rintro e w1 ⟨rfl, hf⟩
    exact ⟨⟨_, _, rfl⟩, S, L, hS.same hf, hO, Mv.same L hf⟩

theorem SetsS.undo_any {w : World} {L : Lay} {n : Nat} {S : St} (hS : SetsS w L n S) (hO : S.Ok n) (hn : n ≤ 65536) (m : Int) :
    Calls Try.prog 16 #[.pointer (some ⟨L.b, 0, none⟩), .int .i64 m] w fun e w' => (∃ k, e = .returned (.int .i64 k)) ∧ Fr L.mem w w' := by
  by_cases hm : m < 0 ∨ S.log.length < m
  · refine (Undo_out L n _ _ S.log w hS m hm).mono ?_
    rintro e w1 ⟨rfl, rfl⟩
    exact ⟨⟨_, rfl⟩, Fr.refl _ _⟩
  · obtain ⟨q, rfl⟩ : ∃ q : Nat, m = q := ⟨m.toNat, by omega⟩
    refine (hS.undo hO hn (by omega)).mono ?_
    rintro e w1 ⟨rfl, hS1, hv⟩
    exact ⟨⟨_, rfl⟩, hv.fr⟩

theorem Pair.copy {w0 w : World} {n : Nat} {s r : Value} {F : Nat → Prop} (h : Pair w0 w n s r F) (x y : Int) :
    Calls Try.prog 28 #[s] w fun e w1 => ∃ to, e = .returned (.pointer to) ∧ Calls Try.prog 29 #[r] w1 fun e w2 => ∃ uo, e = .returned (.pointer uo) ∧ Fr F w w2 ∧
      Calls Try.prog 23 #[s, .int .i64 0, .int .i64 x] w2 fun e w3 => (∃ c k, e = .returned (.tuple #[.bool c, .int .i64 k])) ∧ Fr F w w3 ∧
      Calls Try.prog 16 #[s, .int .i64 y] w3 fun e w4 => (∃ k, e = .returned (.int .i64 k)) ∧ PS w0 w w4 n (.pointer to) (.pointer uo) F := by
  rcases h with ⟨rfl, rfl, h3, h4⟩ | ⟨S, L, M, b, rfl, rfl, h⟩
  · refine (Copy_not _ w (Bad.nil w)).mono ?_
    rintro e w1 ⟨rfl, rfl⟩
    refine ⟨none, rfl, (RCopy_nil w).mono ?_⟩
    rintro e w2 ⟨rfl, rfl⟩
    refine ⟨none, rfl, Fr.refl _ _, (Union_bad _ w 0 x (valid_nil w)).mono ?_⟩
    rintro e w3 ⟨rfl, rfl⟩
    refine ⟨⟨_, _, rfl⟩, Fr.refl _ _, (Undo_bad _ w y (valid_nil w)).mono ?_⟩
    rintro e w4 ⟨rfl, rfl⟩
    exact ⟨⟨_, rfl⟩, F, .inl ⟨rfl, rfl, h3, h4⟩, Fr.refl _ _⟩
  · refine (Copy_at L n _ _ S.log w h.hS h.hn (by have := h.hO.loglen; have := h.hn; omega)).mono ?_
    rintro e w1 ⟨K, rfl, hK, hf1, hnew⟩
    have h1 := h.same hf1
    obtain ⟨v, ap, cp, vs, hR1⟩ := h1.hR
    refine ⟨some ⟨K.b, 0, none⟩, rfl, (RCopy_at hR1 h.hO h.hn).mono ?_⟩
    rintro e w2 ⟨b', rfl, hR2, hf2⟩
    have h2 := h1.same hf2
    refine ⟨some ⟨b', 0, none⟩, rfl, (hf1.trans hf2).mono (fun _ _ h => h.elim), (h2.hS.union_any h.hO h.hn 0 x).mono ?_⟩
    rintro e w3 ⟨⟨c, k, rfl⟩, S3, L3, hS3, hO3, hv3⟩
    have hfw3 : Fr F w w3 := ((hf1.trans hf2).mono (fun _ _ h => h.elim)).trans' hv3.fr (fun k _ hk => (h.hL k hk).1)
    refine ⟨⟨c, k, rfl⟩, hfw3, ?_⟩
    have hcall := hS3.undo_any hO3 h.hn y
    rw [hv3.b] at hcall
    refine hcall.mono ?_
    rintro e w4 ⟨hk, hf4⟩
    refine ⟨hk, ?_⟩
    have hf24 : Fr L.mem w2 w4 := hv3.fr.trans' hf4 (fun k hk hm => (hv3.mem k hm).resolve_right (by omega))
    have hltL := SetsAt.memlt h.hS
    have hltK := SetsAt.memlt hK
    have s1 := hf1.size
    have s2 := hf2.size
    have s3 := hf24.size
    have s0 := h.f0.size
    have hKL : ∀ k, K.mem k → ¬ L.mem k := fun k hk hl => by have := hltL k hl; have := hnew k hk; omega
    have hML : ∀ k, (M k ∨ w1.heap.size ≤ k) → ¬ L.mem k := by
      rintro k (hk | hk) hl
      · exact (h.hL k hl).2 hk
      · have := hltL k hl
        omega
    refine ⟨fun k => K.mem k ∨ ((M k ∨ w1.heap.size ≤ k) ∧ k < w2.heap.size), .inr ⟨S, K, fun k => (M k ∨ w1.heap.size ≤ k) ∧ k < w2.heap.size, b', rfl, rfl, ?_, ?_, ?_, ?_, h.hO, h.hn, ?_, fun k hk => .inr hk⟩, ?_⟩
    · rintro k (hk | ⟨hk | hk, hk2⟩)
      · have := hnew k hk
        have := hltK k hk
        exact ⟨by omega, by omega⟩
      · have := (h.hF k (h.hM k hk)).1
        exact ⟨this, by omega⟩
      · exact ⟨by omega, by omega⟩
    · exact ((h.f0.trans hf1).trans hf2).trans' hf24 (fun k hk hm => by have := (h.hF k (h.hL k hm).1).1; omega)
    · exact (SetsS.same (S := S) hK hf2).keep hf24 hKL
    · exact hR2.clip.keep hf24 (fun k hk => hML k hk.1)
    · intro k hk
      refine ⟨.inl hk, ?_⟩
      rintro ⟨hk' | hk', _⟩
      · have := (h.hF k (h.hM k hk')).2
        have := hnew k hk
        omega
      · have := hltK k hk
        omega
    · exact ((hf1.trans hf2).mono (fun _ _ h => h.elim)).trans' hf24 (fun k _ hk => (h.hL k hk).1)

end Go.Proofs.Ytiaddgagncmbeaa
