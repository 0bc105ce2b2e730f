/- Arguments opened: what a reading of an argument tells of memory. -/
import Derived.Test.YtiaddgagncmbeaaW13
import Derived.ProofKit
import Derived.OpenShut
import Derived.Deep.Slices
namespace Go.Proofs.Ytiaddgagncmbeaa
open Go.RowKit Go.ChangeShapes Go.WideShapes Go.Deep

/-- A slice of pairs of whole numbers of kind k. -/
theorem open_pairs {H : Type} {enc : TypeId × Value → H} {P : Program} {w : World} {t e ei : TypeId} {k : IntKind} {v : Value} {d : DataW H} {ps : List MemPlace} {held : Bool}
    (ht : P.underlying t = some (.slice e)) (he : P.underlying e = some (.array 2 ei)) (hei : P.underlying ei = some (.int k)) (h1 : P.cellsOf ei = 1) (h2 : P.cellsOf e = 2)
    (hv : ∃ a n c, v = .slice a n c)
    (h : DataW.Trod enc P w 0 (fun _ => true) held t v d ps) :
    ∃ (ao : Option Addr) (n c : Nat) (xs ys : Nat → Int), v = .slice ao n c ∧ n ≤ maxLen ∧
      ∀ i, i < n → ∃ g o, ao = some ⟨g, o, none⟩ ∧ w.cell? ⟨g, o + i * 2, none⟩ = some (.int k (xs i)) ∧ w.cell? ⟨g, o + i * 2 + 1, none⟩ = some (.int k (ys i)) ∧ (Lit.int k (xs i)).wf = true ∧ (Lit.int k (ys i)).wf = true := by
  obtain ⟨a, n, c, rfl⟩ := hv
  obtain ⟨fuel, hf⟩ := h
  rcases open_slice ht hf with ⟨hcs, _⟩ | ⟨ad, len, cap, m, fl, D, Pl, hcs, _, hl, hm, hmm, _, hx⟩
  · simp [Value.cells] at hcs
    obtain ⟨rfl, rfl, rfl⟩ := hcs
    exact ⟨none, 0, 0, fun _ => 0, fun _ => 0, rfl, Nat.zero_le _, fun i hi => by omega⟩
  · simp [Value.cells] at hcs
    obtain ⟨rfl, rfl, rfl⟩ := hcs
    have hmc : m = c := by simpa using hmm
    have key : ∀ i, i < n → ∃ xy : Int × Int, w.cell? (ad.add (i * 2)) = some (.int k xy.1) ∧ w.cell? ((ad.add (i * 2)).add 1) = some (.int k xy.2) ∧ (Lit.int k xy.1).wf = true ∧ (Lit.int k xy.2).wf = true := by
      intro i hi
      obtain ⟨cs', hcell, htr⟩ := hx i (by omega)
      rw [h2] at hcell
      obtain ⟨_, hlen, hc⟩ := World.cells?_some hcell
      obtain ⟨xs, m', _, _, _, _, hel⟩ := DataW.trod_array he htr
      have e0 := hel 0 (by omega)
      have e1 := hel 1 (by omega)
      rw [h1] at e0 e1
      match cs', hlen with
      | [c0, c1], _ =>
        have x0 : xs[0]? = DataW.trod enc P w 0 (fun _ => true) held m' ei [c0] := by simpa using e0.symm
        have x1 : xs[1]? = DataW.trod enc P w 0 (fun _ => true) held m' ei [c1] := by simpa using e1.symm
        have hxl : xs.length = 2 := by assumption
        obtain ⟨a0, b0, _, w0⟩ := DataW.trod_int hei (x0.symm.trans (List.getElem?_eq_getElem (by omega)))
        obtain ⟨a1, b1, _, w1⟩ := DataW.trod_int hei (x1.symm.trans (List.getElem?_eq_getElem (by omega)))
        have q0 := hc 0 (by omega)
        have q1 := hc 1 (by omega)
        simp at b0 b1
        subst b0 b1
        refine ⟨(a0, a1), ?_, ?_, w0, w1⟩
        · simpa [Addr.add] using q0
        · simpa using q1
    obtain ⟨f, hfun⟩ := choose_lt (α := Int × Int) key
    refine ⟨some ad, n, c, fun i => (f i).1, fun i => (f i).2, rfl, by omega, fun i hi => ?_⟩
    obtain ⟨b, o, s⟩ := ad
    obtain ⟨q0, q1, q2, q3⟩ := hfun i hi
    have hs0 : s = none := by
      have := World.cell?_spot (hfun 0 (by omega)).1
      simpa [Addr.add] using this
    subst hs0
    refine ⟨b, o, rfl, ?_, ?_, q2, q3⟩
    · simpa only [Addr.add_lit] using q0
    · simpa only [Addr.add_lit] using q1

theorem open_slb {H : Type} {enc : TypeId × Value → H} {w : World} {v : Value} {d : DataW H} {ps : List MemPlace} {held : Bool}
    (hv : ∃ a n c, v = .slice a n c) (h : DataW.Trod enc Try.prog w 0 (fun _ => true) held 22 v d ps) :
    ∃ (n : Nat) (xs ys : Nat → Nat), SlB w v n xs ys ∧ n ≤ 9223372036854775807 := by
  obtain ⟨ao, n, c, xs, ys, rfl, hn, hc⟩ := open_pairs Try.underlying22 Try.underlying34 Try.underlying5 (by kernel_rfl) (by kernel_rfl) hv h
  refine ⟨n, fun i => (xs i).toNat, fun i => (ys i).toNat, ⟨ao, c, rfl, fun i hi => ?_⟩, by unfold maxLen at hn; omega⟩
  obtain ⟨g, o, hg, h1, h2, w1, w2⟩ := hc i hi
  have b1 := bounds_u8 w1
  have b2 := bounds_u8 w2
  refine ⟨g, o, hg, ?_, ?_, by show (xs i).toNat < 256; omega, by show (ys i).toNat < 256; omega⟩
  · rw [h1, Int.toNat_of_nonneg b1.1]
  · rw [h2, Int.toNat_of_nonneg b2.1]

end Go.Proofs.Ytiaddgagncmbeaa
