/- Arguments opened: a row of whole numbers. -/
import Derived.Test.YtneidejngbokcaaO
import Derived.Test.YtneidejngbokcaaL9
namespace Go.Proofs.Ytneidejngbokcaa
open Go.RowKit Go.ChangeShapes Go.WideShapes Go.Deep

theorem open_il {H : Type} {enc : TypeId × Value → H} {w : World} {v : Value} {d : DataW H} {ps : List MemPlace} {held : Bool}
    (hv : ∃ a n c, v = .slice a n c) (h : DataW.Trod enc Try.prog w 0 (fun _ => true) held 35 v d ps) :
    ∃ (ao : Option Addr) (n c : Nat) (f : Nat → Int), v = .slice ao n c ∧ n ≤ maxLen ∧ IlAt w ao n f := by
  obtain ⟨a, n, c, rfl⟩ := hv
  obtain ⟨fuel, hf⟩ := h
  rcases open_slice Try.underlying35 hf with ⟨hcs, _⟩ | ⟨ad, len, cap, m, fl, D, Pl, hcs, _, hl, hm, hmm, _, hx⟩
  · simp [Value.cells] at hcs
    obtain ⟨rfl, rfl, rfl⟩ := hcs
    exact ⟨none, 0, 0, fun _ => 0, rfl, Nat.zero_le _, fun i hi => by omega⟩
  · simp [Value.cells] at hcs
    obtain ⟨rfl, rfl, rfl⟩ := hcs
    have hmc : m = c := by simpa using hmm
    have h1 : Try.prog.cellsOf 21 = 1 := by kernel_rfl
    have key : ∀ i, i < n → ∃ x : Int, w.cell? (ad.add i) = some (.int .i32 x) := by
      intro i hi
      obtain ⟨cs', hcell, htr⟩ := hx i (by omega)
      rw [h1, Nat.mul_one] at hcell
      obtain ⟨_, hlen, hc⟩ := World.cells?_some hcell
      obtain ⟨x, rfl, _⟩ := DataW.trod_int Try.underlying21 htr
      have q0 := hc 0 (by omega)
      exact ⟨x, by simpa [Addr.add] using q0⟩
    obtain ⟨f, hfun⟩ := choose_lt (α := Int) key
    exact ⟨some ad, n, c, f, rfl, by omega, fun i hi => ⟨ad, rfl, hfun i hi⟩⟩

end Go.Proofs.Ytneidejngbokcaa
