/- Arguments opened: a row of floats. -/
import Derived.Test.YtneidejngbokcaaD1
import Derived.ProofKit
import Derived.OpenShut
import Derived.Deep.Slices
namespace Go.Proofs.Ytneidejngbokcaa
open Go.RowKit Go.ChangeShapes Go.WideShapes Go.Deep

theorem trod_float {H : Type} {enc : TypeId × Value → H} {P : Program} {w : World} {base : Nat} {spare : Nat → Bool} {held : Bool} {fuel : Nat} {t : TypeId} {cs : List Value} {x : DataW H × List MemPlace} {k : FloatKind} (ht : P.underlying t = some (.float k)) (h : DataW.trod enc P w base spare held fuel t cs = some x) : ∃ n, cs = [.float k n] ∧ x = (.lit (.float k n), []) := by
  cases fuel with
  | zero => simp [DataW.trod] at h
  | succ n =>
    unfold DataW.trod at h
    rw [ht] at h
    split at h <;> simp_all

theorem open_fl {H : Type} {enc : TypeId × Value → H} {w : World} {v : Value} {d : DataW H} {ps : List MemPlace} {held : Bool}
    (hv : ∃ a n c, v = .slice a n c) (h : DataW.Trod enc Try.prog w 0 (fun _ => true) held 22 v d ps) :
    ∃ (ao : Option Addr) (n c : Nat) (f : Nat → Nat), v = .slice ao n c ∧ n ≤ maxLen ∧ FlAt w ao n f := by
  obtain ⟨a, n, c, rfl⟩ := hv
  obtain ⟨fuel, hf⟩ := h
  rcases open_slice Try.underlying22 hf with ⟨hcs, _⟩ | ⟨ad, len, cap, m, fl, D, Pl, hcs, _, hl, hm, hmm, _, hx⟩
  · simp [Value.cells] at hcs
    obtain ⟨rfl, rfl, rfl⟩ := hcs
    exact ⟨none, 0, 0, fun _ => 0, rfl, Nat.zero_le _, fun i hi => by omega⟩
  · simp [Value.cells] at hcs
    obtain ⟨rfl, rfl, rfl⟩ := hcs
    have hmc : m = c := by simpa using hmm
    have h1 : Try.prog.cellsOf 24 = 1 := by kernel_rfl
    have key : ∀ i, i < n → ∃ x : Nat, w.cell? (ad.add i) = some (.float .f64 x) := by
      intro i hi
      obtain ⟨cs', hcell, htr⟩ := hx i (by omega)
      rw [h1, Nat.mul_one] at hcell
      obtain ⟨_, hlen, hc⟩ := World.cells?_some hcell
      obtain ⟨x, rfl, _⟩ := trod_float Try.underlying24 htr
      have q0 := hc 0 (by omega)
      exact ⟨x, by simpa [Addr.add] using q0⟩
    obtain ⟨f, hfun⟩ := choose_lt (α := Nat) key
    exact ⟨some ad, n, c, f, rfl, by omega, fun i hi => ⟨ad, rfl, hfun i hi⟩⟩

end Go.Proofs.Ytneidejngbokcaa
