/- The listed variables: from what they read as to the table's cells; a world in which they do; arguments opened. -/
import Derived.Test.YthpghcidocjanaaDoorT4
import Derived.Test.YthpghcidocjanaaDoorT18
import Derived.ProofKit
import Derived.OpenShut
import Derived.LaidLaws
import Derived.Handed
import Derived.Deep.Slices
namespace Go.Proofs.YthpghcidocjanaaDoor
open Go.RowKit Go.ChangeShapes Go.WideShapes Go.ChangeAt Go.Deep

/-- The two variables as the rows list them. -/
abbrev laidL : List (String × DataW Unit) := [("math/bits.deBruijn32tab", Rows.laid_math_bits_deBruijn32tab), ("math/bits.deBruijn64tab", Rows.laid_math_bits_deBruijn64tab)]

theorem own : ownKnob Tryd.prog.godebug = none := by kernel_rfl
theorem laidOut : laidOutB Tryd.prog = true := by kernel_rfl
theorem g32 : Tryd.prog.globalNamed "math/bits.deBruijn32tab" = some 0 := by kernel_rfl
theorem g64 : Tryd.prog.globalNamed "math/bits.deBruijn64tab" = some 1 := by kernel_rfl
theorem t64 : (Tryd.prog.globals[1]?).map (·.type) = some 78 := by kernel_rfl
theorem c5 : Tryd.prog.cellsOf 5 = 1 := by kernel_rfl

theorem tab_lits : (Rows.laid_math_bits_deBruijn64tab : DataW Unit) = .agg (tzTab.map fun n => .lit (.int .u8 (n : Nat))) := by rfl

theorem tz_of_laid {W : World} (h : laidMet Tryd.prog laidL W) : TzTab W := by
  obtain ⟨ps, ⟨g, t, cs, fuel, p, q, hg, ht, hvar, hd, ⟨g', t', cs', fuel', p', q', hg', ht', hvar', hd', _, _⟩, _⟩, _⟩ := h
  obtain rfl := Option.some.inj (g64.symm.trans hg')
  obtain rfl := Option.some.inj (t64.symm.trans ht')
  intro i hi
  rw [World.var?_cell hg' hvar' i]
  rw [tab_lits] at hd'
  obtain ⟨xs, m, _, hx, hlen, hxl, hel⟩ := DataW.trod_array Tryd.underlying78 hd'
  have hx1 : xs.map (·.1) = tzTab.map fun n => (DataW.lit (.int .u8 (n : Nat)) : DataW Unit) := by
    have := (Prod.mk.inj hx).1
    simpa using this.symm
  have he := hel i hi
  rw [c5, Nat.mul_one] at he
  have hil : i < xs.length := by omega
  rw [List.getElem?_eq_getElem hil] at he
  obtain ⟨z, hz, hz2, _⟩ := DataW.trod_int Tryd.underlying5 he
  have hz3 : (xs.map (·.1))[i]? = some (.lit (.int .u8 z)) := by
    rw [List.getElem?_map, List.getElem?_eq_getElem hil, hz2]
    rfl
  rw [hx1, List.getElem?_map] at hz3
  have hti : i < tzTab.length := hi
  rw [List.getElem?_eq_getElem hti] at hz3
  simp only [Option.map_some, Option.some.injEq, DataW.lit.injEq, Lit.int.injEq, true_and] at hz3
  have hc : cs'.toList[i]? = some (.int .u8 z) := by
    have := congrArg (fun l => l[0]?) hz
    simpa using this
  rw [Array.getElem?_toList] at hc
  rw [hc, ← hz3, List.getD_eq_getElem?_getD, List.getElem?_eq_getElem hti]
  rfl

def cells32 : Array Value := #[.int .u8 0, .int .u8 1, .int .u8 28, .int .u8 2, .int .u8 29, .int .u8 14, .int .u8 24, .int .u8 3, .int .u8 30, .int .u8 22, .int .u8 20, .int .u8 15, .int .u8 25, .int .u8 17, .int .u8 4, .int .u8 8, .int .u8 31, .int .u8 27, .int .u8 13, .int .u8 23, .int .u8 21, .int .u8 19, .int .u8 16, .int .u8 7, .int .u8 26, .int .u8 12, .int .u8 18, .int .u8 6, .int .u8 11, .int .u8 5, .int .u8 10, .int .u8 9]
def cells64 : Array Value := (tzTab.map fun n => Value.int .u8 (n : Nat)).toArray

/-- A world in which the two variables read so. -/
noncomputable def laidWorld (os : Os) : World :=
  let w0 := World.holding Tryd.prog os ⟨#[], #[], []⟩
  { w0 with heap := (w0.heap.modify 0 fun
      | .cells _ t frozen => .cells cells32 t frozen
      | o => o).modify 1 fun
      | .cells _ t frozen => .cells cells64 t frozen
      | o => o }

theorem laidWorld_met (os : Os) (args : Array Value) : laidMet Tryd.prog laidL ((laidWorld os).forCall (fun _ _ => 0) ⟨#[], args, []⟩).memory :=
  laidMet_of_run (ps := (List.range 32).map (MemPlace.cell 0) ++ (List.range 64).map (MemPlace.cell 1)) 8 (by kernel_rfl) (by kernel_rfl) (by kernel_rfl)

/-- A slice of bytes. -/
theorem open_bytes {H : Type} {enc : TypeId × Value → H} {w : World} {v : Value} {d : DataW H} {ps : List MemPlace} {held : Bool}
    (hv : ∃ a n c, v = .slice a n c) (h : DataW.Trod enc Tryd.prog w 0 (fun _ => true) held 22 v d ps) :
    ∃ (ao : Option Addr) (n c : Nat) (l : Nat → Nat), v = .slice ao n c ∧ n ≤ c ∧ c ≤ 9223372036854775807 ∧ ByAt w ao n l := by
  obtain ⟨a, n, c, rfl⟩ := hv
  obtain ⟨fuel, hf⟩ := h
  rcases open_slice Tryd.underlying22 hf with ⟨hcs, _⟩ | ⟨ad, len, cap, m, fl, D, Pl, hcs, _, hl, hm, hmm, _, hx⟩
  · simp [Value.cells] at hcs
    obtain ⟨rfl, rfl, rfl⟩ := hcs
    exact ⟨none, 0, 0, fun _ => 0, rfl, Nat.le_refl _, by omega, fun i hi => by omega⟩
  · simp [Value.cells] at hcs
    obtain ⟨rfl, rfl, rfl⟩ := hcs
    have hmc : m = c := by simpa using hmm
    have key : ∀ i, i < n → ∃ z : Nat, w.cell? (ad.add i) = some (.int .u8 (z : Nat)) ∧ z < 256 := by
      intro i hi
      obtain ⟨cs', hcell, htr⟩ := hx i (by omega)
      rw [c5] at hcell
      obtain ⟨_, hlen, hc⟩ := World.cells?_some hcell
      match cs', hlen with
      | [c0], _ =>
        obtain ⟨z, hz, _, hwf⟩ := DataW.trod_int Tryd.underlying5 htr
        have hb := bounds_u8 hwf
        have q0 := hc 0 (by simp)
        simp at hz
        subst hz
        refine ⟨z.toNat, ?_, by omega⟩
        rw [Int.toNat_of_nonneg hb.1]
        simpa [Addr.add] using q0
    obtain ⟨f, hfun⟩ := choose_lt (α := Nat) key
    exact ⟨some ad, n, c, f, rfl, by omega, by unfold maxLen at *; omega, fun i hi => ⟨ad, rfl, hfun i hi⟩⟩

end Go.Proofs.YthpghcidocjanaaDoor
