/- Arguments opened: what is asked (a struct of three numbers, keys and a limit), slices of numbers. -/
import Derived.Test.YthpghcidocjanaaDoorO
import Derived.Test.YthpghcidocjanaaDoorT12
import Derived.Deep.Fields
namespace Go.Proofs.YthpghcidocjanaaDoor
open Go.RowKit Go.ChangeShapes Go.WideShapes Go.ChangeAt Go.Deep

/-- A slice of numbers of kind k. -/
theorem open_nums {H : Type} {enc : TypeId × Value → H} {w : World} {t e : TypeId} {k : IntKind} (ht : Tryd.prog.underlying t = some (.slice e)) (he : Tryd.prog.underlying e = some (.int k)) (hc : Tryd.prog.cellsOf e = 1)
    {v : Value} {d : DataW H} {ps : List MemPlace} {held : Bool}
    (hv : ∃ a n c, v = .slice a n c) (h : DataW.Trod enc Tryd.prog w 0 (fun _ => true) held t v d ps) :
    ∃ (ao : Option Addr) (n c : Nat) (f : Nat → Int), v = .slice ao n c ∧ n ≤ c ∧ c ≤ 9223372036854775807 ∧ ∀ i, i < n → ∃ ad, ao = some ad ∧ w.cell? (ad.add i) = some (.int k (f i)) ∧ (Lit.int k (f i)).wf = true := by
  obtain ⟨a, n, c, rfl⟩ := hv
  obtain ⟨fuel, hf⟩ := h
  rcases open_slice ht hf with ⟨hcs, _⟩ | ⟨ad, len, cap, m, fl, D, Pl, hcs, _, hl, hm, hmm, _, hx⟩
  · simp [Value.cells] at hcs
    obtain ⟨rfl, rfl, rfl⟩ := hcs
    exact ⟨none, 0, 0, fun _ => 0, rfl, Nat.le_refl _, by omega, fun i hi => by omega⟩
  · simp [Value.cells] at hcs
    obtain ⟨rfl, rfl, rfl⟩ := hcs
    have hmc : m = c := by simpa using hmm
    have key : ∀ i, i < n → ∃ z : Int, w.cell? (ad.add i) = some (.int k z) ∧ (Lit.int k z).wf = true := by
      intro i hi
      obtain ⟨cs', hcell, htr⟩ := hx i (by omega)
      rw [hc] at hcell
      obtain ⟨_, hlen, hc'⟩ := World.cells?_some hcell
      match cs', hlen with
      | [c0], _ =>
        obtain ⟨z, hz, _, hwf⟩ := DataW.trod_int he htr
        have q0 := hc' 0 (by simp)
        simp at hz
        subst hz
        refine ⟨z, ?_, hwf⟩
        simpa [Addr.add] using q0
    obtain ⟨f, hfun⟩ := choose_lt (α := Int) key
    exact ⟨some ad, n, c, f, rfl, by omega, by unfold maxLen at *; omega, fun i hi => ⟨ad, rfl, hfun i hi⟩⟩

/-- The fields of what is asked. -/
noncomputable def fs36 : Array Field := match Tryd.prog.underlying 36 with
  | some (.struct fs) => fs
  | _ => #[]
theorem h36 : Tryd.prog.underlying 36 = some (.struct fs36) := by kernel_rfl
theorem one36 : oneCellFields Tryd.prog fs36 = true := by kernel_rfl
theorem size36 : fs36.size = 5 := by kernel_rfl
theorem type36 : (fs36.map fun f : Field => f.type) = #[3, 3, 3, 34, 2] := by kernel_rfl
theorem cells36 : Tryd.prog.cellsOf 36 = 5 := by kernel_rfl

/-- What is asked. -/
theorem open_ask {H : Type} {enc : TypeId × Value → H} {w : World} {base : Nat} {v : Value} {d : DataW H} {ps : List MemPlace} {held : Bool}
    (hv : Value.okWide Tryd.prog w .any base 36 v) (h : DataW.Trod enc Tryd.prog w 0 (fun _ => true) held 36 v d ps) :
    ∃ (A B K Mx : Int) (ko : Option Addr) (kn kc : Nat) (key : Nat → Int), v = .agg #[.int .i64 A, .int .i64 B, .int .i64 K, .slice ko kn kc, .int .i64 Mx] ∧ kn ≤ kc ∧ kc ≤ 9223372036854775807 ∧ KeyAt w ko kn key ∧
      (Lit.int .i64 A).wf = true ∧ (Lit.int .i64 B).wf = true ∧ (Lit.int .i64 K).wf = true ∧ (Lit.int .i64 Mx).wf = true ∧ ∀ i, i < kn → (Lit.int .i64 (key i)).wf = true := by
  have hs := h36
  have hone := one36
  have hfs := size36
  have hty := type36
  generalize fs36 = fs at *
  obtain ⟨cs, rfl, hsz⟩ := okWide_struct hs hv
  obtain ⟨l⟩ := cs
  match l, hsz.trans cells36 with
  | [x0, x1, x2, x3, x4], _ =>
    obtain ⟨fuel, hf⟩ := h
    obtain ⟨xs, n, _, hx, _, hlen, hg⟩ := DataW.trod_struct hs hf
    have fld : ∀ (i : Nat) (f : Field), fs[i]? = some f → ∀ c, ([x0, x1, x2, x3, x4] : List Value)[i]? = some c → ∃ y, DataW.trod enc Tryd.prog w 0 (fun _ => true) held n f.type [c] = some y := by
      intro i f hfi c hci
      obtain ⟨o, k⟩ := hone_of hone i f hfi
      have h1 := hg i f hfi
      rw [o, k] at h1
      have hi5 : i < fs.size := (Array.getElem?_eq_some_iff.1 hfi).1
      have hi : i < ([x0, x1, x2, x3, x4] : List Value).length := by simp; omega
      have e : (([x0, x1, x2, x3, x4] : List Value).drop i).take 1 = [c] := by
        rw [List.drop_eq_getElem_cons hi]
        rw [List.getElem?_eq_getElem hi] at hci
        simp at hci
        simp [hci]
      have e' : ((Value.agg #[x0, x1, x2, x3, x4]).cells.toList.drop i).take 1 = [c] := e
      rw [e', List.getElem?_eq_getElem (by omega)] at h1
      exact ⟨_, h1⟩
    have ft : ∀ (i : Nat) (t : TypeId), (#[3, 3, 3, 34, 2] : Array TypeId)[i]? = some t → ∃ f : Field, fs[i]? = some f ∧ f.type = t := by
      intro i t ht
      rw [← hty, Array.getElem?_map] at ht
      cases hfi : fs[i]? with
      | none => rw [hfi] at ht; cases ht
      | some f => rw [hfi] at ht; exact ⟨f, rfl, by simpa using ht⟩
    obtain ⟨f0, e0, t0⟩ := ft 0 3 rfl
    obtain ⟨f1, e1, t1⟩ := ft 1 3 rfl
    obtain ⟨f2, e2, t2⟩ := ft 2 3 rfl
    obtain ⟨f3, e3, t3⟩ := ft 3 34 rfl
    obtain ⟨f4, e4, t4⟩ := ft 4 2 rfl
    obtain ⟨y0, z0⟩ := fld 0 f0 e0 x0 rfl
    obtain ⟨y1, z1⟩ := fld 1 f1 e1 x1 rfl
    obtain ⟨y2, z2⟩ := fld 2 f2 e2 x2 rfl
    obtain ⟨y3, z3⟩ := fld 3 f3 e3 x3 rfl
    obtain ⟨y4, z4⟩ := fld 4 f4 e4 x4 rfl
    rw [t0] at z0
    rw [t1] at z1
    rw [t2] at z2
    rw [t3] at z3
    rw [t4] at z4
    obtain ⟨A, q0, _, w0⟩ := DataW.trod_int Tryd.underlying3 z0
    obtain ⟨B, q1, _, w1⟩ := DataW.trod_int Tryd.underlying3 z1
    obtain ⟨K, q2, _, w2⟩ := DataW.trod_int Tryd.underlying3 z2
    obtain ⟨Mx, q4, _, w4⟩ := DataW.trod_int Tryd.underlying2 z4
    simp only [List.cons.injEq, and_true] at q0 q1 q2 q4
    subst q0 q1 q2 q4
    have hsl : ∃ a n c, x3 = .slice a n c := by
      rcases open_slice Tryd.underlying34 z3 with ⟨hcs, _⟩ | ⟨ad, len, cap, m, fl, D, Pl, hcs, _⟩
      · exact ⟨_, _, _, by simpa using hcs⟩
      · exact ⟨_, _, _, by simpa using hcs⟩
    have hcell : x3.cells.toList = [x3] := by
      obtain ⟨a, n, c, rfl⟩ := hsl
      rfl
    have hd3 : DataW.Trod enc Tryd.prog w 0 (fun _ => true) held 34 x3 y3.1 y3.2 := ⟨n, by rw [hcell]; exact z3⟩
    obtain ⟨ko, kn, kc, key, rfl, k1, k2, k3⟩ := open_nums Tryd.underlying34 Tryd.underlying2 (by kernel_rfl) hsl hd3
    exact ⟨A, B, K, Mx, ko, kn, kc, key, rfl, k1, k2, fun i hi => by obtain ⟨ad, a1, a2, _⟩ := k3 i hi; exact ⟨ad, a1, a2⟩, w0, w1, w2, w4, fun i hi => by obtain ⟨ad, _, _, a3⟩ := k3 i hi; exact a3⟩

end Go.Proofs.YthpghcidocjanaaDoor
