/- Arguments opened: a slice of steps. -/
import Derived.Test.YtiaddgagncmbeaaG3
import Derived.Test.YtiaddgagncmbeaaO
namespace Go.Proofs.Ytiaddgagncmbeaa
open Go.RowKit Go.ChangeShapes Go.WideShapes Go.Deep

theorem open_pairs_cells {H : Type} {enc : TypeId × Value → H} {w : World} {cs : List Value} {x : DataW H × List MemPlace} {held : Bool} {fuel : Nat}
    (hf : DataW.trod enc Try.prog w 0 (fun _ => true) held fuel 46 cs = some x) : ∃ v, cs = [v] ∧ PairsAt w v := by
  have h := hf
  rcases open_slice Try.underlying46 hf with ⟨hcs, _⟩ | ⟨ad, len, cap, m, fl, D, Pl, hcs, _, hl, hm, hmm, _, hx⟩
  · exact ⟨_, hcs, none, 0, 0, fun _ => 0, fun _ => 0, rfl, Nat.zero_le _, fun i hi => by omega⟩
  · refine ⟨_, hcs, ?_⟩
    obtain ⟨ao, n, c, xs, ys, hv, hn, hc⟩ := open_pairs (enc := enc) (P := Try.prog) (w := w) (t := 46) (e := 62) (ei := 3) (k := .i64) (v := .slice (some ad) len cap) (d := x.1) (ps := x.2) (held := held) Try.underlying46 Try.underlying62 Try.underlying3 (by kernel_rfl) (by kernel_rfl) ⟨_, _, _, rfl⟩ ⟨fuel, by rw [hcs] at h; simpa [Value.cells] using h⟩
    exact ⟨ao, n, c, xs, ys, hv, hn, fun i hi => by
      obtain ⟨g, o, h1, h2, h3, _, _⟩ := hc i hi
      exact ⟨g, o, h1, h2, h3⟩⟩

/-- A slice of steps. -/
def StepsAt (w : World) (v : Value) (n : Nat) (D A B : Nat → Int) (V : Nat → Value) : Prop :=
  ∃ ao c, v = .slice ao n c ∧ ∀ i, i < n → ∃ g o, ao = some ⟨g, o, none⟩ ∧ w.cell? ⟨g, o + i * 4, none⟩ = some (.int .i64 (D i)) ∧ w.cell? ⟨g, o + i * 4 + 1, none⟩ = some (.int .i64 (A i)) ∧
    w.cell? ⟨g, o + i * 4 + 2, none⟩ = some (.int .i64 (B i)) ∧ w.cell? ⟨g, o + i * 4 + 3, none⟩ = some (V i) ∧ PairsAt w (V i)

theorem trod_struct4 {H : Type} {enc : TypeId × Value → H} {P : Program} {w : World} {base : Nat} {spare : Nat → Bool} {held : Bool} {t : TypeId} {f0 f1 f2 f3 : Field} {fuel : Nat} {cs : List Value} {x : DataW H × List MemPlace} (ht : P.underlying t = some (.struct #[f0, f1, f2, f3])) (h : DataW.trod enc P w base spare held fuel t cs = some x) :
    ∃ y0 y1 y2 y3 n, cs.length = P.cellsOf t ∧ DataW.trod enc P w base spare held n f0.type ((cs.drop f0.offset).take (P.cellsOf f0.type)) = some y0 ∧
      DataW.trod enc P w base spare held n f1.type ((cs.drop f1.offset).take (P.cellsOf f1.type)) = some y1 ∧ DataW.trod enc P w base spare held n f2.type ((cs.drop f2.offset).take (P.cellsOf f2.type)) = some y2 ∧
      DataW.trod enc P w base spare held n f3.type ((cs.drop f3.offset).take (P.cellsOf f3.type)) = some y3 := by
  obtain ⟨xs, n, _, rfl, hl, hlen, hf⟩ := DataW.trod_struct ht h
  match xs, hlen with
  | [y0, y1, y2, y3], _ => exact ⟨y0, y1, y2, y3, n, hl, by simpa using hf 0 f0 rfl, by simpa using hf 1 f1 rfl, by simpa using hf 2 f2 rfl, by simpa using hf 3 f3 rfl⟩

theorem open_steps {H : Type} {enc : TypeId × Value → H} {w : World} {v : Value} {d : DataW H} {ps : List MemPlace} {held : Bool}
    (hv : ∃ a n c, v = .slice a n c) (h : DataW.Trod enc Try.prog w 0 (fun _ => true) held 45 v d ps) :
    ∃ (n : Nat) (D A B : Nat → Int) (V : Nat → Value), StepsAt w v n D A B V ∧ n ≤ maxLen := by
  obtain ⟨a, n, c, rfl⟩ := hv
  obtain ⟨fuel, hf⟩ := h
  have h48 : Try.prog.cellsOf 48 = 4 := by kernel_rfl
  have h3 : Try.prog.cellsOf 3 = 1 := by kernel_rfl
  have h46 : Try.prog.cellsOf 46 = 1 := by kernel_rfl
  rcases open_slice Try.underlying45 hf with ⟨hcs, _⟩ | ⟨ad, len, cap, m, fl, D, Pl, hcs, _, hl, hm, hmm, _, hx⟩
  · simp [Value.cells] at hcs
    obtain ⟨rfl, rfl, rfl⟩ := hcs
    exact ⟨0, fun _ => 0, fun _ => 0, fun _ => 0, fun _ => undef, ⟨none, 0, rfl, fun i hi => by omega⟩, Nat.zero_le _⟩
  · simp [Value.cells] at hcs
    obtain ⟨rfl, rfl, rfl⟩ := hcs
    have hmc : m = c := by simpa using hmm
    have key : ∀ i, i < n → ∃ q : (Int × Int) × (Int × Value), w.cell? (ad.add (i * 4)) = some (.int .i64 q.1.1) ∧ w.cell? ((ad.add (i * 4)).add 1) = some (.int .i64 q.1.2) ∧ w.cell? ((ad.add (i * 4)).add 2) = some (.int .i64 q.2.1) ∧
        w.cell? ((ad.add (i * 4)).add 3) = some q.2.2 ∧ PairsAt w q.2.2 := by
      intro i hi
      obtain ⟨cs', hcell, htr⟩ := hx i (by omega)
      rw [h48] at hcell
      obtain ⟨_, hlen, hc⟩ := World.cells?_some hcell
      obtain ⟨y0, y1, y2, y3, k, _, e0, e1, e2, e3⟩ := trod_struct4 Try.underlying48 htr
      match cs', hlen with
      | [c0, c1, c2, c3], _ =>
        simp only [h3, h46] at e0 e1 e2 e3
        obtain ⟨a0, b0, _, _⟩ := DataW.trod_int Try.underlying3 e0
        obtain ⟨a1, b1, _, _⟩ := DataW.trod_int Try.underlying3 e1
        obtain ⟨a2, b2, _, _⟩ := DataW.trod_int Try.underlying3 e2
        obtain ⟨u, b3, hp⟩ := open_pairs_cells e3
        have q0 := hc 0 (by omega)
        have q1 := hc 1 (by omega)
        have q2 := hc 2 (by omega)
        have q3 := hc 3 (by omega)
        simp at b0 b1 b2 b3
        subst b0 b1 b2 b3
        refine ⟨((a0, a1), (a2, c3)), ?_, ?_, ?_, ?_, hp⟩
        · simpa [Addr.add] using q0
        · simpa using q1
        · simpa using q2
        · simpa using q3
    obtain ⟨f, hfun⟩ := choose_lt (α := (Int × Int) × (Int × Value)) key
    refine ⟨n, fun i => (f i).1.1, fun i => (f i).1.2, fun i => (f i).2.1, fun i => (f i).2.2, ⟨some ad, c, rfl, fun i hi => ?_⟩, by omega⟩
    obtain ⟨b, o, s⟩ := ad
    obtain ⟨q0, q1, q2, q3, q4⟩ := hfun i hi
    have hs0 : s = none := by
      have := World.cell?_spot (hfun 0 (by omega)).1
      simpa [Addr.add] using this
    subst hs0
    refine ⟨b, o, rfl, ?_, ?_, ?_, ?_, q4⟩
    · simpa only [Addr.add_lit] using q0
    · simpa only [Addr.add_lit] using q1
    · simpa only [Addr.add_lit] using q2
    · simpa only [Addr.add_lit] using q3

end Go.Proofs.Ytiaddgagncmbeaa
