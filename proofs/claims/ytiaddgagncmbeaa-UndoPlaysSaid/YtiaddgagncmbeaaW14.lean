/- Copies of slices: append to an empty slice, within a region that draws its order. -/
import Derived.Test.YtiaddgagncmbeaaW13
import Derived.Test.YtiaddgagncmbeaaL2
import Derived.Deep.Upon
namespace Go.Proofs.Ytiaddgagncmbeaa
open Go.RowKit

/-- append to an empty slice: nothing old changes, and the copy lies in the block of the empty one or in a new one. -/
theorem run_copy {P : Program} (w : World) (t ty e : TypeId) (i : TypeInfo) (z : Value) (size bytes : Nat) (ht : P.underlying t = some (.slice e)) (hi : P.info? e = some i) (hz : i.zero = some z)
    (hsize : i.size = size) (hby : i.bytes = bytes) (hzs : z.cells.size = size) (hsz : 0 < size)
    (g : Nat) (hown : w.ownsRow 0 e size (.slice (some ⟨g, 0, none⟩) 0 0) 0 [])
    (ao : Option Addr) (m c : Nat) (news : List Value) (hsrc : w.ownsRow 0 e size (.slice ao m c) m news) (h1 : ∀ u ∈ news, u.oneCell' = true)
    (h63 : m ≤ maxLen) (hbytes : m * bytes ≤ 140737488355328) :
    ∃ g' cap' w', (Builtin.append_ #[t, t] ty #[.slice (some ⟨g, 0, none⟩) 0 0, .slice ao m c]).run P w = .ok (.slice (some ⟨g', 0, none⟩) m cap') w' ∧ w'.ownsRow 0 e size (.slice (some ⟨g', 0, none⟩) m cap') m news ∧
      Fr (fun _ => False) w w' ∧ (g' = g ∨ w.heap.size ≤ g') := by
  rcases hsrc.2 with ⟨hv, hm⟩ | ⟨b, cap, cur, hv, hb, hg, hnc, hcm, hcs, htake⟩
  · simp only [Value.slice.injEq] at hv
    obtain ⟨rfl, rfl, rfl⟩ := hv
    obtain rfl : news = [] := List.eq_nil_of_length_eq_zero (by simpa using hsrc.1)
    exact ⟨g, 0, w, run_append_owned_none (P := P) w 0 t ty e i size ht hi _ 0 [] hown, hown, Fr.refl _ _, .inl rfl⟩
  · simp only [Value.slice.injEq] at hv
    obtain ⟨rfl, _, rfl⟩ := hv
    have hnews : ∀ j u, news[j]? = some u → w.cell? ((⟨b, 0, none⟩ : Addr).add j) = some u := by
      intro j u hj
      have hjl : j < m * size := by
        have := (List.getElem?_eq_some_iff.1 hj).1
        rw [hsrc.1] at this
        exact this
      have := hsrc.cellAt j hjl
      have he : (⟨b, 0, none⟩ : Addr).add j = ⟨b, j, none⟩ := by
        simp only [Addr.add]
        split
        · rename_i h; rw [h]
        · simp
      rw [he, this, hj]
    by_cases hm : m = 0
    · subst hm
      obtain rfl : news = [] := List.eq_nil_of_length_eq_zero (by simpa using hsrc.1)
      have hs : Src P i.size t (.slice (some ⟨b, 0, none⟩) 0 c) 0 [] w := Src.ofSlice w ht _ 0 _ [] (by simp) hnews (by simp)
      exact ⟨g, 0, w, run_append_nothing w t t ty e i ht hi _ 0 0 (Nat.le_refl _) _ hs, hown, Fr.refl _ _, .inl rfl⟩
    · obtain ⟨v', w', hr, ho, hgr⟩ := run_append_arg_grows (P := P) w t ty e i z size bytes ht hi hz hsize hby hzs hsz ⟨g, 0, none⟩ 0 0 [] (by simp) (by intro j u hj; simp at hj) ⟨b, 0, none⟩ m c news hsrc.1 hnews (by omega) (by omega) (by rw [Nat.zero_add]; exact hbytes)
      rw [Nat.zero_add, List.nil_append] at ho
      rcases ho.2 with ⟨_, hn'⟩ | ⟨g', cap', cur', rfl, hb', r⟩
      · omega
      · exact ⟨g', cap', w', hr, ⟨ho.1, .inr ⟨g', cap', cur', rfl, Nat.zero_le _, r⟩⟩, (Fr.refl _ w).grown hgr (fun k hk => by cases hk), .inr hb'⟩

/-- The same as a step of a region. -/
theorem step_copy {P : Program} {ops : Array Oper} {o : Oper} {a : Act} {w : World} {K : Act → World → Prop} {Q : Exit → Act → World → Prop} {E : Prop}
    (hg : o.guard = none) (s x : Operand) (t : TypeId) (hop : o.op = Op.call { callee := Callee.builtin Builtin.append, args := #[s, x], argTypes := #[t, t] })
    (e : TypeId) (z : Value) (size bytes : Nat) (ht : P.underlying t = some (.slice e)) (hinf : (P.info? e).map (fun i => (i.zero, i.size, i.bytes)) = some (some z, size, bytes)) (hzs : z.cells.size = size) (hsz : 0 < size)
    (g : Nat) (hs : a.eval s = .slice (some ⟨g, 0, none⟩) 0 0) (hown : w.ownsRow 0 e size (.slice (some ⟨g, 0, none⟩) 0 0) 0 [])
    (ao : Option Addr) (m c : Nat) (news : List Value) (hx : a.eval x = .slice ao m c) (hsrc : w.ownsRow 0 e size (.slice ao m c) m news) (h1 : ∀ u ∈ news, u.oneCell' = true)
    (h63 : m ≤ maxLen) (hbytes : m * bytes ≤ 140737488355328)
    (hK : ∀ g' cap' w', w'.ownsRow 0 e size (.slice (some ⟨g', 0, none⟩) m cap') m news → Fr (fun _ => False) w w' → (g' = g ∨ w.heap.size ≤ g') → K (a.put o.dst (.slice (some ⟨g', 0, none⟩) m cap')) w') :
    if Region.wanted o (yielded ops a.tmps) = true then Oper.wp P o a w K Q else E := by
  have hw : Region.wanted o (yielded ops a.tmps) = true := by simp [Region.wanted, hg]
  rw [if_pos hw]
  obtain ⟨i, hi, hz, hsize, hby⟩ := info_parts hinf
  obtain ⟨g', cap', w', hr, how, hf, hb⟩ := run_copy (P := P) w t o.type e i z size bytes ht hi hz hsize hby hzs hsz g hown ao m c news hsrc h1 h63 hbytes
  unfold Oper.wp execOp
  simp only [hop, resolve, invoke, builtin, Sem.run_bind, Sem.run_pure, Result.andThen_ok, List.map_toArray, List.map_cons, List.map_nil, hs, hx, hr]
  exact hK g' cap' w' how hf hb

end Go.Proofs.Ytiaddgagncmbeaa
