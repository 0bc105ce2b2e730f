/- The document's sets in memory: labels, and the labels ahead of each union. -/
import Derived.Test.YtiaddgagncmbeaaL7
namespace Go.Proofs.Ytiaddgagncmbeaa
open Go.RowKit

/-- A list of numbers that lies in a block of M. -/
def LabAt (M : Nat → Prop) (w : World) (v : Value) (n : Nat) (l : Nat → Nat) : Prop :=
  ∃ ao c, v = .slice ao n c ∧ w.ownsRow 0 3 1 (.slice ao n c) n ((List.range n).map (numV l)) ∧ ∀ k, blk ao = some k → M k

theorem ownsRow_keep {w w' : World} {M : Nat → Prop} {e size n : Nat} {v : Value} {xs : List Value} {base : Nat} (h : w.ownsRow base e size v n xs) (hf : Fr M w w') (hm : ∀ k, v.ownBlock = some k → ¬ M k) : w'.ownsRow base e size v n xs := by
  refine ⟨h.1, ?_⟩
  rcases h.2 with hn | ⟨g, cap, cur, hv, hb, hg, r⟩
  · exact .inl hn
  · refine .inr ⟨g, cap, cur, hv, hb, ?_, r⟩
    rw [hf.block g (lt_of_block hg) (hm g (by rw [hv]; rfl))]
    exact hg

namespace LabAt
variable {M M' : Nat → Prop} {w w' : World} {v : Value} {n : Nat} {l l' : Nat → Nat}

theorem keep {X : Nat → Prop} (h : LabAt M w v n l) (hf : Fr X w w') (hm : ∀ k, M k → ¬ X k) : LabAt M w' v n l := by
  obtain ⟨ao, c, rfl, h1, h2⟩ := h
  exact ⟨ao, c, rfl, ownsRow_keep h1 hf (fun k hk => hm k (h2 k (by rw [← ownBlock_blk ao n c]; exact hk))), h2⟩

theorem mono (h : LabAt M w v n l) (hm : ∀ k, M k → M' k) : LabAt M' w v n l := by
  obtain ⟨ao, c, rfl, h1, h2⟩ := h
  exact ⟨ao, c, rfl, h1, fun k hk => hm k (h2 k hk)⟩

theorem congr (h : LabAt M w v n l) (he : ∀ i, i < n → l i = l' i) : LabAt M w v n l' := by
  obtain ⟨ao, c, rfl, h1, h2⟩ := h
  have : (List.range n).map (numV l) = (List.range n).map (numV l') := by
    apply List.map_congr_left
    intro i hi
    simp at hi
    simp [numV, he i hi]
  exact ⟨ao, c, rfl, this ▸ h1, h2⟩

theorem cell (h : LabAt M w v n l) : ∃ ao c, v = .slice ao n c ∧ ∀ i, i < n → ∃ g, ao = some ⟨g, 0, none⟩ ∧ M g ∧ w.cell? ⟨g, i, none⟩ = some (.int .i64 (l i : Nat)) := by
  obtain ⟨ao, c, rfl, h1, h2⟩ := h
  refine ⟨ao, c, rfl, fun i hi => ?_⟩
  rcases h1.2 with ⟨hv, h0⟩ | ⟨g, cap, cur, hv, _, hg, r⟩
  · omega
  · simp only [Value.slice.injEq] at hv
    obtain ⟨rfl, _, rfl⟩ := hv
    refine ⟨g, rfl, h2 g rfl, ?_⟩
    rw [h1.cellAt i (by omega)]
    simp [hi, numV]

theorem sl (h : LabAt M w v n l) : Sl w v n (fun i => (l i : Int)) := by
  obtain ⟨ao, c, rfl, hc⟩ := h.cell
  exact ⟨ao, c, rfl, fun i hi => by
    obtain ⟨g, h1, _, h3⟩ := hc i hi
    exact ⟨g, 0, h1, by rw [Nat.zero_add]; exact h3⟩⟩

/-- The block of such a list is no block of another kind. -/
theorem other (h : LabAt M w v n l) {b : Nat} {cur : Array Value} {t : TypeId} (hb : w.heap[b]? = some (.cells cur t (0, 0))) (ht : t ≠ 3) : LabAt (fun k => M k ∧ k ≠ b) w v n l := by
  obtain ⟨ao, c, rfl, h1, h2⟩ := h
  refine ⟨ao, c, rfl, h1, fun k hk => ⟨h2 k hk, fun e => ?_⟩⟩
  subst e
  rcases h1.2 with ⟨hv, _⟩ | ⟨g, cap, cur', hv, _, hg, _⟩
  · simp only [Value.slice.injEq] at hv
    rw [hv.1] at hk
    simp [blk] at hk
  · simp only [Value.slice.injEq] at hv
    rw [hv.1] at hk
    simp [blk] at hk
    subst hk
    rw [hb] at hg
    simp at hg
    exact ht hg.2
end LabAt

/-- The document's sets at block b: all that is read lies in blocks of M. -/
structure RefB (M : Nat → Prop) (w : World) (b n : Nat) (S : St) (v : Value) (ap : Option Addr) (cp : Nat) (vs : List Value) : Prop where
  hdr : w.heap[b]? = some (.cells #[.bool true, v, .slice ap S.log.length cp] 66 (0, 0))
  mb : M b
  lab : LabAt M w v n (S.lab n)
  past : w.ownsRow 0 27 1 (.slice ap S.log.length cp) S.log.length vs
  mp : ∀ k, blk ap = some k → M k
  old : ∀ i, i < S.log.length → ∃ u, vs[i]? = some u ∧ LabAt M w u n ((S.back i).lab n)

def RefAt (M : Nat → Prop) (w : World) (b n : Nat) (S : St) : Prop := ∃ v ap cp vs, RefB M w b n S v ap cp vs

namespace RefB
variable {M M' : Nat → Prop} {w w' : World} {b n : Nat} {S : St} {v : Value} {ap : Option Addr} {cp : Nat} {vs : List Value}

theorem c0 (h : RefB M w b n S v ap cp vs) : w.cell? ⟨b, 0, none⟩ = some (.bool true) := by rw [cell_of_row w _ _ _ _ _ h.hdr]; rfl
theorem c1 (h : RefB M w b n S v ap cp vs) : w.cell? ⟨b, 1, none⟩ = some v := by rw [cell_of_row w _ _ _ _ _ h.hdr]; rfl
theorem c2 (h : RefB M w b n S v ap cp vs) : w.cell? ⟨b, 2, none⟩ = some (.slice ap S.log.length cp) := by rw [cell_of_row w _ _ _ _ _ h.hdr]; rfl
theorem hfree (h : RefB M w b n S v ap cp vs) (i : Nat) : w.frozen? ⟨b, i, none⟩ = false := frozen_of_row w _ _ _ _ h.hdr
theorem blt (h : RefB M w b n S v ap cp vs) : b < w.heap.size := lt_of_block h.hdr

theorem keep {X : Nat → Prop} (h : RefB M w b n S v ap cp vs) (hf : Fr X w w') (hm : ∀ k, M k → ¬ X k) : RefB M w' b n S v ap cp vs :=
  ⟨(hf.block _ h.blt (hm _ h.mb)).trans h.hdr, h.mb, h.lab.keep hf hm, ownsRow_keep h.past hf (fun k hk => hm k (h.mp k (by rw [← ownBlock_blk ap S.log.length cp]; exact hk))), h.mp,
    fun i hi => by obtain ⟨u, h1, h2⟩ := h.old i hi; exact ⟨u, h1, h2.keep hf hm⟩⟩

theorem same (h : RefB M w b n S v ap cp vs) (hf : Same' w w') : RefB M w' b n S v ap cp vs := h.keep hf (fun _ _ h => h)

theorem mono (h : RefB M w b n S v ap cp vs) (hm : ∀ k, M k → M' k) : RefB M' w b n S v ap cp vs :=
  ⟨h.hdr, hm _ h.mb, h.lab.mono hm, h.past, fun k hk => hm k (h.mp k hk), fun i hi => by obtain ⟨u, h1, h2⟩ := h.old i hi; exact ⟨u, h1, h2.mono hm⟩⟩

theorem pb (h : RefB M w b n S v ap cp vs) : ∀ k, blk ap = some k → k ≠ b ∧ ∃ cur, w.heap[k]? = some (.cells cur 27 (0, 0)) := by
  intro k hk
  rcases h.past.2 with ⟨hv, _⟩ | ⟨g, cap, cur, hv, _, hg, _⟩
  · simp only [Value.slice.injEq] at hv
    rw [hv.1] at hk
    simp [blk] at hk
  · simp only [Value.slice.injEq] at hv
    rw [hv.1] at hk
    simp [blk] at hk
    subst hk
    refine ⟨fun e => ?_, cur, hg⟩
    subst e
    rw [h.hdr] at hg
    simp at hg
end RefB

theorem RefAt.same {M : Nat → Prop} {w w' : World} {b n : Nat} {S : St} (h : RefAt M w b n S) (hf : Same' w w') : RefAt M w' b n S := by
  obtain ⟨v, ap, cp, vs, h⟩ := h
  exact ⟨v, ap, cp, vs, h.same hf⟩

theorem RefAt.keep {M X : Nat → Prop} {w w' : World} {b n : Nat} {S : St} (h : RefAt M w b n S) (hf : Fr X w w') (hm : ∀ k, M k → ¬ X k) : RefAt M w' b n S := by
  obtain ⟨v, ap, cp, vs, h⟩ := h
  exact ⟨v, ap, cp, vs, h.keep hf hm⟩

/-- What a call on the document's sets does: they are in the state S', and no other old block has changed. -/
def RMv (M : Nat → Prop) (w w' : World) (b n : Nat) (S' : St) : Prop :=
  ∃ M' : Nat → Prop, RefAt M' w' b n S' ∧ Fr M w w' ∧ ∀ k, M' k → M k ∨ w.heap.size ≤ k

end Go.Proofs.Ytiaddgagncmbeaa
