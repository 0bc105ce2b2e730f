/- Walk: Copy. -/
import Derived.Test.YtiaddgagncmbeaaW14
import Derived.Deep.RegionHeld3
namespace Go.Proofs.Ytiaddgagncmbeaa
open Go.RowKit

/-- What every world of the region knows. -/
abbrev HeldC (w0 : World) (L : Lay) (n : Nat) (p s : Nat → Nat) (log : List Nat) (w : World) : Prop :=
  w.cell? ⟨L.b, 1, none⟩ = some (.slice (some ⟨L.gp, 0, none⟩) n L.cp) ∧ w.cell? ⟨L.b, 2, none⟩ = some (.slice (some ⟨L.gs, 0, none⟩) n L.cs) ∧ w.cell? ⟨L.b, 3, none⟩ = some (.slice L.al log.length L.cl) ∧
    Hid (SetsAt w L n p s log) ∧ Hid (Fr (fun _ => False) w0 w)

section
variable {w0 w w' : World} {L : Lay} {n : Nat} {p s : Nat → Nat} {log : List Nat}

theorem HeldC.fr (h : HeldC w0 L n p s log w) (hf : Fr (fun _ => False) w w') : HeldC w0 L n p s log w' := by
  obtain ⟨_, _, _, hS, hf0⟩ := h
  have hS' := hS.out.keep hf (fun _ _ h => h)
  exact ⟨hS'.c1, hS'.c2, hS'.c3, hS', hf0.out.trans hf⟩

theorem HeldC.alloc (h : HeldC w0 L n p s log w) (o : Obj) : HeldC w0 L n p s log (w.alloc o) := h.fr ((Fr.refl _ w).alloc o)

theorem bk_new {k : Nat} {o : Obj} (h : k = w.heap.size) : (w.alloc o).heap[k]? = some o := by subst h; exact heap_alloc_new w o
theorem bk_alloc {k : Nat} {o x : Obj} (h : w.heap[k]? = some o) : (w.alloc x).heap[k]? = some o := (Below.heap_alloc w x k (lt_of_block h)).trans h
theorem bk_fr {k : Nat} {o : Obj} (hf : Fr (fun _ => False) w w') (h : w.heap[k]? = some o) : w'.heap[k]? = some o := (hf.block k (lt_of_block h) id).trans h
theorem bk_drew {k : Nat} {o : Obj} (h : w.heap[k]? = some o) : w.drew.heap[k]? = some o := h

theorem owns_empty {g e size : Nat} (h : w.heap[g]? = some (.cells #[] e)) : w.ownsRow 0 e size (.slice (some ⟨g, 0, none⟩) 0 0) 0 [] :=
  ⟨by simp, .inr ⟨g, 0, #[], rfl, Nat.zero_le _, h, Nat.le_refl _, Nat.zero_le _, by simp, by simp⟩⟩
end

theorem nats_one (l : List Nat) : ∀ u ∈ nats l, u.oneCell' = true := by
  intro u hu
  simp only [nats, List.mem_map] at hu
  obtain ⟨x, _, rfl⟩ := hu
  rfl

theorem numV_one (f : Nat → Nat) (n : Nat) : ∀ u ∈ (List.range n).map (numV f), u.oneCell' = true := by
  intro u hu
  simp only [List.mem_map] at hu
  obtain ⟨x, _, rfl⟩ := hu
  rfl

theorem Try.info3' : (Try.prog.info? 3).map (fun i => (i.zero, i.size, i.bytes)) = some (some (.int .i64 0), 1, 8) := by kernel_rfl

theorem copy_done {w0 w1 w2 w3 : World} {n : Nat} {p s : Nat → Nat} {log : List Nat} {g1 g2 g3 c1 c2 c3 : Nat}
    (own1 : w1.ownsRow 0 3 1 (.slice (some ⟨g1, 0, none⟩) n c1) n ((List.range n).map (numV p))) (own2 : w2.ownsRow 0 3 1 (.slice (some ⟨g2, 0, none⟩) n c2) n ((List.range n).map (numV s)))
    (own3 : w3.ownsRow 0 3 1 (.slice (some ⟨g3, 0, none⟩) log.length c3) log.length (nats log)) (f0 : Same' w0 w1) (f12 : Same' w1 w2) (f23 : Same' w2 w3)
    (h12 : g1 ≠ g2) (h13 : g1 ≠ g3) (h23 : g2 ≠ g3) (l1 : w0.heap.size ≤ g1) (l2 : w0.heap.size ≤ g2) (l3 : w0.heap.size ≤ g3) :
    ∃ L' : Lay, L'.b = w3.heap.size ∧ SetsAt (w3.alloc (.cells #[.bool true, .slice (some ⟨g1, 0, none⟩) n c1, .slice (some ⟨g2, 0, none⟩) n c2, .slice (some ⟨g3, 0, none⟩) log.length c3] 59)) L' n p s log ∧
      Same' w0 (w3.alloc (.cells #[.bool true, .slice (some ⟨g1, 0, none⟩) n c1, .slice (some ⟨g2, 0, none⟩) n c2, .slice (some ⟨g3, 0, none⟩) log.length c3] 59)) ∧ ∀ k, L'.mem k → w0.heap.size ≤ k := by
  have r1 : RowV w1 g1 3 c1 n (numV p) := RowV.ofOwns own1 (fun i hi => by simp [hi])
  have r2 : RowV w2 g2 3 c2 n (numV s) := RowV.ofOwns own2 (fun i hi => by simp [hi])
  have f3 := f0.trans (f12.trans f23)
  refine ⟨⟨w3.heap.size, g1, g2, c1, c2, some ⟨g3, 0, none⟩, c3⟩, rfl, ⟨heap_alloc_new w3 _, ((r1.keep (f12.trans f23) id).alloc _), ((r2.keep f23 id).alloc _), own3.alloc _, h12, ?_⟩, f3.alloc _, ?_⟩
  · intro k hk
    simp at hk
    subst hk
    exact ⟨h13.symm, h23.symm⟩
  · have := f3.size
    rintro k (rfl | rfl | rfl | hk)
    · exact this
    · exact l1
    · exact l2
    · simp at hk; subst hk; exact l3

set_option maxHeartbeats 4000000 in
set_option maxRecDepth 100000 in
theorem Copy_at (L : Lay) (n : Nat) (p s : Nat → Nat) (log : List Nat) (w : World) (hS : SetsAt w L n p s log) (hn : n ≤ 65536) (hl : log.length ≤ 65536) :
    Calls Try.prog 28 #[.pointer (some ⟨L.b, 0, none⟩)] w fun e w' => ∃ L' : Lay, e = .returned (.pointer (some ⟨L'.b, 0, none⟩)) ∧ SetsAt w' L' n p s log ∧ Same' w w' ∧ ∀ k, L'.mem k → w.heap.size ≤ k := by
  have C := hide (fun w => valid_at L.b true w)
  have H0 : HeldC w L n p s log w.drew := ⟨hS.c1, hS.c2, hS.c3, hS.drew, (Fr.refl _ w).drew⟩
  have c0 := hS.c0
  go_enter Try.func28, Try.ntmps28
  go_wp2_with fail
  refine (C.out w c0).mono ?_
  rintro e w' ⟨rfl, rfl⟩
  go_wp2
  go_region_held3 (fun w' => HeldC w L n p s log w') (first | exact H0 | exact HeldC.alloc (by assumption) _ | exact HeldC.fr (by assumption) (by assumption)) (first | (refine step_copy rfl (.tmp 12) (.tmp 16) 27 rfl 3 (.int .i64 0) 1 8 Try.underlying27 Try.info3' rfl (by decide) _ rfl (owns_empty (by repeat (first | (refine bk_new ?_; first | rfl | (simp; done)) | refine bk_alloc ?_ | refine bk_fr (by assumption) ?_))) (some ⟨L.gs, 0, none⟩) n L.cs ((List.range n).map (numV s)) rfl (by assumption : HeldC w L n p s log _).2.2.2.1.out.siz.owns (numV_one s n) (by unfold maxLen; omega) (by omega) ?_; intro g2 c2 w2 own2 hf2 hb2; (have lt2 := (own2.lt g2 rfl).2); (have sz2 := hf2.size); (try simp at hb2); (try simp at sz2)) | (refine step_copy rfl (.tmp 18) (.tmp 22) 27 rfl 3 (.int .i64 0) 1 8 Try.underlying27 Try.info3' rfl (by decide) _ rfl (owns_empty (by repeat (first | (refine bk_new ?_; first | rfl | (simp; done)) | refine bk_alloc ?_ | refine bk_fr (by assumption) ?_))) L.al log.length L.cl (nats log) rfl (by assumption : HeldC w L n p s log _).2.2.2.1.out.lg (nats_one log) (by unfold maxLen; omega) (by omega) ?_; intro g3 c3 w3 own3 hf3 hb3; (have lt3 := (own3.lt g3 rfl).2); (have sz3 := hf3.size); (try simp at hb3); (try simp at sz3)) | (refine step_copy rfl (.tmp 6) (.tmp 10) 27 rfl 3 (.int .i64 0) 1 8 Try.underlying27 Try.info3' rfl (by decide) _ rfl (owns_empty (by repeat (first | (refine bk_new ?_; first | rfl | (simp; done)) | refine bk_alloc ?_ | refine bk_fr (by assumption) ?_))) (some ⟨L.gp, 0, none⟩) n L.cp ((List.range n).map (numV p)) rfl (by assumption : HeldC w L n p s log _).2.2.2.1.out.par.owns (numV_one p n) (by unfold maxLen; omega) (by omega) ?_; intro g1 c1 w1 own1 hf1 hb1; (have lt1 := (own1.lt g1 rfl).2); (have sz1 := hf1.size); (try simp at hb1); (try simp at sz1)))
  all_goals
    have f0 : Same' w w1 := by
      refine Fr.trans ?_ hf1
      repeat (first | exact Fr.refl _ _ | refine Fr.drew ?_ | refine Fr.alloc ?_ _)
    have f12 : Same' w1 w2 := by
      refine Fr.trans ?_ hf2
      repeat (first | exact Fr.refl _ _ | refine Fr.alloc ?_ _)
    have f23 : Same' w2 w3 := by
      refine Fr.trans ?_ hf3
      repeat (first | exact Fr.refl _ _ | refine Fr.alloc ?_ _)
    have hd := copy_done own1 own2 own3 f0 f12 f23 (by omega) (by omega) (by omega) (by omega) (by omega) (by omega)
    obtain ⟨L', hb', hS', hf', hm'⟩ := hd
    refine exit_world (fun w' => SetsAt w' L' n p s log ∧ Same' w w') ⟨hS', hf'⟩ ?_
    rw [← hb']
    rintro w4 ⟨hS4, hf4⟩
    go_wp2
    go_ret
    exact ⟨L', rfl, hS4, hf4, hm'⟩

end Go.Proofs.Ytiaddgagncmbeaa
