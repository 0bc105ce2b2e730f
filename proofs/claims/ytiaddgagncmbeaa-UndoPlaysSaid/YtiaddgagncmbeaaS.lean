/- The state of undo.Sets in memory. -/
import Derived.Test.YtiaddgagncmbeaaM
import Derived.Test.YtiaddgagncmbeaaU
namespace Go.Proofs.Ytiaddgagncmbeaa
open Go.RowKit

/-- Where sets lie: the struct, the rows of parents and sizes with their capacities, the log. -/
structure Lay where
  b : Nat
  gp : Nat
  gs : Nat
  cp : Nat
  cs : Nat
  al : Option Addr
  cl : Nat

/-- The blocks that sets own. -/
def Lay.mem (L : Lay) (k : Nat) : Prop := k = L.b ∨ k = L.gp ∨ k = L.gs ∨ L.al.map (·.block) = some k

def nats (l : List Nat) : List Value := l.map fun x => .int .i64 (x : Nat)

def numV (f : Nat → Nat) (i : Nat) : Value := .int .i64 (f i : Nat)

structure SetsAt (w : World) (L : Lay) (n : Nat) (p s : Nat → Nat) (log : List Nat) : Prop where
  hdr : w.heap[L.b]? = some (.cells #[.bool true, .slice (some ⟨L.gp, 0, none⟩) n L.cp, .slice (some ⟨L.gs, 0, none⟩) n L.cs, .slice L.al log.length L.cl] 59 (0, 0))
  par : RowV w L.gp 3 L.cp n (numV p)
  siz : RowV w L.gs 3 L.cs n (numV s)
  lg : w.ownsRow 0 3 1 (.slice L.al log.length L.cl) log.length (nats log)
  ne : L.gp ≠ L.gs
  nel : ∀ k, L.al.map (·.block) = some k → k ≠ L.gp ∧ k ≠ L.gs

namespace SetsAt
variable {w w' : World} {L : Lay} {n : Nat} {p s : Nat → Nat} {log : List Nat}

theorem c0 (h : SetsAt w L n p s log) : w.cell? ⟨L.b, 0, none⟩ = some (.bool true) := by
  rw [cell_of_row w _ _ _ _ _ h.hdr]; rfl
theorem c1 (h : SetsAt w L n p s log) : w.cell? ⟨L.b, 1, none⟩ = some (.slice (some ⟨L.gp, 0, none⟩) n L.cp) := by
  rw [cell_of_row w _ _ _ _ _ h.hdr]; rfl
theorem c2 (h : SetsAt w L n p s log) : w.cell? ⟨L.b, 2, none⟩ = some (.slice (some ⟨L.gs, 0, none⟩) n L.cs) := by
  rw [cell_of_row w _ _ _ _ _ h.hdr]; rfl
theorem c3 (h : SetsAt w L n p s log) : w.cell? ⟨L.b, 3, none⟩ = some (.slice L.al log.length L.cl) := by
  rw [cell_of_row w _ _ _ _ _ h.hdr]; rfl
theorem hfree (h : SetsAt w L n p s log) (i : Nat) : w.frozen? ⟨L.b, i, none⟩ = false := frozen_of_row w _ _ _ _ h.hdr
theorem blt (h : SetsAt w L n p s log) : L.b < w.heap.size := lt_of_block h.hdr
theorem nbp (h : SetsAt w L n p s log) : L.b ≠ L.gp := by
  intro e
  obtain ⟨cur, h', _⟩ := h.par
  rw [← e, h.hdr] at h'
  simp at h'
theorem nbs (h : SetsAt w L n p s log) : L.b ≠ L.gs := by
  intro e
  obtain ⟨cur, h', _⟩ := h.siz
  rw [← e, h.hdr] at h'
  simp at h'
theorem llt (h : SetsAt w L n p s log) : ∀ k, L.al.map (·.block) = some k → k < w.heap.size := by
  intro k hk
  cases ha : L.al with
  | none => simp [ha] at hk
  | some a =>
    rw [ha] at hk
    exact (h.lg.lt k (by rw [ha]; simpa [Value.ownBlock] using hk)).2
theorem nbl (h : SetsAt w L n p s log) : ∀ k, L.al.map (·.block) = some k → k ≠ L.b := by
  intro k hk e
  subst e
  cases ha : L.al with
  | none => simp [ha] at hk
  | some a =>
    rcases h.lg.2 with ⟨h', _⟩ | ⟨g, cap, cur, h', _, hg, _⟩
    · simp [ha] at h'
    · rw [ha] at h' hk
      simp only [Value.slice.injEq, Option.some.injEq] at h'
      simp [h'.1] at hk
      rw [hk, h.hdr] at hg
      simp at hg
theorem memlt (h : SetsAt w L n p s log) : ∀ k, L.mem k → k < w.heap.size := by
  rintro k (rfl | rfl | rfl | hk)
  · exact h.blt
  · exact h.par.lt
  · exact h.siz.lt
  · exact h.llt k hk

theorem keep {M : Nat → Prop} (h : SetsAt w L n p s log) (hf : Fr M w w') (hm : ∀ k, L.mem k → ¬ M k) : SetsAt w' L n p s log := by
  refine ⟨(hf.block _ h.blt (hm _ (.inl rfl))).trans h.hdr, h.par.keep hf (hm _ (.inr (.inl rfl))), h.siz.keep hf (hm _ (.inr (.inr (.inl rfl)))), ?_, h.ne, h.nel⟩
  refine ⟨h.lg.1, ?_⟩
  rcases h.lg.2 with hn | ⟨g, cap, cur, hv, hb, hg, r⟩
  · exact .inl hn
  · refine .inr ⟨g, cap, cur, hv, hb, ?_, r⟩
    rw [hf.block g (lt_of_block hg) (hm _ (.inr (.inr (.inr ?_))))]
    · exact hg
    · simp only [Value.slice.injEq] at hv
      rw [hv.1]; rfl

theorem drewN (h : SetsAt w L n p s log) (k : Nat) : SetsAt (w.drewN k) L n p s log :=
  ⟨h.hdr, h.par, h.siz, h.lg, h.ne, h.nel⟩
theorem to (h : SetsAt w L n p s log) (e : w'.heap = w.heap) : SetsAt w' L n p s log := by
  have hb : ∀ k : Nat, w'.heap[k]? = w.heap[k]? := fun k => by rw [e]
  refine ⟨(hb _).trans h.hdr, h.par.of_block (hb _), h.siz.of_block (hb _), ?_, h.ne, h.nel⟩
  obtain ⟨h1, h2⟩ := h.lg
  refine ⟨h1, h2.imp id ?_⟩
  rintro ⟨g, cap, cur, hv, hx, hg, r⟩
  exact ⟨g, cap, cur, hv, hx, (hb _).trans hg, r⟩

theorem drew (h : SetsAt w L n p s log) : SetsAt w.drew L n p s log :=
  ⟨h.hdr, h.par, h.siz, h.lg, h.ne, h.nel⟩
end SetsAt

namespace SetsAt
variable {w w' : World} {L : Lay} {n : Nat} {p s : Nat → Nat} {log : List Nat}

theorem logOther (h : SetsAt w L n p s log) (a : Addr) (ha : ∀ k, L.al.map (·.block) = some k → k ≠ a.block) (v : Value) :
    (w.setCell a v).ownsRow 0 3 1 (.slice L.al log.length L.cl) log.length (nats log) := by
  refine ownsRow_setCell_other h.lg ?_ v
  cases hl : L.al with
  | none => simp [Value.ownBlock]
  | some x =>
    have := ha x.block (by rw [hl]; rfl)
    simpa [Value.ownBlock] using this

theorem setPar (h : SetsAt w L n p s log) (y x : Nat) (hy : y < n) : SetsAt (w.setCell ⟨L.gp, y, none⟩ (.int .i64 (x : Nat))) L n (upd p y x) s log := by
  refine ⟨(heap_setCell_other w _ _ _ h.nbp).trans h.hdr, ?_, h.siz.setOther _ _ h.ne.symm, h.logOther _ (fun k hk => (h.nel k hk).1) _, h.ne, h.nel⟩
  refine (h.par.set y hy _).congr fun i _ => ?_
  show (if i = y then _ else numV p i) = numV (upd p y x) i
  unfold numV upd
  split <;> rfl

theorem setSiz (h : SetsAt w L n p s log) (y x : Nat) (hy : y < n) : SetsAt (w.setCell ⟨L.gs, y, none⟩ (.int .i64 (x : Nat))) L n p (upd s y x) log := by
  refine ⟨(heap_setCell_other w _ _ _ h.nbs).trans h.hdr, h.par.setOther _ _ h.ne, ?_, h.logOther _ (fun k hk => (h.nel k hk).2) _, h.ne, h.nel⟩
  refine (h.siz.set y hy _).congr fun i _ => ?_
  show (if i = y then _ else numV s i) = numV (upd s y x) i
  unfold numV upd
  split <;> rfl

/-- The log as another slice: its elements, its block and capacity given. -/
theorem setLog (h : SetsAt w L n p s log) (log' : List Nat) (al : Option Addr) (cl : Nat) (hw : Fr (fun k => L.al.map (·.block) = some k) w w')
    (ho : w'.ownsRow 0 3 1 (.slice al log'.length cl) log'.length (nats log')) (hn : ∀ k, al.map (·.block) = some k → k ≠ L.b ∧ k ≠ L.gp ∧ k ≠ L.gs) :
    SetsAt (w'.setCell ⟨L.b, 3, none⟩ (.slice al log'.length cl)) { L with al := al, cl := cl } n p s log' := by
  have hb := (hw.block _ h.blt (fun hk => h.nbl _ hk rfl)).trans h.hdr
  refine ⟨?_, (h.par.keep hw (fun hk => (h.nel _ hk).1 rfl)).setOther _ _ h.nbp.symm, (h.siz.keep hw (fun hk => (h.nel _ hk).2 rfl)).setOther _ _ h.nbs.symm, ?_, h.ne, fun k hk => (hn k hk).2⟩
  · rw [heap_setCell_same w' L.b 3 _ _ _ hb]
    rfl
  · refine ownsRow_setCell_other ho ?_ _
    cases al with
    | none => simp [Value.ownBlock]
    | some x =>
      have := (hn x.block rfl).1
      simpa [Value.ownBlock] using this
end SetsAt

end Go.Proofs.Ytiaddgagncmbeaa
