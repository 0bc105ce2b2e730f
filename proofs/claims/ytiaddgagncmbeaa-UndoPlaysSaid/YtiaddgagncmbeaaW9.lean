/- The contracts of undo.Sets in terms of states with their history. -/
import Derived.Test.YtiaddgagncmbeaaW8
namespace Go.Proofs.Ytiaddgagncmbeaa
open Go.RowKit

/-- Sets in memory in the state S. -/
def SetsS (w : World) (L : Lay) (n : Nat) (S : St) : Prop := SetsAt w L n S.t.p S.t.s S.log

/-- From w to w' sets that lay at L have come to lie at L'; no other old block has changed. -/
structure Mv (w w' : World) (L L' : Lay) : Prop where
  b : L'.b = L.b
  fr : Fr L.mem w w'
  mem : ∀ k, L'.mem k → L.mem k ∨ w.heap.size ≤ k

theorem Mv.refl (w : World) (L : Lay) : Mv w w L L := ⟨rfl, Fr.refl _ _, fun _ h => .inl h⟩

theorem Mv.same {w w' : World} (L : Lay) (h : Same' w w') : Mv w w' L L := ⟨rfl, h.mono (fun _ _ h => h.elim), fun _ h => .inl h⟩

theorem Mv.trans {w w' w'' : World} {L L' L'' : Lay} (h : Mv w w' L L') (h' : Mv w' w'' L' L'') : Mv w w'' L L'' :=
  ⟨h'.b.trans h.b, h.fr.trans' h'.fr (fun k hk hm => (h.mem k hm).resolve_right (by omega)),
    fun k hk => by
      rcases h'.mem k hk with hk | hk
      · exact h.mem k hk
      · exact .inr (Nat.le_trans h.fr.size hk)⟩

theorem Mv.from {w0 w w' : World} {L L' : Lay} (h0 : Same' w0 w) (h : Mv w w' L L') : Mv w0 w' L L' := (Mv.same L h0).trans h

theorem Mv.then {w w' w'' : World} {L L' : Lay} (h : Mv w w' L L') (h0 : Same' w' w'') : Mv w w'' L L' := h.trans (Mv.same L' h0)

theorem Mv.to {w w' w'' : World} {L L' : Lay} (h : Mv w w' L L') (h1 : w''.heap = w'.heap) (h2 : w''.os = w'.os) (h3 : w''.tape = w'.tape) (h4 : w''.output = w'.output) : Mv w w'' L L' :=
  ⟨h.b, h.fr.to h1 h2 h3 h4, h.mem⟩

theorem Upd.mv {w w' : World} {L : Lay} {n : Nat} {p s : Nat → Nat} {log : List Nat} (h : Upd w w' L n p s log) : ∃ L', SetsAt w' L' n p s log ∧ Mv w w' L L' := by
  obtain ⟨al, cl, hS, hf, hb⟩ := h
  refine ⟨_, hS, rfl, hf, ?_⟩
  rintro k (rfl | rfl | rfl | hk)
  · exact .inl (.inl rfl)
  · exact .inl (.inr (.inl rfl))
  · exact .inl (.inr (.inr (.inl rfl)))
  · exact (hb k hk).imp (fun h => .inr (.inr (.inr h))) id

/-- Something that lies outside of sets stays as it is. -/
theorem SetsS.keep {w w' : World} {L : Lay} {n : Nat} {S : St} {M : Nat → Prop} (h : SetsS w L n S) (hf : Fr M w w') (hm : ∀ k, L.mem k → ¬ M k) : SetsS w' L n S := SetsAt.keep h hf hm

theorem SetsS.same {w w' : World} {L : Lay} {n : Nat} {S : St} (h : SetsS w L n S) (hf : Same' w w') : SetsS w' L n S := SetsAt.same h hf

theorem SetsS.unite {L : Lay} {n : Nat} {S : St} {w : World} (hS : SetsS w L n S) (hO : S.Ok n) (hn : n ≤ 65536) {a b : Nat} (ha : a < n) (hb : b < n) :
    Calls Try.prog 39 #[.pointer (some ⟨L.b, 0, none⟩), .int .i64 a, .int .i64 b] w fun e w' => e = .returned (.bool (decide (S.t.r a ≠ S.t.r b))) ∧ ∃ L', SetsS w' L' n (S.uni a b) ∧ Mv w w' L L' := by
  obtain ⟨d, hF⟩ := hO.fo
  refine (unite_any L n S.t.p S.t.s S.t.r d S.log w hS hF a b ha hb (fun h => by have := hO.sum ha hb h; omega) (by have := hO.loglen; omega)).mono ?_
  rintro e w' (⟨hr, rfl, rfl⟩ | ⟨hr, rfl, hU⟩)
  · refine ⟨by simp [hr], L, ?_, Mv.refl _ _⟩
    unfold St.uni
    rw [if_pos hr]
    exact hS
  · refine ⟨by simp [hr], ?_⟩
    obtain ⟨L', h1, h2⟩ := hU.mv
    refine ⟨L', ?_, h2⟩
    unfold St.uni
    rw [if_neg hr]
    have e : upd S.t.s (big S.t.s S.t.r a b) (S.t.s (S.t.r a) + S.t.s (S.t.r b)) = (S.t.join (big S.t.s S.t.r a b) (sml S.t.s S.t.r a b)).s := by
      unfold T.join
      rcases big_sml S.t.s S.t.r a b with ⟨e1, e2⟩ | ⟨e1, e2⟩ <;> simp only [e1, e2]
      rw [Nat.add_comm]
    rw [e] at h1
    exact h1

theorem SetsS.union {L : Lay} {n : Nat} {S : St} {w : World} (hS : SetsS w L n S) (hO : S.Ok n) (hn : n ≤ 65536) {a b : Nat} (ha : a < n) (hb : b < n) :
    Calls Try.prog 23 #[.pointer (some ⟨L.b, 0, none⟩), .int .i64 a, .int .i64 b] w fun e w' => e = .returned (.tuple #[.bool (decide (S.t.r a ≠ S.t.r b)), .int .i64 0]) ∧ ∃ L', SetsS w' L' n (S.uni a b) ∧ Mv w w' L L' := by
  obtain ⟨d, hF⟩ := hO.fo
  refine (Union_in L n S.t.p S.t.s S.t.r d S.log w hS hF hn a b ha hb (fun h => by have := hO.sum ha hb h; omega) (by have := hO.loglen; omega)).mono ?_
  rintro e w' (⟨hr, rfl, hf⟩ | ⟨hr, rfl, hU⟩)
  · refine ⟨by simp [hr], L, ?_, Mv.same _ hf⟩
    unfold St.uni
    rw [if_pos hr]
    exact hS.same hf
  · refine ⟨by simp [hr], ?_⟩
    obtain ⟨L', h1, h2⟩ := hU.mv
    refine ⟨L', ?_, h2⟩
    unfold St.uni
    rw [if_neg hr]
    have e : upd S.t.s (big S.t.s S.t.r a b) (S.t.s (S.t.r a) + S.t.s (S.t.r b)) = (S.t.join (big S.t.s S.t.r a b) (sml S.t.s S.t.r a b)).s := by
      unfold T.join
      rcases big_sml S.t.s S.t.r a b with ⟨e1, e2⟩ | ⟨e1, e2⟩ <;> simp only [e1, e2]
      rw [Nat.add_comm]
    rw [e] at h1
    exact h1

theorem SetsS.undo {L : Lay} {n : Nat} {S : St} {w : World} (hS : SetsS w L n S) (hO : S.Ok n) (hn : n ≤ 65536) {m : Nat} (hm : m ≤ S.log.length) :
    Calls Try.prog 16 #[.pointer (some ⟨L.b, 0, none⟩), .int .i64 m] w fun e w' => e = .returned (.int .i64 0) ∧ SetsS w' L n (S.back m) ∧ Mv w w' L L :=
  (Undo_in L n S.t S.log S.past hO w hS hn m hm).mono fun _ _ ⟨h1, h2, h3⟩ => ⟨h1, h2, rfl, h3, fun _ h => .inl h⟩

theorem SetsS.labels {L : Lay} {n : Nat} {S : St} {w : World} (hS : SetsS w L n S) (hO : S.Ok n) (hn : n ≤ 65536) :
    Calls Try.prog 13 #[.pointer (some ⟨L.b, 0, none⟩)] w fun e w' => ∃ g, e = .returned (.slice (some ⟨g, 0, none⟩) n n) ∧ RowV w' g 3 n n (numV (S.lab n)) ∧ w.heap.size ≤ g ∧ Same' w w' := by
  obtain ⟨d, hF⟩ := hO.fo
  exact Labels_at L n S.t.p S.t.s S.t.r d S.log w hS hF hn

theorem SetsS.mark {L : Lay} {n : Nat} {S : St} {w : World} (hS : SetsS w L n S) :
    Calls Try.prog 12 #[.pointer (some ⟨L.b, 0, none⟩)] w fun e w' => e = .returned (.int .i64 (S.log.length : Nat)) ∧ w = w' := Mark_at L n S.t.p S.t.s S.log w hS

theorem SetsS.count {L : Lay} {n : Nat} {S : St} {w : World} (hS : SetsS w L n S) (hO : S.Ok n) (hn : n ≤ 65536) :
    Calls Try.prog 14 #[.pointer (some ⟨L.b, 0, none⟩)] w fun e w' => e = .returned (.int .i64 ((n : Int) - S.log.length)) ∧ Same' w w' := Count_at L n S.t.p S.t.s S.log w hS hn hO.loglen

theorem SetsS.row {L : Lay} {n : Nat} {S : St} {w : World} (hS : SetsS w L n S) (hO : S.Ok n) (hn : n ≤ 65536) :
    Calls Try.prog 43 #[.pointer (some ⟨L.b, 0, none⟩)] w fun e w' => e = .returned (.agg #[.int .i64 (mxTo S.t.p S.t.s n : Nat), .int .i64 (n - S.log.length : Nat), .int .i64 (sqTo S.t.p S.t.s n : Nat)]) ∧ Same' w w' := by
  refine row_at L n S.t.p S.t.s S.log w hS hn hO.loglen fun i hi he => ?_
  have := Built.s_le hO hi (((Built.inv hO).pr i hi).1 he)
  omega

end Go.Proofs.Ytiaddgagncmbeaa
