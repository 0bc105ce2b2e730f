/- The walk of UndoKnown. -/
import Derived.Test.YtiaddgagncmbeaaW15
import Derived.Test.YtiaddgagncmbeaaL4
namespace Go.Proofs.Ytiaddgagncmbeaa
open Go.RowKit

/-- One set of slots at block b, made since w0. -/
def One (w0 w : World) (b n : Nat) (S : St) : Prop :=
  ∃ L : Lay, L.b = b ∧ SetsS w L n S ∧ S.Ok n ∧ n ≤ 65536 ∧ (∀ k, L.mem k → w0.heap.size ≤ k) ∧ Same' w0 w

namespace One
variable {w0 w w' : World} {b n : Nat} {S : St}

theorem same (h : One w0 w b n S) (hf : Same' w w') : One w0 w' b n S := by
  obtain ⟨L, h1, h2, h3, h4, h5, h6⟩ := h
  exact ⟨L, h1, h2.same hf, h3, h4, h5, h6.trans hf⟩

theorem mv {L : Lay} (hL : L.b = b) (hO : S.Ok n) (hn : n ≤ 65536) (hm : ∀ k, L.mem k → w0.heap.size ≤ k) (hf : Same' w0 w) {L' : Lay} {S' : St} (h1 : SetsS w' L' n S') (hO' : S'.Ok n) (h2 : Mv w w' L L') : One w0 w' b n S' :=
  ⟨L', h2.b.trans hL, h1, hO', hn, fun k hk => by
    rcases h2.mem k hk with h | h
    · exact hm k h
    · exact Nat.le_trans hf.size h, hf.trans' h2.fr (fun k hk hm' => by have := hm k hm'; omega)⟩

theorem union (h : One w0 w b n S) {x y : Nat} (hx : x < n) (hy : y < n) :
    Calls Try.prog 23 #[.pointer (some ⟨b, 0, none⟩), .int .i64 x, .int .i64 y] w fun e w' => e = .returned (.tuple #[.bool (decide (S.t.r x ≠ S.t.r y)), .int .i64 0]) ∧ One w0 w' b n (S.uni x y) := by
  obtain ⟨L, rfl, h2, h3, h4, h5, h6⟩ := h
  refine (h2.union h3 h4 hx hy).mono ?_
  rintro e w' ⟨rfl, L', hS', hv⟩
  exact ⟨rfl, mv rfl h3 h4 h5 h6 hS' (h3.uni hx hy) hv⟩

theorem union_out (h : One w0 w b n S) {x y : Int} (hxy : in2 n x y = false) :
    Calls Try.prog 23 #[.pointer (some ⟨b, 0, none⟩), .int .i64 x, .int .i64 y] w fun e w' => e = .returned (.tuple #[.bool false, .int .i64 3]) ∧ One w0 w' b n S := by
  obtain ⟨L, rfl, h2, h3, h4, h5, h6⟩ := h
  refine (Union_out L n _ _ S.log w h2 h4 x y hxy).mono ?_
  rintro e w' ⟨rfl, hf⟩
  exact ⟨rfl, L, rfl, h2.same hf, h3, h4, h5, h6.trans hf⟩

theorem undo (h : One w0 w b n S) {m : Nat} (hm : m ≤ S.log.length) :
    Calls Try.prog 16 #[.pointer (some ⟨b, 0, none⟩), .int .i64 m] w fun e w' => e = .returned (.int .i64 0) ∧ One w0 w' b n (S.back m) := by
  obtain ⟨L, rfl, h2, h3, h4, h5, h6⟩ := h
  refine (h2.undo h3 h4 hm).mono ?_
  rintro e w' ⟨rfl, hS', hv⟩
  exact ⟨rfl, mv rfl h3 h4 h5 h6 hS' (h3.back hm) hv⟩

theorem undo_out (h : One w0 w b n S) {m : Int} (hm : m < 0 ∨ S.log.length < m) :
    Calls Try.prog 16 #[.pointer (some ⟨b, 0, none⟩), .int .i64 m] w fun e w' => e = .returned (.int .i64 3) ∧ w = w' := by
  obtain ⟨L, rfl, h2, h3, h4, h5, h6⟩ := h
  exact Undo_out L n _ _ S.log w h2 m hm

theorem labels (h : One w0 w b n S) :
    Calls Try.prog 13 #[.pointer (some ⟨b, 0, none⟩)] w fun e w' => ∃ g, e = .returned (.slice (some ⟨g, 0, none⟩) n n) ∧ RowV w' g 3 n n (numV (S.lab n)) ∧ Same' w w' := by
  obtain ⟨L, rfl, h2, h3, h4, h5, h6⟩ := h
  refine (h2.labels h3 h4).mono ?_
  rintro e w' ⟨g, rfl, hg, _, hf⟩
  exact ⟨g, rfl, hg, hf⟩

theorem mark (h : One w0 w b n S) : Calls Try.prog 12 #[.pointer (some ⟨b, 0, none⟩)] w fun e w' => e = .returned (.int .i64 (S.log.length : Nat)) ∧ Same' w w' := by
  obtain ⟨L, rfl, h2, h3, h4, h5, h6⟩ := h
  refine h2.mark.mono ?_
  rintro e w' ⟨rfl, rfl⟩
  exact ⟨rfl, Fr.refl _ _⟩

theorem count (h : One w0 w b n S) : Calls Try.prog 14 #[.pointer (some ⟨b, 0, none⟩)] w fun e w' => e = .returned (.int .i64 ((n : Int) - S.log.length)) ∧ Same' w w' := by
  obtain ⟨L, rfl, h2, h3, h4, h5, h6⟩ := h
  exact h2.count h3 h4

theorem size (h : One w0 w b n S) {x : Nat} (hx : x < n) : Calls Try.prog 22 #[.pointer (some ⟨b, 0, none⟩), .int .i64 x] w fun e w' => e = .returned (.int .i64 (S.t.s (S.t.r x) : Nat)) ∧ Same' w w' := by
  obtain ⟨L, rfl, h2, h3, h4, h5, h6⟩ := h
  exact h2.size_in h3 h4 hx

theorem trial (h : One w0 w b n S) (ao : Option Addr) (m c : Nat) (xs ys : Nat → Int) (hm : m ≤ 140737488351232)
    (hc : 0 < m → ∃ g off, ao = some ⟨g, off, none⟩ ∧ (∀ L : Lay, SetsS w L n S → ¬ L.mem g) ∧ ∀ i, i < m → w.cell? ⟨g, off + i * 2, none⟩ = some (.int .i64 (xs i)) ∧ w.cell? ⟨g, off + i * 2 + 1, none⟩ = some (.int .i64 (ys i))) :
    Calls Try.prog 26 #[.pointer (some ⟨b, 0, none⟩), .slice ao m c] w fun e w' => e = .returned (trialV n S m xs ys) ∧ One w0 w' b n S := by
  obtain ⟨L, rfl, h2, h3, h4, h5, h6⟩ := h
  refine (Trial_at h2 h3 h4 ao m c xs ys hm (fun h => by obtain ⟨g, off, e1, e2, e3⟩ := hc h; exact ⟨g, off, e1, e2 L h2, e3⟩)).mono ?_
  rintro e w' ⟨rfl, L', hS', hv⟩
  exact ⟨rfl, mv rfl h3 h4 h5 h6 hS' h3 hv⟩
end One

/-- Two such sets, apart. -/
def Duo (w0 w : World) (b n : Nat) (S : St) (c m : Nat) (R : St) : Prop :=
  ∃ L K : Lay, L.b = b ∧ SetsS w L n S ∧ S.Ok n ∧ n ≤ 65536 ∧ (∀ k, L.mem k → w0.heap.size ≤ k) ∧ K.b = c ∧ SetsS w K m R ∧ R.Ok m ∧ m ≤ 65536 ∧ (∀ k, K.mem k → w0.heap.size ≤ k) ∧ (∀ k, L.mem k → ¬ K.mem k) ∧ Same' w0 w

namespace Duo
variable {w0 w w' : World} {b n c m : Nat} {S R : St}

theorem symm (h : Duo w0 w b n S c m R) : Duo w0 w c m R b n S := by
  obtain ⟨L, K, h1, h2, h3, h4, h5, k1, k2, k3, k4, k5, hd, hf⟩ := h
  exact ⟨K, L, k1, k2, k3, k4, k5, h1, h2, h3, h4, h5, fun k hk hl => hd k hl hk, hf⟩

theorem one (h : Duo w0 w b n S c m R) : One w0 w b n S := by
  obtain ⟨L, K, h1, h2, h3, h4, h5, k1, k2, k3, k4, k5, hd, hf⟩ := h
  exact ⟨L, h1, h2, h3, h4, h5, hf⟩

theorem same (h : Duo w0 w b n S c m R) (hs : Same' w w') : Duo w0 w' b n S c m R := by
  obtain ⟨L, K, h1, h2, h3, h4, h5, k1, k2, k3, k4, k5, hd, hf⟩ := h
  exact ⟨L, K, h1, h2.same hs, h3, h4, h5, k1, k2.same hs, k3, k4, k5, hd, hf.trans hs⟩

theorem mv {L L' K : Lay} {S' : St} (h1 : L.b = b) (h4 : n ≤ 65536) (h5 : ∀ k, L.mem k → w0.heap.size ≤ k) (k1 : K.b = c) (k2 : SetsS w K m R) (k3 : R.Ok m) (k4 : m ≤ 65536) (k5 : ∀ k, K.mem k → w0.heap.size ≤ k)
    (hd : ∀ k, L.mem k → ¬ K.mem k) (hf : Same' w0 w) (hS' : SetsS w' L' n S') (hO' : S'.Ok n) (hv : Mv w w' L L') : Duo w0 w' b n S' c m R :=
  ⟨L', K, hv.b.trans h1, hS', hO', h4, fun k hk => by
    rcases hv.mem k hk with h | h
    · exact h5 k h
    · exact Nat.le_trans hf.size h, k1, k2.keep hv.fr (fun k hk hl => hd k hl hk), k3, k4, k5, fun k hk hk' => by
      rcases hv.mem k hk with h | h
      · exact hd k h hk'
      · have := SetsAt.memlt k2 k hk'
        omega, hf.trans' hv.fr (fun k hk hm' => by have := h5 k hm'; omega)⟩

theorem base (h : Duo w0 w b n S c m R) : Same' w0 w := by
  obtain ⟨L, K, h1, h2, h3, h4, h5, k1, k2, k3, k4, k5, hd, hf⟩ := h
  exact hf

theorem undo (h : Duo w0 w b n S c m R) {q : Nat} (hq : q ≤ S.log.length) :
    Calls Try.prog 16 #[.pointer (some ⟨b, 0, none⟩), .int .i64 q] w fun e w' => e = .returned (.int .i64 0) ∧ Duo w0 w' b n (S.back q) c m R := by
  obtain ⟨L, K, rfl, h2, h3, h4, h5, k1, k2, k3, k4, k5, hd, hf⟩ := h
  refine (h2.undo h3 h4 hq).mono ?_
  rintro e w' ⟨rfl, hS', hv⟩
  exact ⟨rfl, mv rfl h4 h5 k1 k2 k3 k4 k5 hd hf hS' (h3.back hq) hv⟩

theorem trial (h : Duo w0 w b n S c m R) (ao : Option Addr) (q cp : Nat) (xs ys : Nat → Int) (hm : q ≤ 140737488351232)
    (hc : 0 < q → ∃ g off, ao = some ⟨g, off, none⟩ ∧ (∀ L : Lay, SetsS w L n S → ¬ L.mem g) ∧ ∀ i, i < q → w.cell? ⟨g, off + i * 2, none⟩ = some (.int .i64 (xs i)) ∧ w.cell? ⟨g, off + i * 2 + 1, none⟩ = some (.int .i64 (ys i))) :
    Calls Try.prog 26 #[.pointer (some ⟨b, 0, none⟩), .slice ao q cp] w fun e w' => e = .returned (trialV n S q xs ys) ∧ Duo w0 w' b n S c m R := by
  obtain ⟨L, K, rfl, h2, h3, h4, h5, k1, k2, k3, k4, k5, hd, hf⟩ := h
  refine (Trial_at h2 h3 h4 ao q cp xs ys hm (fun h => by obtain ⟨g, off, e1, e2, e3⟩ := hc h; exact ⟨g, off, e1, e2 L h2, e3⟩)).mono ?_
  rintro e w' ⟨rfl, L', hS', hv⟩
  exact ⟨rfl, mv rfl h4 h5 k1 k2 k3 k4 k5 hd hf hS' h3 hv⟩
end Duo

theorem One.copy {w0 w : World} {b n : Nat} {S : St} (h : One w0 w b n S) :
    Calls Try.prog 28 #[.pointer (some ⟨b, 0, none⟩)] w fun e w' => ∃ c, e = .returned (.pointer (some ⟨c, 0, none⟩)) ∧ Duo w0 w' b n S c n S := by
  obtain ⟨L, rfl, h2, h3, h4, h5, hf⟩ := h
  refine (Copy_at L n _ _ S.log w h2 h4 (by have := h3.loglen; omega)).mono ?_
  rintro e w' ⟨K, rfl, hK, hs, hm⟩
  exact ⟨K.b, rfl, L, K, rfl, h2.same hs, h3, h4, h5, rfl, hK, h3, h4, fun k hk => Nat.le_trans hf.size (hm k hk), fun k hk hk' => by
    have := SetsAt.memlt h2 k hk
    have := hm k hk'
    omega, hf.trans hs⟩

/-- Sets that New has made are apart from those that were there. -/
theorem One.new {w0 w : World} {b n : Nat} {S : St} (h : One w0 w b n S) (m : Nat) (hm : m ≤ 65536) :
    Calls Try.prog 18 #[.int .i64 m] w fun e w' => ∃ c, e = .returned (.tuple #[.pointer (some ⟨c, 0, none⟩), .int .i64 0]) ∧ Duo w0 w' b n S c m St.zero ∧ One w w' c m St.zero := by
  obtain ⟨L, rfl, h2, h3, h4, h5, hf⟩ := h
  refine (New_S m hm w).mono ?_
  rintro e w' ⟨K, rfl, hK, hs, hm'⟩
  exact ⟨K.b, rfl, ⟨L, K, rfl, h2.same hs, h3, h4, h5, rfl, hK, St.zero_ok m, hm, fun k hk => Nat.le_trans hf.size (hm' k hk), fun k hk hk' => by
    have := SetsAt.memlt h2 k hk
    have := hm' k hk'
    omega, hf.trans hs⟩, K, rfl, hK, St.zero_ok m, hm, hm', hs⟩

theorem new_one (n : Nat) (hn : n ≤ 65536) (w : World) :
    Calls Try.prog 18 #[.int .i64 n] w fun e w' => ∃ b, e = .returned (.tuple #[.pointer (some ⟨b, 0, none⟩), .int .i64 0]) ∧ One w w' b n St.zero := by
  refine (New_S n hn w).mono ?_
  rintro e w' ⟨K, rfl, hK, hs, hm'⟩
  exact ⟨K.b, rfl, K, rfl, hK, St.zero_ok n, hn, hm', hs⟩

end Go.Proofs.Ytiaddgagncmbeaa
