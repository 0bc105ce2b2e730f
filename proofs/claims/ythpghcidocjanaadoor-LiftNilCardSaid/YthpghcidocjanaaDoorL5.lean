/- The law LiftNil, walked. -/
import Derived.Test.YthpghcidocjanaaDoorT19
import Derived.BigGuardPart
namespace Go.Proofs.YthpghcidocjanaaDoor
open Go.RowKit

/-- The zero table. -/
def zeroT : Array Value := #[.bool false, .slice none 0 0, .slice none 0 0, .slice none 0 0, .slice none 0 0, .slice none 0 0, .slice none 0 0, .slice none 0 0, .slice none 0 0, .slice none 0 0, .slice none 0 0, .slice none 0 0, .slice none 0 0, .slice none 0 0, .slice none 0 0, .slice none 0 0]

/-- What lies in the boxes of LiftNil. -/
structure NilS (w : World) (B0 : Nat) (A B K Mx : Int) (ko : Option Addr) (kn kc : Nat) (W : World) : Prop where
  fr : Same' w W
  tz : TzTab W
  c0 : W.cell? ⟨B0, 0, none⟩ = some (.int .i64 A)
  c1 : W.cell? ⟨B0, 1, none⟩ = some (.int .i64 B)
  c2 : W.cell? ⟨B0, 2, none⟩ = some (.int .i64 K)
  c3 : W.cell? ⟨B0, 3, none⟩ = some (.slice ko kn kc)
  c4 : W.cell? ⟨B0, 4, none⟩ = some (.int .i64 Mx)
  z0 : W.cell? ⟨B0 + 1, 0, none⟩ = some (.bool false)
  z1 : W.cell? ⟨B0 + 1, 15, none⟩ = some (.slice none 0 0)
  l0 : W.cell? ⟨B0 + 1 + 1, 0, none⟩ = some (.pointer none)
  l1 : W.cell? ⟨B0 + 1 + 1, 1, none⟩ = some (.pointer (some ⟨B0 + 1, 0, none⟩))

namespace NilS
variable {w W W' : World} {B0 : Nat} {A B K Mx : Int} {ko : Option Addr} {kn kc : Nat}

theorem step (h : NilS w B0 A B K Mx ko kn kc W) (hf : Same' W W') : NilS w B0 A B K Mx ko kn kc W' :=
  have k : ∀ {a : Addr} {v : Value}, W.cell? a = some v → W'.cell? a = some v := fun hc => (hf.cell (block_lt_of_cell hc) id).trans hc
  ⟨h.fr.trans hf, h.tz.keep hf id, k h.c0, k h.c1, k h.c2, k h.c3, k h.c4, k h.z0, k h.z1, k h.l0, k h.l1⟩

/-- Which table is asked. -/
def tb (B0 : Nat) : Nat → Option Addr
  | 0 => none
  | _ => some ⟨B0 + 1, 0, none⟩

theorem no (h : NilS w B0 A B K Mx ko kn kc W) (k : Nat) : NoNode W (tb B0 k) := by
  match k with
  | 0 => exact noNode_nil W
  | k + 1 => exact noNode_zero h.z1

theorem cl (h : NilS w B0 A B K Mx ko kn kc W) (k : Nat) (v mx : Int) (o : Option Addr) (x y : Nat) : Calls Tryd.prog 23 #[.pointer (tb B0 k), .int .i64 v, .slice o x y, .int .i64 mx] W fun e w' => e = retIE 0 1 ∧ NilS w B0 A B K Mx ko kn kc w' := by
  match k with
  | 0 => exact (Climb_nil W v mx o x y).mono fun _ _ hh => ⟨hh.1, h.step hh.2⟩
  | k + 1 => exact (Climb_zero h.z0 v mx o x y).mono fun _ _ hh => ⟨hh.1, h.step hh.2⟩

theorem lk (h : NilS w B0 A B K Mx ko kn kc W) {k : Nat} (hk : k < 2) : W.cell? ⟨B0 + 1 + 1, k, none⟩ = some (.pointer (tb B0 k)) := by
  match k, hk with
  | 0, _ => exact h.l0
  | 1, _ => exact h.l1
end NilS

set_option maxHeartbeats 4000000 in
set_option maxRecDepth 1000000 in
theorem LiftNil_any {w : World} (ht : TzTab w) (A B K Mx : Int) (ko : Option Addr) (kn kc : Nat) :
    Calls Tryd.prog 7 #[.agg #[.int .i64 A, .int .i64 B, .int .i64 K, .slice ko kn kc, .int .i64 Mx]] w fun e w' => e = .returned (.bool true) ∧ Same' w w' := by
  have HT := hide ht
  clear ht
  go_enter Tryd.func7, Tryd.ntmps7
  go_wp2_with fail
  refine wp_world (fun wr => NilS w w.heap.size A B K Mx ko kn kc wr) ⟨((((Fr.refl _ w).alloc _).alloc _).alloc _), HT.out.keep ((((Fr.refl (fun _ => False) w).alloc _).alloc _).alloc _) id, by go_simp, by go_simp, by go_simp, by go_simp, by go_simp, by go_simp, by go_simp, by go_simp, by go_simp⟩ ?_
  intro w0 hS
  go_loopg [6] 2 (fun f i wr => ∃ k : Nat, i = .int .i64 k ∧ k + f = 2 ∧ NilS w w.heap.size A B K Mx ko kn kc wr)
  case atStart => exact ⟨0, rfl, rfl, hS⟩
  case round =>
    clear hS
    obtain ⟨k, rfl, hk, hS⟩ := hrel
    by_cases hlt : k < 2
    · have hl := hS.lk hlt
      have hd : decide ((k : Int) < 2) = true := by simp; omega
      have HN := hide (fun W (h : NilS w w.heap.size A B K Mx ko kn kc W) => h.no k)
      have HC := hide (fun W (h : NilS w w.heap.size A B K Mx ko kn kc W) => h.cl k)
      have hk2 : (k : Int) < 2 := by omega
      generalize NilS.tb w.heap.size k = tp at hl HN HC
      have c0 := hS.c0; have c1 := hS.c1; have c2 := hS.c2; have c3 := hS.c3; have c4 := hS.c4
      go_wp2_with (first
        | (go_at_call 15; refine ((HN.out _ hS).root _).mono ?_; rintro e w2 ⟨rfl, hf⟩; replace hS := hS.step hf; clear hf; have c0 := hS.c0; have c1 := hS.c1; have c2 := hS.c2; have c3 := hS.c3; have c4 := hS.c4)
        | (go_at_call 16; refine ((HN.out _ hS).up _ _).mono ?_; rintro e w2 ⟨rfl, hf⟩; replace hS := hS.step hf; clear hf; have c0 := hS.c0; have c1 := hS.c1; have c2 := hS.c2; have c3 := hS.c3; have c4 := hS.c4)
        | (go_at_call 17; refine ((HN.out _ hS).common _ _).mono ?_; rintro e w2 ⟨rfl, hf⟩; replace hS := hS.step hf; clear hf; have c0 := hS.c0; have c1 := hS.c1; have c2 := hS.c2; have c3 := hS.c3; have c4 := hS.c4)
        | (go_at_call 18; refine ((HN.out _ hS).dist _ _).mono ?_; rintro e w2 ⟨rfl, hf⟩; replace hS := hS.step hf; clear hf; have c0 := hS.c0; have c1 := hS.c1; have c2 := hS.c2; have c3 := hS.c3; have c4 := hS.c4)
        | (go_at_call 23; refine (HC.out _ hS _ _ _ _ _).mono ?_; clear hS; rintro e w2 ⟨rfl, hS⟩; have c0 := hS.c0; have c1 := hS.c1; have c2 := hS.c2; have c3 := hS.c3; have c4 := hS.c4)
        | (go_at_call 24; refine (HN.out _ hS _ (Fr.refl _ _)).1.mono ?_; rintro e w2 ⟨rfl, rfl⟩)
        | (go_at_call 13; refine ((HN.out _ hS).depth _).mono ?_; rintro e w2 ⟨rfl, rfl⟩)
        | (go_at_call 25; refine ((HN.out _ hS).above _ _).mono ?_; rintro e w2 ⟨rfl, hf⟩; replace hS := hS.step hf; clear hf))
      go_roundg (gk - 1)
      case measure => omega
      case rel => exact ⟨k + 1, by go_num, by omega, hS⟩
    · have hd : decide ((k : Int) < 2) = false := by simp; omega
      go_wp2_with (go_at_call 14; refine (works_at hS.tz).mono ?_; rintro e w3 ⟨rfl, hf⟩)
      go_ret
      exact ⟨rfl, hS.fr.trans hf⟩

end Go.Proofs.YthpghcidocjanaaDoor
