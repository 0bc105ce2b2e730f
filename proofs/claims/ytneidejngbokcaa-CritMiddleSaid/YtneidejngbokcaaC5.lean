/- Walks: the sign in Cross. -/
import Derived.Test.YtneidejngbokcaaC4
import Derived.Deep.RegionHeld3
namespace Go.Proofs.Ytneidejngbokcaa
open Go.RowKit

/-- How two averages compare. -/
def sgC (a b : Cl) : Int := if ordC a b = some .lt then -1 else if ordC a b = some .gt then 1 else 0

set_option maxHeartbeats 2000000 in
theorem sign29_at {w : World} {b1 b2 bx bz : Nat} {ao zo : Option Addr} {n m c d : Nat} {f g : Nat → Nat} {p : Nat}
    (c1 : w.cell? ⟨b1, 0, none⟩ = some (.func (.func 42) #[] #[.pointer (some ⟨bx, 0, none⟩)])) (c2 : w.cell? ⟨b2, 0, none⟩ = some (.func (.func 42) #[] #[.pointer (some ⟨bz, 0, none⟩)]))
    (cx : w.cell? ⟨bx, 0, none⟩ = some (.slice ao n c)) (cz : w.cell? ⟨bz, 0, none⟩ = some (.slice zo m d)) (hf : FlAt w ao n f) (hg : FlAt w zo m g) (hv : valB n f = true) (hu : valB m g = true) (hp : probB p = true) :
    Calls Try.prog 29 #[.float .f64 p, .pointer (some ⟨b1, 0, none⟩), .pointer (some ⟨b2, 0, none⟩)] w fun e w' => e = .returned (.int .i64 (sgC (avC n (fun i => cls (f i)) p) (avC m (fun i => cls (g i)) p))) ∧ Same' w w' := by
  have CX := hide (fun (W : World) (h : Same' w W) => (at42 (cell_same cx h) (hf.keep h) hv hp).mono (R' := fun e w' => ∃ a, e = .returned (.float .f64 a) ∧ cls a = avC n (fun i => cls (f i)) p ∧ Same' w w') (fun e w' ⟨a, h1, h2, h3⟩ => ⟨a, h1, h2, h.trans h3⟩))
  have CZ := hide (fun (W : World) (h : Same' w W) => (at42 (cell_same cz h) (hg.keep h) hu hp).mono (R' := fun e w' => ∃ a, e = .returned (.float .f64 a) ∧ cls a = avC m (fun i => cls (g i)) p ∧ Same' w w') (fun e w' ⟨a, h1, h2, h3⟩ => ⟨a, h1, h2, h.trans h3⟩))
  have KS := hide (fun (W : World) (h : Same' w W) => And.intro (cell_same c1 h) (cell_same c2 h))
  have h0 : Same' w w.drew := (Fr.refl _ w).to rfl rfl rfl rfl
  clear hf hg hv hu hp cx cz
  go_enter Try.func29, Try.ntmps29
  go_wp2_with fail
  go_region_held3 (fun w' => w'.cell? ⟨b1, 0, none⟩ = some (.func (.func 42) #[] #[.pointer (some ⟨bx, 0, none⟩)]) ∧ w'.cell? ⟨b2, 0, none⟩ = some (.func (.func 42) #[] #[.pointer (some ⟨bz, 0, none⟩)])) (first | exact KS.out _ h0 | exact KS.out _ (by assumption))
    (first
      | (go_at_call 42; (with_reducible refine (CX.out _ (by assumption)).mono ?_); rintro e wx ⟨ax, rfl, hax, hfx⟩)
      | (go_at_call 42; (with_reducible refine (CZ.out _ (by assumption)).mono ?_); rintro e wz ⟨az, rfl, haz, hfz⟩))
  all_goals
    have hs : sgC (avC n (fun i => cls (f i)) p) (avC m (fun i => cls (g i)) p) = if ordr ax az = some .lt then -1 else if ordr ax az = some .gt then 1 else 0 := by
      rw [← hax, ← haz]; unfold sgC; rw [ordC_cls]
    have HS := hide hs
    first
      | (have HF : Hid (Same' w wz) := hide hfz; clear hfz hfx hax haz hs CX CZ KS h0)
    rcases ho : FloatKind.f64.format.order ax az with _ | _ | _ | _
    all_goals
      have HO : Hid (ordr ax az = _) := hide ho
      go_wp2_with fail
      go_ret
      refine ⟨ret_int ?_, by first | exact hfz | exact hfx | exact HF.out⟩
      rw [HS.out, HO.out]; rfl
end Go.Proofs.Ytneidejngbokcaa
