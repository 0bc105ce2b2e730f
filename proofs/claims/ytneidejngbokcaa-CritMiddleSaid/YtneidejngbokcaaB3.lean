/- Walks: the step of binomial. -/
import Derived.Test.YtneidejngbokcaaB2
namespace Go.Proofs.Ytneidejngbokcaa
open Go.RowKit

/-- The word of a product that is none. -/
def nanW (x y : Nat) (w : World) : Nat := Question.cut (.nanBits .f64 x y) (w.tape w.drawn (.nanBits .f64 x y))
theorem nanW_nan (x y : Nat) (w : World) : isN (nanW x y w) = true := cut_nan _ _ _
theorem cls_nan {x : Nat} (h : isN x = true) : cls x = none := by unfold cls; rw [h]; rfl

theorem run_none {P : Program} (op : BinOp) (t : TypeId) (x y : Nat) (hop : op = .add ∨ op = .sub ∨ op = .mul ∨ op = .quo) (h : floatBits op .f64 x y = none) (w : World) :
    (binOp op t (.float .f64 x) (.float .f64 y)).run P w = .ok (.float .f64 (nanW x y w)) w.drew := by
  unfold nanW
  unfold floatBits at h
  rcases hop with rfl | rfl | rfl | rfl <;> simp only at h <;> simp [binOp, Op.floatArith, h, Question.forced]

theorem cls_some {op : BinOp} {x y r : Nat} (h : floatBits op .f64 x y = some r) : cls r = fop op (cls x) (cls y) := by
  rw [fop_cls, h]; unfold cls; rw [floatBits_ok h]; rfl

theorem cls_none {op : BinOp} {x y r : Nat} (h : floatBits op .f64 x y = none) (hr : isN r = true) : cls r = fop op (cls x) (cls y) := by
  rw [fop_cls, h, cls_nan hr]

/-- A box that holds a row, the row, and nothing else has changed. -/
structure StI (w0 : World) (b g n : Nat) (x : Nat → Nat) (w : World) : Prop where
  box : w.cell? ⟨b, 0, none⟩ = some (.slice (some ⟨g, 0, none⟩) n n)
  row : RowV w g 24 n n (fun i => .float .f64 (x i))
  fr : Fr (fun k => k = g) w0 w
theorem StI.drew {w0 : World} {b g n : Nat} {x : Nat → Nat} (w : World) (h : StI w0 b g n x w) : StI w0 b g n x w.drew := ⟨h.box, h.row.of_block rfl, h.fr.to rfl rfl rfl rfl⟩

set_option maxHeartbeats 1000000 in
theorem step_at {w : World} {b g n : Nat} {x : Nat → Nat} (hb : w.cell? ⟨b, 0, none⟩ = some (.slice (some ⟨g, 0, none⟩) n n)) (hR : RowV w g 24 n n (fun i => .float .f64 (x i))) {i j odds : Nat} {over under : Int} (hi : i < n) (hj : j < n) :
    Calls Try.prog 52 #[.int .i64 i, .int .i64 j, .int .i64 over, .int .i64 under, .float .f64 odds, .pointer (some ⟨b, 0, none⟩)] w fun e w' =>
      ∃ r, e = .returned (.tuple #[]) ∧ cls r = fop .mul (fop .mul (cls (x i)) (fop .quo (fI over) (fI under))) (cls odds) ∧ RowV w' g 24 n n (fun l => .float .f64 (if l = j then r else x l)) ∧ Fr (fun k => k = g) w w' := by
  have hS : StI w b g n x w := ⟨hb, hR, Fr.refl _ w⟩
  clear hb hR
  go_enter Try.func52, Try.ntmps52
  go_wp2_with (refine wpList_arithK (StI w b g n x) hS StI.drew rfl .quo 24 24 _ _ rfl (by simp) _ _ rfl rfl ?_)
  clear hS
  rintro q w1 hq ⟨hb, hR, hf⟩
  simp only [cls_flI] at hq
  have hc := hR.cell i hi
  have hc2 := hR.cell j hj
  have hz := hR.free j
  have hi2 : (i : Int) < n := by omega
  have hj2 : (j : Int) < n := by omega
  have HQ := hide hq
  have HR := hide hR
  have HF := hide hf
  clear hq hR hf
  cases e1 : floatBits .mul .f64 (x i) q with
  | some r1 =>
    have h1 : ∀ w, (binOp .mul 24 (.float .f64 (x i)) (.float .f64 q)).run Try.prog w = .ok (.float .f64 r1) w := fun w => run_float_arith w .mul 24 .f64 _ _ _ e1
    cases e2 : floatBits .mul .f64 r1 odds with
    | some r2 =>
      have h2 : ∀ w, (binOp .mul 24 (.float .f64 r1) (.float .f64 odds)).run Try.prog w = .ok (.float .f64 r2) w := fun w => run_float_arith w .mul 24 .f64 _ _ _ e2
      have c1 := cls_some e1
      have c2 := cls_some e2
      rw [c1, HQ.out] at c2
      have C2 := hide c2
      clear e1 e2 c1 c2
      go_wp2_with fail
      go_region
      go_wp2_with fail
      go_end0
      exact ⟨r2, rfl, C2.out, ((HR.out.set j hj _).congr (fun l _ => by by_cases e : l = j <;> simp [e])).of_block rfl, (HF.out.setCell _ _ (fun _ => rfl)).to rfl rfl rfl rfl⟩
    | none =>
      have h2 : ∀ w, (binOp .mul 24 (.float .f64 r1) (.float .f64 odds)).run Try.prog w = .ok (.float .f64 (nanW r1 odds w)) w.drew := run_none .mul 24 r1 odds (by simp) e2
      have c1 := cls_some e1
      have c2 : ∀ w, cls (nanW r1 odds w) = _ := fun w => cls_none e2 (nanW_nan _ _ w)
      rw [c1, HQ.out] at c2
      have C2 := hide c2
      clear e1 e2 c1 c2
      go_wp2_with fail
      go_region
      go_wp2_with fail
      go_end0
      exact ⟨nanW r1 odds w1.drew, rfl, C2.out _, ((HR.out.set j hj _).congr (fun l _ => by by_cases e : l = j <;> simp [e])).of_block rfl, (HF.out.setCell _ _ (fun _ => rfl)).to rfl rfl rfl rfl⟩
  | none =>
    have h1 : ∀ w, (binOp .mul 24 (.float .f64 (x i)) (.float .f64 q)).run Try.prog w = .ok (.float .f64 (nanW (x i) q w)) w.drew := run_none .mul 24 _ _ (by simp) e1
    have h2 : ∀ w w', (binOp .mul 24 (.float .f64 (nanW (x i) q w')) (.float .f64 odds)).run Try.prog w = .ok (.float .f64 (nanW (nanW (x i) q w') odds w)) w.drew := fun w w' => run_none .mul 24 _ _ (by simp) (floatBits_nan (.inl (nanW_nan _ _ _))) w
    have c2 : ∀ w w', cls (nanW (nanW (x i) q w') odds w) = fop .mul (cls (nanW (x i) q w')) (cls odds) := fun w w' => cls_none (floatBits_nan (.inl (nanW_nan _ _ _))) (nanW_nan _ _ w)
    have c1 : ∀ w, cls (nanW (x i) q w) = _ := fun w => cls_none e1 (nanW_nan _ _ w)
    have C2 : Hid (∀ w w', cls (nanW (nanW (x i) q w') odds w) = fop .mul (fop .mul (cls (x i)) (fop .quo (fI over) (fI under))) (cls odds)) := fun w w' => by rw [c2, c1, HQ.out]
    clear e1 c1 c2
    go_wp2_with fail
    go_region
    go_wp2_with fail
    go_end0
    exact ⟨nanW (nanW (x i) q w1.drew) odds w1.drew.drew, rfl, C2.out _ _, ((HR.out.set j hj _).congr (fun l _ => by by_cases e : l = j <;> simp [e])).of_block rfl, (HF.out.setCell _ _ (fun _ => rfl)).to rfl rfl rfl rfl⟩
theorem step_atI {w : World} {b g n : Nat} {x : Nat → Nat} (hb : w.cell? ⟨b, 0, none⟩ = some (.slice (some ⟨g, 0, none⟩) n n)) (hR : RowV w g 24 n n (fun i => .float .f64 (x i))) {i j odds : Nat} {ii jj over under : Int} (hii : ii = i) (hjj : jj = j) (hi : i < n) (hj : j < n) :
    Calls Try.prog 52 #[.int .i64 ii, .int .i64 jj, .int .i64 over, .int .i64 under, .float .f64 odds, .pointer (some ⟨b, 0, none⟩)] w fun e w' =>
      ∃ r, e = .returned (.tuple #[]) ∧ cls r = fop .mul (fop .mul (cls (x i)) (fop .quo (fI over) (fI under))) (cls odds) ∧ RowV w' g 24 n n (fun l => .float .f64 (if l = j then r else x l)) ∧ Fr (fun k => k = g) w w' := by
  subst hii hjj; exact step_at hb hR hi hj

end Go.Proofs.Ytneidejngbokcaa
