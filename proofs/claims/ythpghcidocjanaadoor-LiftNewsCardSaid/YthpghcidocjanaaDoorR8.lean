/- LiftNews returns true for every input and leaves its arguments as they were: any parents: a table, or an error. Condition: the two tables of math/bits read as the program's text lays them (the card ties that). -/
import Derived.Test.YthpghcidocjanaaDoorN7
import Derived.Test.YthpghcidocjanaaDoorO
import Derived.Test.YthpghcidocjanaaDoorO2
import Derived.Test.YthpghcidocjanaaDoorCards
import Derived.Test.YthpghcidocjanaaDoorTie
import Derived.SevenTiedAt
import Derived.ShutString
import Derived.ChangeOld
namespace Go.Proofs.YthpghcidocjanaaDoor.liftNews
open Go.ChangeShapes Go.WideShapes Go.ChangeAt Go.RowKit
set_option linter.unusedVariables false

set_option maxRecDepth 100000 in
theorem lifted (os : Os) (started : os.Started) (H : Type) (enc : TypeId × Value → H) :
    ReturnsInHanded {} Tryd.checked os 5 .any (fun w args => (Rows.liftNewsSpec.pre enc Tryd.prog Tryd.f5 Rows.liftNewsRow.domain false w args ∧ laidMet Tryd.prog laidL w) ∧ sizedMet enc Tryd.prog Tryd.f5 (OpenSpec.ofChange Rows.liftNewsSpec) false w args)
      (Rows.liftNewsSpec.post enc Tryd.prog Tryd.f5 false true false false) := by
  refine returnsInHanded_of_change_and (C := Tryd.checked) (X := fun w _ => laidMet Tryd.prog laidL w) (fun _ _ _ hh h => h.of_heap hh) own started (by kernel_rfl) Tryd.func5
    (ChangeSpec.witness_at (enc := enc) (C := Tryd.checked) (os := os) (X := fun w _ => laidMet Tryd.prog laidL w) false (laidWorld os) #[.slice none 0 0, .agg #[.int .i64 0, .int .i64 0, .int .i64 0, .slice none 0 0, .int .i64 0]] 8 rfl (by kernel_rfl) (by kernel_rfl) (by kernel_rfl) (by kernel_rfl) (by kernel_rfl) (laidWorld_met os _)) ?_
  intro W base args ds gs before hval0 hW _ _ hL _
  have hval : ∀ (j : Nat) t v, Tryd.f5.params[j]? = some t → args[j]? = some v → Value.okWide Tryd.prog W .any base t v := hval0
  have hW' := hW
  obtain ⟨p, q, hA0, hV, rfl, hfz, hnd⟩ := hW
  have hA : DataW.TrodAll enc Tryd.prog W 0 (fun _ => true) true Tryd.f5.params.toList args.toList ds p := hA0
  rw [Tryd.params5] at hA hval
  obtain ⟨v0, vs0, d0, ds0, p0, q0, hargs, rfl, rfl, h0, r0⟩ := trodAll_cons hA
  obtain ⟨v1, vs1, d1, ds1, p1, q1, rfl, rfl, rfl, h1, r1⟩ := trodAll_cons r0
  obtain ⟨rfl, rfl, rfl⟩ := trodAll_nil r1
  obtain rfl : args = #[v0, v1] := by cases args; simp_all
  obtain ⟨rfl, rfl⟩ := trodVars_none hV
  have lt0 : ∀ x ∈ p0, x.block < W.heap.size := by obtain ⟨m, hm⟩ := h0; exact DataW.trod_lt m _ _ _ hm
  have lt1 : ∀ x ∈ p1, x.block < W.heap.size := by obtain ⟨m, hm⟩ := h1; exact DataW.trod_lt m _ _ _ hm
  obtain ⟨qo, qn, qc, qf, rfl, q1, q2, qh⟩ := open_nums Tryd.underlying25 Tryd.underlying3 (by kernel_rfl) (okWide_slice Tryd.underlying25 (hval 0 25 v0 rfl rfl)) h0
  obtain ⟨A, B, K, Mx, ko, kn, kc, key, rfl, k1, k2, hkey, wA, wB, wK, wM, wkey⟩ := open_ask (hval 1 36 v1 rfl rfl) h1
  have htz := tz_of_laid hL
  clear hA0 hval0
  refine (LiftNews_any (fun i hi => by obtain ⟨ad, g1, g2, _⟩ := qh i hi; exact ⟨ad, g1, g2⟩) (by omega) htz A B K Mx ko kn kc key (by omega) hkey).mono fun e W' ⟨he, bel0⟩ => ?_
  subst he
  have bel : Below W.heap.size W W' := bel0.below (Nat.le_refl _) (fun k _ h => h)
  exact ⟨_, rfl, _, _, _, [], _, [], hW', trodAll_mk1 (shut_bool Tryd.underlying4 _), (trodAll_cons_mk (Below.trod laidOut (by kernel_rfl) (of_decide_eq_true (by kernel_rfl)) h0 bel lt0) (trodAll_cons_mk (Below.trod laidOut (by kernel_rfl) (of_decide_eq_true (by kernel_rfl)) h1 bel lt1) trodAll_mk0)), rfl, bel.frame _, fun h => by cases h⟩

theorem over : Rows.liftNewsRow.holds Tryd.pinned (OpenSpec.ofChange Rows.liftNewsSpec) :=
  OpenClaim.holds_of_wide 5 Tryd.f5 rfl rfl rfl rfl rfl rfl rfl ⟨rfl, rfl, rfl, rfl, rfl⟩ rfl rfl rfl rfl rfl (by kernel_rfl) Tryd.func5 (by kernel_rfl)
    (of_decide_eq_true (by kernel_rfl)) (by unfold Func.isWrapper; first | (rw [if_pos (by decide +kernel)]; kernel_rfl) | (rw [if_neg (by decide +kernel)]; exact ⟨rfl, rfl⟩))
    (fun os started H enc _ => lifted os started H enc)

end Go.Proofs.YthpghcidocjanaaDoor.liftNews

namespace Go.Proofs.YthpghcidocjanaaDoor
open Go
set_option maxRecDepth 100000 in
/-- The statement: the tied card. -/
theorem liftNews_holds : Rows.LiftNewsCardSaid :=
  Claim7.holds_tied_plain_at .later [] [.data, .data] true (true, "d58a2b8d2ef762febafc7448a5ccc5b41ca205d32473076bfa97de823bfad49a") false
    liftNews.over (fun _ h => by cases h) (by kernel_rfl) (fun _ h => by cases h) liftNews_row_tie rfl ⟨rfl, rfl⟩ (by kernel_rfl) rfl
    (fun f fn hf hfn => by
      obtain rfl : f = 5 := by cases hf; rfl
      obtain rfl : fn = Tryd.f5 := (Option.some.inj (Tryd.func5.symm.trans hfn)).symm
      exact ⟨by kernel_rfl, fun j t ht => by
        have hall : (Tryd.f5.params.toList.all fun t => !Tryd.prog.wantsStandIn t) = true := by kernel_rfl
        have hm : t ∈ Tryd.f5.params.toList := by
          rw [Array.getElem?_eq_some_iff] at ht
          obtain ⟨hi, rfl⟩ := ht
          simp
        have h1 := List.all_eq_true.1 hall t hm
        have h2 : Tryd.prog.wantsStandIn t = false := by simpa using h1
        exact h2⟩)
    (by kernel_rfl)
#print axioms liftNews_holds
end Go.Proofs.YthpghcidocjanaaDoor
