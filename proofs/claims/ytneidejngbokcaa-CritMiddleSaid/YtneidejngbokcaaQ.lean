/- A region that draws its order, whose operations only read and whose callees make new blocks alone: one walk serves every order. -/
import Derived.Test.YtneidejngbokcaaM
namespace Go.Proofs.Ytneidejngbokcaa
open Go.RowKit

/-- A world to which w0 has come, no old block but those of M having changed. -/
structure Wd (M : Nat → Prop) (w0 : World) where
  w : World
  h : Fr M w0 w

instance (M : Nat → Prop) (w0 : World) : Nonempty (Wd M w0) := ⟨⟨w0, Fr.refl M w0⟩⟩

theorem wp_region_wd {P : Program} {id : Nat} {Q : Exit → Act → World → Prop} {a : Act} {w : World} {l : List Oper} (M : Nat → Prop) (w0 : World) (hm : P.follows .mixedOrders = true) (hB : Region.lexB .any l.toArray = true) (hC : Fr M w0 w)
    (h : wpQuiet P l.toArray (fun w' => ∃ x : Wd M w0, w' = x.w) (fun a' => ∀ w', (∃ x : Wd M w0, w' = x.w) → Q .normal a' w') l a) : (Code.region id l.toArray true).wp P Q a w :=
  wp_region_quiet (C := fun w' => ∃ x : Wd M w0, w' = x.w) hm hB ⟨⟨{ w with drawn := w.drawn + 1 }, hC.to rfl rfl rfl rfl⟩, rfl⟩ (by simpa using h)

theorem Wd.quiet {P : Program} {f : FuncId} {args : Array Value} {v : Value} {M : Nat → Prop} {w0 : World} {x : Wd M w0} (h : Calls P f args x.w fun e w'' => e = .returned v ∧ Fr M x.w w'') :
    Calls P f args x.w fun e w'' => e = .returned v ∧ ∃ y : Wd M w0, w'' = y.w :=
  h.mono fun _ w'' ⟨he, hf⟩ => ⟨he, ⟨w'', x.h.trans hf⟩, rfl⟩

theorem Wd.quiet_same {P : Program} {f : FuncId} {args : Array Value} {v : Value} {M : Nat → Prop} {w0 : World} {x : Wd M w0} (h : Calls P f args x.w fun e w'' => e = .returned v ∧ x.w = w'') :
    Calls P f args x.w fun e w'' => e = .returned v ∧ ∃ y : Wd M w0, w'' = y.w :=
  h.mono fun _ _ ⟨he, hf⟩ => ⟨he, x, hf.symm⟩

end Go.Proofs.Ytneidejngbokcaa
