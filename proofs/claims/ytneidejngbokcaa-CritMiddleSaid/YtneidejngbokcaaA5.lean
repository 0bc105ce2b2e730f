import Derived.Test.YtneidejngbokcaaA0
import Derived.Test.YtneidejngbokcaaM
namespace Go.Proofs.Ytneidejngbokcaa
open Go.RowKit

/-- An operation on floats as the walk meets it. -/
theorem wpList_arith {P : Program} (w : World) {ops : Array Oper} {rest : List Oper} {o : Oper} {a : Act} {Q : Exit → Act → World → Prop} (hgd : o.guard = none) (op : BinOp) (t t2 : TypeId) (xo yo : Operand)
    (ho : o.op = .binOp op t xo yo t2) (hop : op = .add ∨ op = .sub ∨ op = .mul ∨ op = .quo) (x y : Nat) (hx : a.eval xo = .float .f64 x) (hy : a.eval yo = .float .f64 y)
    (h : ∀ r w', cls r = fop op (cls x) (cls y) → (w' = w ∨ w' = w.drew) → wpList P ops Q rest (a.put o.dst (.float .f64 r)) w') : wpList P ops Q (o :: rest) a w := by
  refine wpList_plain hgd fun K hK => ?_
  obtain ⟨r, w', hr, hc, hw⟩ := run_arith_cls (P := P) w op t x y hop
  unfold Oper.wp execOp
  have he : ∀ (x y : Operand) (a b : Value), (eqGuard op t x y a b).run P w = .ok () w := by
    intro x y a b
    rcases hop with rfl | rfl | rfl | rfl <;> rfl
  simp only [ho, Sem.run_bind, hx, hy, he, Result.andThen_ok, hr, Sem.run_pure]
  exact hK _ _ (h r w' hc hw)

end Go.Proofs.Ytneidejngbokcaa
