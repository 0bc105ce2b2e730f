/- The law LiftNews, walked. -/
import Derived.Test.YthpghcidocjanaaDoorN6
namespace Go.Proofs.YthpghcidocjanaaDoor
open Go.RowKit

/-- The same, where the block of the literal is written otherwise. -/
theorem wpList_copyK' {P : Program} (w : World) {ops : Array Oper} {rest : List Oper} {o : Oper} {a : Act} {Q : Exit → Act → World → Prop} (hgd : o.guard = none) (s x : Operand) (t : TypeId)
    (ho : o.op = .call { callee := .builtin .append, args := #[s, x], argTypes := #[t, t] })
    (e : TypeId) (z : Value) (bytes : Nat) (ht : P.underlying t = some (.slice e)) (hinf : (P.info? e).map (fun i => (i.zero, i.size, i.bytes)) = some (some z, 1, bytes)) (hzs : z.cells.size = 1)
    (gs : Nat) (hgs : gs = w.heap.size) (hs : a.eval s = .slice (some ⟨gs, 0, none⟩) 0 0)
    (ao : Option Addr) (m c : Nat) (f : Nat → Value) (hx : a.eval x = .slice ao m c) (hsrc : ∀ i, i < m → ∃ ad, ao = some ad ∧ w.cell? (ad.add i) = some (f i)) (h1 : ∀ i, (f i).oneCell' = true)
    (h63 : m ≤ maxLen) (hbytes : m * bytes ≤ 140737488355328)
    (h : ∀ g' cap' w', Mine w w' e m f (some ⟨g', 0, none⟩) cap' →
      wpList P ops Q rest (a.put o.dst (.slice (some ⟨g', 0, none⟩) m cap')) w') : wpList P ops Q (o :: rest) a (w.alloc (.cells #[] e)) := by
  subst hgs
  exact wpList_copyK w hgd s x t ho e z bytes ht hinf hzs hs ao m c f hx hsrc h1 h63 hbytes h

set_option maxHeartbeats 8000000 in
set_option maxRecDepth 1000000 in
theorem LiftNews_any {w : World} {ao : Option Addr} {m c : Nat} {p : Nat → Int} (hl : KeyAt w ao m p) (hm : m ≤ 9223372036854775807) (ht : TzTab w)
    (A B K Mx : Int) (ko : Option Addr) (kn kc : Nat) (key : Nat → Int) (hkn : kn ≤ 9223372036854775807) (hkey : KeyAt w ko kn key) :
    Calls Tryd.prog 5 #[.slice ao m c, .agg #[.int .i64 A, .int .i64 B, .int .i64 K, .slice ko kn kc, .int .i64 Mx]] w fun e w' => e = .returned (.bool true) ∧ Same' w w' := by
  have HL := hide (And.intro hl (And.intro ht hkey))
  clear hl ht hkey
  by_cases h1 : m ≤ 200
  · by_cases h2 : kn ≤ 300
    · have d1 : decide ((200 : Int) < (m : Int)) = false := by simp; omega
      have d2 : decide ((300 : Int) < (kn : Int)) = false := by simp; omega
      obtain ⟨ec, N, z, ho⟩ := out_ex m p
      have HO := hide ho
      clear ho
      go_enter Tryd.func5, Tryd.ntmps5
      have hKb : KeyAt (w.alloc (Obj.cells #[Value.int .i64 A, Value.int .i64 B, Value.int .i64 K, Value.slice ko kn kc, Value.int .i64 Mx] 36)) ao m p := HL.out.1.keep ((Fr.refl _ w).alloc _)
      have hnew := heap_alloc_new w (Obj.cells #[Value.int .i64 A, Value.int .i64 B, Value.int .i64 K, Value.slice ko kn kc, Value.int .i64 Mx] 36)
      go_wp2_with (at_builtin; refine wpList_copyK' (w.alloc (Obj.cells #[Value.int .i64 A, Value.int .i64 B, Value.int .i64 K, Value.slice ko kn kc, Value.int .i64 Mx] 36)) rfl _ _ 25 rfl 3 (.int .i64 0) 8 Tryd.underlying25 info3 rfl _ (by simp) rfl ao m c (i64V p) rfl hKb (oneI64V p) (by unfold maxLen; omega) (by omega) ?_)
      intro gi ci w2 hM
      have hf0 : Same' w (w.alloc (Obj.cells #[Value.int .i64 A, Value.int .i64 B, Value.int .i64 K, Value.slice ko kn kc, Value.int .i64 Mx] 36)) := (Fr.refl _ w).alloc _
      generalize w.alloc (Obj.cells #[Value.int .i64 A, Value.int .i64 B, Value.int .i64 K, Value.slice ko kn kc, Value.int .i64 Mx] 36) = w1 at *
      have hgl := lt_of_block hnew
      have HB : Hid (∀ W, Same' w1 W → W.heap[w.heap.size]? = some (Obj.cells #[Value.int .i64 A, Value.int .i64 B, Value.int .i64 K, Value.slice ko kn kc, Value.int .i64 Mx] 36 (0, 0))) := fun W hW => (hW.block w.heap.size hgl id).trans hnew
      clear hnew hKb
      rcases hM.row with ⟨h, _⟩ | ⟨gi', hgi, hrow, hgw⟩
      · cases h
      cases hgi
      have HW1 := hide (And.intro hf0 hM.fr)
      have HRow := hide hrow
      clear hM hf0 hrow
      go_wp2_with fail
      refine (New_any ci HO.out (KeyAt.ofRow HRow.out) (by omega) (HL.out.2.1.keep (HW1.out.1.trans HW1.out.2) id)).mono ?_
      rintro e w3 ⟨to, rfl, hto, hLt, hf3⟩
      go_wp2_with fail
      refine (RNew_any c HO.out (HL.out.1.keep ((HW1.out.1.trans HW1.out.2).trans hf3)) (by omega)).mono ?_
      rintro e w4 ⟨ro, rfl, hro, hRt, hf4⟩
      have hgi2 := HRow.out.lt
      have hrow4 := (HRow.out.keep hf3 id).keep hf4 id
      have hee : (ec != ec) = false := by simp
      have HH := hide (And.intro hLt (And.intro hRt (And.intro hf3 (And.intro hf4 hrow4))))
      clear hLt hRt hf3 hf4 hrow4
      rcases hto with ⟨rfl, rfl⟩ | ⟨rfl, bt, rfl⟩ <;> rcases hro with ⟨hz, rfl⟩ | ⟨hz, br, rfl⟩ <;> first | cases hz | skip
      all_goals
        have HX : Hid (∀ W, Fr (fun k => k = gi) w4 W → LifN w2.heap.size W _ N p ∧ RefN w3.heap.size W _ N p ∧ KeyAt W ao m p ∧ KeyAt W ko kn key ∧ TzTab W ∧ Same' w1 W ∧ Same' w W) := fun W hW =>
          have hw1 : Same' w1 W := ((HW1.out.2.trans HH.out.2.2.1).trans HH.out.2.2.2.1).trans' hW (fun k hk e => by omega)
          have hw : Same' w W := HW1.out.1.trans hw1
          have hsz := HH.out.2.2.1.size
          have htz := HL.out.2.1.keep hw id
          ⟨(HH.out.1.same HH.out.2.2.2.1).keep hW (fun k hk e => by omega) htz, HH.out.2.1.keep hW (fun k hk e => by omega), HL.out.1.keep hw, HL.out.2.2.keep hw, htz, hw1, hw⟩
        have hrow4 := HH.out.2.2.2.2
        clear HH
        go_wp2_with fail
        go_loopg [10] m (fun z i wr => ∃ k : Nat, k + z = m ∧ i = .int .i64 k ∧ RowV wr gi 3 ci m (i64V fun u => if u < k then -1 else p u) ∧ Fr (fun k => k = gi) w4 wr)
        case atStart => exact ⟨0, by omega, rfl, hrow4.congr fun u hu => by simp [i64V], Fr.refl _ _⟩
        case round =>
          obtain ⟨k, hk, rfl, hR, hf⟩ := hrel
          clear hrow4
          by_cases hlt : k < m
          · have hd : decide (k < m) = true := by simpa using hlt
            have hc : wr.cell? ⟨gi, k, none⟩ = some (.int .i64 (p k)) := by rw [hR.cell k hlt]; simp [i64V]
            have hfz := hR.free k
            obtain ⟨ad, rfl, hc2⟩ := (HX.out _ hf).2.2.1 k hlt
            have hb : (p k != p k) = false := by simp
            have hcap : m ≤ ci := by obtain ⟨_, _, h, _⟩ := hR; exact h
            have hki : (k : Int) < m := by omega
            have HR := hide hR
            clear hR
            go_wp2
            go_quiet (fail)
            go_wp2
            go_roundg (gk - 1)
            case measure => omega
            case rel => exact ⟨k + 1, by omega, by go_num, ((HR.out.drewN _).set k hlt _).congr fun u hu => by (by_cases e : u = k; (· subst e; simp [i64V]); (by_cases e2 : u < k; (· simp [i64V, e, e2, show u < k + 1 by omega]); simp [i64V, e, e2, show ¬ u < k + 1 by omega])), (hf.drewN _).setCell _ _ (fun _ => rfl)⟩
          · have hd : decide (k < m) = false := by simpa using hlt
            obtain ⟨t1, t2, t3, t4, t5, t6, t7⟩ := HX.out _ hf
            obtain ⟨c0, c1, c2, c3, c4⟩ := ask_cells (HB.out _ t6)
            have HT := hide (And.intro t5 t7)
            have C := hide (agree_at t1 t2 rfl A B K Mx ko kn kc key h2 t4)
            clear t1 t2 t3 t4 t5 t6 t7
            go_wp2_with fail
            refine C.out.mono ?_
            rintro e w5 ⟨rfl, hf5⟩
            go_wp2_with fail
            refine (works_at (HT.out.1.keep hf5 id)).mono ?_
            rintro e w6 ⟨rfl, hf6⟩
            go_wp2_with fail
            go_ret
            exact ⟨rfl, (HT.out.2.trans hf5).trans hf6⟩
    · have d1 : decide ((200 : Int) < (m : Int)) = false := by simp; omega
      have d2 : decide ((300 : Int) < (kn : Int)) = true := by simp; omega
      go_enter Tryd.func5, Tryd.ntmps5
      go_wp2_with fail
      refine (works_at ((HL.out.2.1.keep ((Fr.refl (fun _ => False) w).alloc _) id))).mono ?_
      rintro e w5 ⟨rfl, hf5⟩
      go_wp2_with fail
      go_ret
      exact ⟨rfl, ((Fr.refl _ w).alloc _).trans hf5⟩
  · have d1 : decide ((200 : Int) < (m : Int)) = true := by simp; omega
    go_enter Tryd.func5, Tryd.ntmps5
    go_wp2_with fail
    refine (works_at ((HL.out.2.1.keep ((Fr.refl (fun _ => False) w).alloc _) id))).mono ?_
    rintro e w5 ⟨rfl, hf5⟩
    go_wp2_with fail
    go_ret
    exact ⟨rfl, ((Fr.refl _ w).alloc _).trans hf5⟩

end Go.Proofs.YthpghcidocjanaaDoor
