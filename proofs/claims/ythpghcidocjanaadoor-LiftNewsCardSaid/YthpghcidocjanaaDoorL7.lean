/- The law LiftLoops, walked. -/
import Derived.Test.YthpghcidocjanaaDoorL3
import Derived.Test.YthpghcidocjanaaDoorP6
import Derived.Deep.Upon
namespace Go.Proofs.YthpghcidocjanaaDoor
open Go.RowKit Go.Deep

theorem owns_empty {w : World} {g e size : Nat} (h : w.heap[g]? = some (.cells #[] e)) : w.ownsRow 0 e size (.slice (some ⟨g, 0, none⟩) 0 0) 0 [] :=
  ⟨by simp, .inr ⟨g, 0, #[], rfl, Nat.zero_le _, h, Nat.le_refl _, Nat.zero_le _, by simp, by simp⟩⟩

/-- append of a slice's content to an empty literal that has just been made: a copy of one's own. -/
theorem wpList_copyK {P : Program} (w : World) {ops : Array Oper} {rest : List Oper} {o : Oper} {a : Act} {Q : Exit → Act → World → Prop} (hgd : o.guard = none) (s x : Operand) (t : TypeId)
    (ho : o.op = .call { callee := .builtin .append, args := #[s, x], argTypes := #[t, t] })
    (e : TypeId) (z : Value) (bytes : Nat) (ht : P.underlying t = some (.slice e)) (hinf : (P.info? e).map (fun i => (i.zero, i.size, i.bytes)) = some (some z, 1, bytes)) (hzs : z.cells.size = 1)
    (hs : a.eval s = .slice (some ⟨w.heap.size, 0, none⟩) 0 0)
    (ao : Option Addr) (m c : Nat) (f : Nat → Value) (hx : a.eval x = .slice ao m c) (hsrc : ∀ i, i < m → ∃ ad, ao = some ad ∧ w.cell? (ad.add i) = some (f i)) (_h1 : ∀ i, (f i).oneCell' = true)
    (h63 : m ≤ maxLen) (hbytes : m * bytes ≤ 140737488355328)
    (h : ∀ g' cap' w', Mine w w' e m f (some ⟨g', 0, none⟩) cap' →
      wpList P ops Q rest (a.put o.dst (.slice (some ⟨g', 0, none⟩) m cap')) w') : wpList P ops Q (o :: rest) a (w.alloc (.cells #[] e)) := by
  refine wpList_plain hgd fun K hK => ?_
  obtain ⟨i, hi, hz, hsize, hby⟩ := info_parts hinf
  have hown := owns_empty (w := w.alloc (.cells #[] e)) (size := 1) (heap_alloc_new w _)
  have hrun : ∃ g' cap' w', (Builtin.append_ #[t, t] o.type #[.slice (some ⟨w.heap.size, 0, none⟩) 0 0, .slice ao m c]).run P (w.alloc (.cells #[] e)) = .ok (.slice (some ⟨g', 0, none⟩) m cap') w' ∧
      w'.ownsRow 0 e 1 (.slice (some ⟨g', 0, none⟩) m cap') m ((List.range m).map f) ∧ Fr (fun _ => False) (w.alloc (.cells #[] e)) w' ∧ w.heap.size ≤ g' := by
    by_cases hm : m = 0
    · subst hm
      have hs : Src P i.size t (.slice ao 0 c) 0 [] (w.alloc (.cells #[] e)) := by
        cases ao with
        | none => exact Src.ofNil _ ht c
        | some ad => exact Src.ofSlice _ ht ad 0 c [] (by simp) (by intro j u hj; simp at hj) (by simp)
      exact ⟨w.heap.size, 0, w.alloc (.cells #[] e), run_append_nothing _ t t o.type e i ht hi _ 0 0 (Nat.le_refl _) _ hs, hown, Fr.refl _ _, Nat.le_refl _⟩
    · obtain ⟨ad, rfl, _⟩ := hsrc 0 (by omega)
      have hnews : ∀ j u, ((List.range m).map f)[j]? = some u → (w.alloc (.cells #[] e)).cell? (ad.add j) = some u := by
        intro j u hj
        have hjm : j < m := by
          have := (List.getElem?_eq_some_iff.1 hj).1
          simpa using this
        obtain ⟨ad', h1, h2⟩ := hsrc j hjm
        cases h1
        rw [List.getElem?_map, List.getElem?_range hjm] at hj
        simp at hj
        subst hj
        exact (((Fr.refl (fun _ => False) w).alloc _).cell (block_lt_of_cell h2) id).trans h2
      obtain ⟨v', w', hr, ho', hgr⟩ := run_append_arg_grows (P := P) (w.alloc (.cells #[] e)) t o.type e i z 1 bytes ht hi hz hsize hby hzs (by decide) ⟨w.heap.size, 0, none⟩ 0 0 [] (by simp) (by intro j u hj; simp at hj) ad m c _ (by simp) hnews (by omega) (by omega) (by rw [Nat.zero_add]; exact hbytes)
      rw [Nat.zero_add, List.nil_append] at ho'
      rcases ho'.2 with ⟨_, hn'⟩ | ⟨g', cap', cur', rfl, hb', r⟩
      · omega
      · exact ⟨g', cap', w', hr, ⟨ho'.1, .inr ⟨g', cap', cur', rfl, Nat.zero_le _, r⟩⟩, (Fr.refl _ _).grown hgr (fun k hk => by cases hk), by simp at hb'; omega⟩
  obtain ⟨g', cap', w', hr, how, hf, hb⟩ := hrun
  unfold Oper.wp execOp
  simp only [ho, resolve, invoke, builtin, Sem.run_bind, Sem.run_pure, Result.andThen_ok, List.map_toArray, List.map_cons, List.map_nil, hs, hx, hr]
  exact hK _ _ (h g' cap' w' ⟨how, fun k hk => by simp [blk] at hk; omega, ((Fr.refl _ w).alloc _).trans hf⟩)

theorem Mine.congr {w wr : World} {e : TypeId} {n : Nat} {f f' : Nat → Value} {ao : Option Addr} {c : Nat} (h : Mine w wr e n f ao c) (hf : ∀ i, i < n → f i = f' i) : Mine w wr e n f' ao c := by
  refine ⟨?_, h.blk, h.fr⟩
  have : (List.range n).map f' = (List.range n).map f := List.map_congr_left fun i hi => (hf i (List.mem_range.1 hi)).symm
  rw [this]
  exact h.own

theorem Mine.keep {w wr w' : World} {e : TypeId} {n : Nat} {f : Nat → Value} {ao : Option Addr} {c : Nat} (h : Mine w wr e n f ao c) (hf : Same' wr w') : Mine w w' e n f ao c := by
  refine ⟨?_, h.blk, h.fr.trans hf⟩
  rcases h.row with ⟨rfl, rfl⟩ | ⟨g, rfl, hr, _⟩
  · rcases h.own.2 with ⟨h1, _⟩ | ⟨g', _, _, h1, _⟩
    · simp only [Value.slice.injEq] at h1
      obtain ⟨_, _, rfl⟩ := h1
      exact World.ownsRow_nil _ _ _ _
    · simp at h1
  · exact (hr.keep hf id).owns

theorem oneI64V (p : Nat → Int) (i : Nat) : (i64V p i).oneCell' = true := rfl

/-- A list's next entry. -/
def upto (f : Nat → Int) (m : Nat) (x : Int) (i : Nat) : Int := if i = m then x else f i

set_option maxHeartbeats 8000000 in
set_option maxRecDepth 1000000 in
theorem LiftLoops_any {w : World} {ao : Option Addr} {m c : Nat} {l : Nat → Nat} (hl : ByAt w ao m l) (hmc : m ≤ c) (hm : c ≤ 9223372036854775807) (ht : TzTab w) (t : Bool)
    (x y : Nat) (hx : x < 65536) (hy : y < 65536) (num : Int) :
    Calls Tryd.prog 11 #[.slice ao m c, .bool t, .int .u16 x, .int .u16 y, .int .i64 num] w fun e w' => e = .returned (.bool true) ∧ Same' w w' := by
  have C := hide (made_at hl hmc hm ht t)
  clear hl ht hmc hm
  go_enter Tryd.func11, Tryd.ntmps11
  go_wp2_with fail
  refine C.out.mono ?_
  clear C
  rintro e w1 ⟨b0, n, po, pc, p, rfl, hn, hO⟩
  have hF := hide hO.F
  obtain ⟨ob, hmk⟩ : ∃ ob : Obj, ∀ w : World, (Instr.makeSlice 25 (.int .i64 8193) (.int .i64 8193)).run Tryd.prog w = .ok (.slice (some ⟨w.heap.size, 0, none⟩) 8193 8193) (w.alloc ob) :=
    ⟨_, fun w => run_make_row' (P := Tryd.prog) 25 3 (.int .i64 0) 8 Tryd.underlying25 info3 rfl .i64 .i64 8193 (by omega) (by omega) w⟩
  go_wp2_with fail
  refine (New_big _ _ 8193 _ (by omega) (by omega)).mono ?_
  rintro e w2 ⟨rfl, rfl⟩
  clear hmk
  replace hO := hO.step ((Fr.refl _ w1).alloc ob)
  obtain ⟨w2, hw2⟩ : ∃ w2, w2 = w1.alloc ob := ⟨_, rfl⟩
  rw [← hw2] at hO ⊢
  clear hw2
  by_cases h0 : n = 0
  · subst h0
    go_wp2_with ((go_at_call 14; refine (works_at hO.tz).mono ?_; rintro e w' ⟨rfl, hf⟩))
    go_ret
    exact ⟨rfl, hO.fr.trans hf⟩
  have g0 : ((n : Int) == 0) = false := by rw [beq_eq_false_iff_ne]; omega
  have hn0 : (0 : Int) < n := by omega
  obtain ⟨v, hv⟩ : ∃ v : Nat, (x : Int) % (n : Int) = (v : Nat) := ⟨x % n, (Int.natCast_emod x n).symm⟩
  have hvn : v < n := by
    have := Int.emod_lt_of_pos (x : Int) hn0
    omega
  have hni : (n : Int) ≤ 300 := by omega
  have HO := hide hO
  clear hO
  go_wp2_with fail
  rw [hv]
  clear hv
  have hAB : Hid (∀ u : Nat, u < n → abvR n p v u = inLine n p u (v : Int)) := fun u hu => abvR_in hF.out hvn hu
  have hself : Hid (inLine n p v (v : Int) = true) := inLine_iff.2 ⟨0, Nat.zero_le _, rfl⟩
  go_loopg [16, 17] n (fun g s i wr => ∃ (k q : Nat) (f : Nat → Int) (so : Option Addr) (sc : Nat), i = .int .i64 k ∧ k + g = n ∧ s = .slice so q sc ∧ q ≤ k ∧ Mine w2 wr 3 q (i64V f) so sc ∧ (∀ i, i < q → ∃ r : Nat, f i = r ∧ r < n ∧ inLine n p r (v : Int) = true) ∧ (v < k → 0 < q))
  case atStart => exact ⟨0, 0, fun _ => 0, none, 0, rfl, by omega, rfl, Nat.le_refl _, Mine.nil _ _ (Fr.refl _ _), fun i hi => by omega, fun h => by omega⟩
  case round =>
    obtain ⟨k, q, f, so, sc, rfl, hk, rfl, hqk, hM, hf, hq⟩ := hrel
    by_cases hlt : k < n
    · have hd : decide (k < n) = true := by simpa using hlt
      have HM := hide (And.intro hM (And.intro hf hq))
      clear hM hf hq
      have C := hide ((HO.out.step HM.out.1.fr).full.full.above (HO.out.step HM.out.1.fr).tz v k)
      cases hin : inLine n p k (v : Int) with
      | false =>
        have hab := (hAB.out k hlt).trans hin
        rw [hab] at C
        have HI := hide hin
        clear hin hab
        go_wp2_with fail
        refine C.out.mono ?_
        clear C
        rintro e w3 ⟨rfl, hf3⟩
        go_wp2_with fail
        go_roundg (gk - 1)
        case measure => omega
        case rel =>
          refine ⟨k + 1, q, f, so, sc, by go_num, by omega, rfl, by omega, HM.out.1.keep hf3, HM.out.2.1, fun h => ?_⟩
          by_cases e : k = v
          · subst e; exact absurd hself.out (by rw [HI.out]; simp)
          · exact HM.out.2.2 (by omega)
      | true =>
        have hab := (hAB.out k hlt).trans hin
        rw [hab] at C
        have HI := hide hin
        clear hin hab
        go_wp2_with fail
        refine C.out.mono ?_
        clear C
        rintro e w3 ⟨rfl, hf3⟩
        have HM3 := hide (HM.out.1.keep hf3)
        go_wp2_with (at_builtin; refine wpList_app1 _ rfl _ _ 25 rfl 3 (.int .i64 0) 8 Tryd.underlying25 info3 rfl so q sc ((List.range q).map (i64V f)) rfl HM3.out.own _ (.int .i64 k) rfl rfl (by unfold maxLen; omega) (by omega) ?_)
        intro g' cap' w4 hown4 hf4 hg4
        go_wp2
        go_roundg (gk - 1)
        case measure => omega
        case rel =>
          have hold : Mine w2 w3 3 q (i64V (upto f q k)) so sc := HM3.out.congr fun i hi => by unfold i64V upto; rw [if_neg (by omega)]
          have hown4' : w4.ownsRow 0 3 1 (.slice (some ⟨g', 0, none⟩) (q + 1) cap') (q + 1) ((List.range q).map (i64V (upto f q k)) ++ [.int .i64 k]) := by
            have e : (List.range q).map (i64V (upto f q k)) = (List.range q).map (i64V f) := List.map_congr_left fun i hi => by
              have := List.mem_range.1 hi
              unfold i64V upto; rw [if_neg (by omega)]
            rw [e]; exact hown4
          refine ⟨k + 1, q + 1, upto f q k, some ⟨g', 0, none⟩, cap', by go_num, by omega, rfl, by omega, hold.snoc (by unfold i64V upto; rw [if_pos rfl]) hown4' hf4 hg4, fun i hi => ?_, fun _ => by omega⟩
          by_cases e : i = q
          · exact ⟨k, by unfold upto; rw [if_pos e], hlt, HI.out⟩
          · obtain ⟨r, h1, h2⟩ := HM.out.2.1 i (by omega)
            exact ⟨r, by unfold upto; rw [if_neg e]; exact h1, h2⟩
    · have hd : decide (k < n) = false := by simpa using hlt
      obtain rfl : k = n := by omega
      have hq0 := hq hvn
      have gq : ((q : Int) == 0) = false := by rw [beq_eq_false_iff_ne]; omega
      obtain ⟨s, hs⟩ : ∃ s : Nat, (y : Int) % (q : Int) = (s : Nat) := ⟨y % q, (Int.natCast_emod y q).symm⟩
      have hsq : s < q := by
        have := Int.emod_lt_of_pos (y : Int) (show (0 : Int) < q by omega)
        omega
      obtain ⟨r, hr, hrn, hrl⟩ := hf s hsq
      rcases hM.row with ⟨_, h⟩ | ⟨g, rfl, hrow, hgw⟩
      · omega
      have HR := hide (And.intro hM hrl)
      clear hM hrl hq hf
      have hO4 := hide (HO.out.step HR.out.1.fr)
      go_wp2_with (at_builtin; refine wpList_copyK _ rfl _ _ 25 rfl 3 (.int .i64 0) 8 Tryd.underlying25 info3 rfl rfl po k pc (i64V p) rfl hO4.out.key (oneI64V p) (by unfold maxLen; omega) (by omega) ?_)
      intro g' cap' w4 hM4
      have hcu := (hrow.keep hM4.fr id).cell s hsq
      rw [show i64V f s = .int .i64 r by unfold i64V; rw [hr]] at hcu
      rcases hM4.row with ⟨h, _⟩ | ⟨g2, hg2, hrow4, hgw4⟩
      · cases h
      cases hg2
      have hne : g ≠ g' := by have := hrow.lt; omega
      have hcl := hrow4.cell v hvn
      have hfr := hrow4.free v
      have hvi : (v : Int) < k := by omega
      have hsi : (s : Int) < q := by omega
      have hvd : decide (v < k) = true := by simpa using hvn
      have H4 := hide (And.intro hrow4 hM4.fr)
      clear hrow hM4 hrow4
      go_wp2_with fail
      have hr1 : RowV (w4.setCell ⟨g', v, none⟩ (.int .i64 r)) g' 3 cap' k (i64V (turn p v r)) := (H4.out.1.set v hvn _).congr fun u hu => by unfold i64V turn; split <;> rfl
      have hf1 : Same' wr (w4.setCell ⟨g', v, none⟩ (.int .i64 r)) := H4.out.2.setCell _ _ (fun h => by simp at h; omega)
      refine (New_loop cap' (KeyAt.ofRow hr1) (by omega) (turn_par hF.out.par hrn) (turn_loop hrn HR.out.2)).mono ?_
      rintro e w5 ⟨rfl, hf5⟩
      have hrow5 := hr1.keep hf5 id
      have hcl5 := hrow5.cell v hvn
      have hfr5 := hrow5.free v
      have H5 := hide (And.intro hrow5 (hf1.trans hf5))
      clear hr1 hf1 hf5 hrow5 hcl hfr hcu
      have hset : ∀ (W : World) (z : Int) (f : Nat → Int), RowV W g' 3 cap' k (i64V f) → RowV (W.setCell ⟨g', v, none⟩ (.int .i64 z)) g' 3 cap' k (i64V (fun u => if u = v then z else f u)) := fun W z f hW =>
        (hW.set v hvn _).congr fun u hu => by by_cases h : u = v <;> simp [i64V, h]
      have hgw : ¬ g' < wr.heap.size := by omega
      have hN : ∀ (W : World) (z : Int), (∃ f : Nat → Int, RowV W g' 3 cap' k (i64V f)) ∧ Same' wr W → ¬ (-1 ≤ z ∧ z < k) → Calls Tryd.prog 19 #[.slice (some ⟨g', 0, none⟩) k cap'] (W.setCell ⟨g', v, none⟩ (.int .i64 z)) fun e w' => e = retPE none 3 ∧ (∃ f : Nat → Int, RowV w' g' 3 cap' k (i64V f)) ∧ Same' wr w' := by
        intro W z hW hz
        obtain ⟨⟨f, hW⟩, hWf⟩ := hW
        refine (New_par cap' (KeyAt.ofRow (hset W z f hW)) (by omega) (fun hp => hz ?_)).mono ?_
        · have := hp v hvn
          simpa using this
        · rintro e w' ⟨rfl, rfl⟩
          exact ⟨rfl, ⟨_, hset W z f hW⟩, hWf.setCell _ _ (fun h => hgw h)⟩
      have HN := hide hN
      clear hN hset
      have H5 : Hid ((∃ f : Nat → Int, RowV w5 g' 3 cap' k (i64V f)) ∧ Same' wr w5) := hide ⟨⟨_, H5.out.1⟩, H5.out.2⟩
      go_wp2_with fail
      all_goals
        refine (HN.out _ _ H5.out (by omega)).mono ?_
        rintro e w6 ⟨rfl, ⟨f6, hrow6⟩, hf6⟩
        have hcl6 := hrow6.cell v hvn
        have hfr6 := hrow6.free v
        have H6 : Hid ((∃ f : Nat → Int, RowV w6 g' 3 cap' k (i64V f)) ∧ Same' wr w6) := hide ⟨⟨_, hrow6⟩, hf6⟩
        clear hrow6 hf6 hcl5 hfr5
        go_wp2_with fail
      all_goals
        refine (HN.out _ _ H6.out (by omega)).mono ?_
        rintro e w7 ⟨rfl, _, hf7⟩
        have HO7 := hO4.out.step hf7
        go_wp2_with fail
      all_goals
        refine (works_at HO7.tz).mono ?_
        rintro e w' ⟨rfl, hf⟩
        go_wp2_with fail
        go_ret
        exact ⟨rfl, HO7.fr.trans hf⟩

end Go.Proofs.YthpghcidocjanaaDoor
