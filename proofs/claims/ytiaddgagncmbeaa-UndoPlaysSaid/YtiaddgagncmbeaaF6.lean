/- Walks of the document's sets: Size, Count, Mark, Labels. -/
import Derived.Test.YtiaddgagncmbeaaF5
namespace Go.Proofs.Ytiaddgagncmbeaa
open Go.RowKit

/-- append to an empty slice that has just been made, as the walk meets it. -/
theorem wpList_copy {P : Program} (w : World) {ops : Array Oper} {rest : List Oper} {o : Oper} {a : Act} {Q : Exit → Act → World → Prop} (hgd : o.guard = none) (s x : Operand) (t : TypeId)
    (ho : o.op = .call { callee := .builtin .append, args := #[s, x], argTypes := #[t, t] })
    (e : TypeId) (z : Value) (size bytes : Nat) (ht : P.underlying t = some (.slice e)) (hinf : (P.info? e).map (fun i => (i.zero, i.size, i.bytes)) = some (some z, size, bytes)) (hzs : z.cells.size = size) (hsz : 0 < size)
    (hs : a.eval s = .slice (some ⟨w.heap.size, 0, none⟩) 0 0)
    (ao : Option Addr) (m c : Nat) (news : List Value) (hx : a.eval x = .slice ao m c) (hsrc : w.ownsRow 0 e size (.slice ao m c) m news) (h1 : ∀ u ∈ news, u.oneCell' = true)
    (h63 : m ≤ maxLen) (hbytes : m * bytes ≤ 140737488355328)
    (h : ∀ g' cap' w', w'.ownsRow 0 e size (.slice (some ⟨g', 0, none⟩) m cap') m news → Fr (fun _ => False) w w' → w.heap.size ≤ g' →
      wpList P ops Q rest (a.put o.dst (.slice (some ⟨g', 0, none⟩) m cap')) w') : wpList P ops Q (o :: rest) a (w.alloc (.cells #[] e)) := by
  refine wpList_plain hgd fun K hK => ?_
  obtain ⟨i, hi, hz, hsize, hby⟩ := info_parts hinf
  obtain ⟨g', cap', w', hr, how, hf, hb⟩ := run_copy (P := P) (w.alloc (.cells #[] e)) t o.type e i z size bytes ht hi hz hsize hby hzs hsz w.heap.size (owns_empty (bk_new rfl)) ao m c news (hsrc.alloc _) h1 h63 hbytes
  unfold Oper.wp execOp
  simp only [ho, resolve, invoke, builtin, Sem.run_bind, Sem.run_pure, Result.andThen_ok, List.map_toArray, List.map_cons, List.map_nil, hs, hx, hr]
  refine hK _ _ (h g' cap' w' how (((Fr.refl _ w).alloc _).trans hf) ?_)
  rcases hb with rfl | h'
  · exact Nat.le_refl _
  · simp at h'
    omega

set_option maxHeartbeats 400000 in
theorem RMark_nil (w : World) : Calls Try.prog 36 #[.pointer none] w fun e w' => e = .returned (.int .i64 0) ∧ w = w' := by
  go_enter Try.func36, Try.ntmps36
  go_wp2_with (go_at_call 40; refine (rvalid_nil _).mono ?_; rintro e w' ⟨rfl, rfl⟩)
  go_ret
  exact ⟨rfl, rfl⟩

set_option maxHeartbeats 400000 in
theorem RCount_nil (w : World) : Calls Try.prog 35 #[.pointer none] w fun e w' => e = .returned (.int .i64 0) ∧ w = w' := by
  go_enter Try.func35, Try.ntmps35
  go_wp2_with (go_at_call 40; refine (rvalid_nil _).mono ?_; rintro e w' ⟨rfl, rfl⟩)
  go_ret
  exact ⟨rfl, rfl⟩

set_option maxHeartbeats 400000 in
theorem RLabels_nil (w : World) : Calls Try.prog 37 #[.pointer none] w fun e w' => e = .returned (.slice none 0 0) ∧ w = w' := by
  go_enter Try.func37, Try.ntmps37
  go_wp2_with (go_at_call 40; refine (rvalid_nil _).mono ?_; rintro e w' ⟨rfl, rfl⟩)
  go_ret
  exact ⟨rfl, rfl⟩

set_option maxHeartbeats 400000 in
theorem RSize_nil (w : World) (a : Int) : Calls Try.prog 34 #[.pointer none, .int .i64 a] w fun e w' => e = .returned (.int .i64 0) ∧ w = w' := by
  go_enter Try.func34, Try.ntmps34
  go_wp2_with (go_at_call 41; refine (rhas_nil _ _).mono ?_; rintro e w' ⟨rfl, rfl⟩)
  go_ret
  exact ⟨rfl, rfl⟩

section
variable {M : Nat → Prop} {w : World} {b n : Nat} {S : St} {v : Value} {ap : Option Addr} {cp : Nat} {vs : List Value}

set_option maxHeartbeats 400000 in
theorem RMark_at (h : RefB M w b n S v ap cp vs) : Calls Try.prog 36 #[.pointer (some ⟨b, 0, none⟩)] w fun e w' => e = .returned (.int .i64 (S.log.length : Nat)) ∧ w = w' := by
  have C := hide (rvalid_at b w h.c0)
  have c2 := h.c2
  clear h
  go_enter Try.func36, Try.ntmps36
  go_wp2_with (go_at_call 40; refine C.out.mono ?_; clear C; rintro e w' ⟨rfl, rfl⟩)
  go_ret
  exact ⟨rfl, rfl⟩

set_option maxHeartbeats 400000 in
theorem RCount_at (h : RefB M w b n S v ap cp vs) (hn : n ≤ 65536) : Calls Try.prog 35 #[.pointer (some ⟨b, 0, none⟩)] w fun e w' => e = .returned (.int .i64 (rC n (S.lab n) n : Nat)) ∧ Same' w w' := by
  have C := hide (rvalid_at b w h.c0)
  have C2 := hide (Row_at M w v n (S.lab n) hn h.lab)
  have c1 := h.c1
  obtain ⟨ao, c, rfl, _⟩ := h.lab
  clear h
  have hfd : ∀ (x y z : Int) (w : World), (Instr.field 52 (.agg #[.int .i64 x, .int .i64 y, .int .i64 z]) 1).run Try.prog w = .ok (.int .i64 y) w := fun _ _ _ _ => by kernel_rfl
  go_enter Try.func35, Try.ntmps35
  go_wp2_with (first | (go_at_call 40; refine C.out.mono ?_; clear C; rintro e w' ⟨rfl, rfl⟩) | (go_at_call 44; refine C2.out.mono ?_; clear C2; rintro e w' ⟨rfl, hf⟩))
  go_ret
  exact ⟨rfl, hf⟩

set_option maxHeartbeats 1000000 in
theorem RLabels_at (h : RefB M w b n S v ap cp vs) (hn : n ≤ 65536) : Calls Try.prog 37 #[.pointer (some ⟨b, 0, none⟩)] w fun e w' => ∃ u, e = .returned u ∧ Sl w' u n (fun i => (S.lab n i : Int)) ∧ Same' w w' := by
  have C := hide (rvalid_at b w h.c0)
  have c1 := h.c1
  obtain ⟨ao, c, rfl, hown, _⟩ := h.lab
  have c1' : ∀ o, (w.alloc o).cell? ⟨b, 1, none⟩ = some (.slice ao n c) := fun o => (World.cell?_alloc_lt w o _ h.blt).trans c1
  have HO := hide hown
  clear h hown c1
  go_enter Try.func37, Try.ntmps37
  go_wp2_with (first | (go_at_call 40; refine C.out.mono ?_; clear C; rintro e w' ⟨rfl, rfl⟩) | (at_builtin; refine wpList_copy _ rfl _ _ 27 rfl 3 (.int .i64 0) 1 8 Try.underlying27 Try.info3' rfl (by decide) rfl ao n c ((List.range n).map (numV (S.lab n))) rfl HO.out (numV_one _ _) (by unfold maxLen; omega) (by omega) ?_))
  intro g' cap' w3 hown3 hf3 hg3
  go_wp2
  go_ret
  exact ⟨_, rfl, (LabAt.sl (M := fun _ => True) ⟨some ⟨g', 0, none⟩, cap', rfl, hown3, fun _ _ => trivial⟩), hf3⟩

set_option maxHeartbeats 400000 in
theorem RSize_out (h : RefB M w b n S v ap cp vs) (hn : n ≤ 65536) (a : Int) (ha : in1 n a = false) : Calls Try.prog 34 #[.pointer (some ⟨b, 0, none⟩), .int .i64 a] w fun e w' => e = .returned (.int .i64 0) ∧ Same' w w' := by
  have C := hide (h.has_is hn a ha)
  clear h ha
  go_enter Try.func34, Try.ntmps34
  go_wp2_with (go_at_call 41; refine C.out.mono ?_; clear C; rintro e w' ⟨rfl, rfl⟩)
  go_ret
  exact ⟨rfl, Fr.refl _ _⟩

set_option maxHeartbeats 1000000 in
theorem RSize_in (h : RefB M w b n S v ap cp vs) (hn : n ≤ 65536) (a : Nat) (ha : a < n) :
    Calls Try.prog 34 #[.pointer (some ⟨b, 0, none⟩), .int .i64 a] w fun e w' => e = .returned (.int .i64 (cnt n (fun i => decide (S.lab n i = S.lab n a)) : Nat)) ∧ Same' w w' := by
  have C := hide (h.has_is hn (a : Int) (t := true) (by unfold in1; simp; omega))
  obtain ⟨ao, c, rfl, hc⟩ := h.lab.cell
  obtain ⟨g, rfl, _, ca⟩ := hc a ha
  have hcell : Hid (∀ i, i < n → ∀ w', Same' w w' → w'.cell? ⟨g, i, none⟩ = some (.int .i64 (S.lab n i : Nat))) := fun i hi w' hf => by
    obtain ⟨_, e1, _, h⟩ := hc i hi
    simp only [Option.some.injEq, Addr.mk.injEq, and_true] at e1
    subst e1
    rw [hf.cell (block_lt_of_cell h) id, h]
  have hc1 : Hid (∀ w', Same' w w' → w'.cell? ⟨b, 1, none⟩ = some (.slice (some ⟨g, 0, none⟩) n c)) := fun w' hf => (h.same hf).c1
  clear h hc ca
  go_enter Try.func34, Try.ntmps34
  go_wp2_with (go_at_call 41; refine C.out.mono ?_; clear C; rintro e w' ⟨rfl, rfl⟩)
  go_loopg [5, 6] n (fun q x i wr => ∃ j : Nat, q + j = n ∧ i = .int .i64 j ∧ x = .int .i64 (cnt j (fun i => decide (S.lab n i = S.lab n a)) : Nat) ∧ Same' w' wr)
  case atStart => exact ⟨0, by omega, rfl, rfl, Fr.refl _ _⟩
  case round =>
    obtain ⟨j, hq, rfl, rfl, hf⟩ := hrel
    have q1 := hc1.out wr hf
    by_cases hlt : j < n
    · have qa := hcell.out a ha wr hf
      have qj := hcell.out j hlt wr hf
      have hcl := cnt_le j (fun i => decide (S.lab n i = S.lab n a))
      have HF := hide hf
      by_cases e : S.lab n j = S.lab n a
      · have t : ((S.lab n j : Int) == (S.lab n a : Int)) = true := by rw [e]; simp
        have HE : Hid (cnt (j + 1) (fun i => decide (S.lab n i = S.lab n a)) = cnt j (fun i => decide (S.lab n i = S.lab n a)) + 1) := by
          show cnt j _ + (decide (S.lab n j = S.lab n a)).toNat = _
          simp [e]
        clear e hf
        go_wp2
        go_quiet (fail)
        go_wp2
        go_roundg (n - (j + 1))
        case measure => omega
        case rel => exact ⟨j + 1, by omega, by go_num, by rw [HE.out]; go_num, HF.out.drewN _⟩
      · have t : ((S.lab n j : Int) == (S.lab n a : Int)) = false := by simp; omega
        have HE : Hid (cnt (j + 1) (fun i => decide (S.lab n i = S.lab n a)) = cnt j (fun i => decide (S.lab n i = S.lab n a))) := by
          show cnt j _ + (decide (S.lab n j = S.lab n a)).toNat = _
          simp [e]
        clear e hf
        go_wp2
        go_quiet (fail)
        go_wp2
        go_roundg (n - (j + 1))
        case measure => omega
        case rel => exact ⟨j + 1, by omega, by go_num, by rw [HE.out], HF.out.drewN _⟩
    · obtain rfl : j = n := by omega
      go_wp2
      go_ret
      exact ⟨rfl, hf⟩
end

end Go.Proofs.Ytiaddgagncmbeaa
