/- Walks of the document's sets: Undo, Copy. -/
import Derived.Test.YtiaddgagncmbeaaF7
namespace Go.Proofs.Ytiaddgagncmbeaa
open Go.RowKit

set_option maxHeartbeats 400000 in
theorem RUndo_nil (w : World) (m : Int) : Calls Try.prog 25 #[.pointer none, .int .i64 m] w fun e w' => e = .returned (.int .i64 1) ∧ w = w' := by
  go_enter Try.func25, Try.ntmps25
  go_wp2_with (go_at_call 40; refine (rvalid_nil _).mono ?_; rintro e w' ⟨rfl, rfl⟩)
  go_ret
  exact ⟨rfl, rfl⟩

set_option maxHeartbeats 400000 in
theorem RCopy_nil (w : World) : Calls Try.prog 29 #[.pointer none] w fun e w' => e = .returned (.pointer none) ∧ w = w' := by
  go_enter Try.func29, Try.ntmps29
  go_wp2_with (go_at_call 40; refine (rvalid_nil _).mono ?_; rintro e w' ⟨rfl, rfl⟩)
  go_ret
  exact ⟨rfl, rfl⟩

theorem wpList_copy' {P : Program} (w : World) (g : Nat) (hg : g = w.heap.size) {ops : Array Oper} {rest : List Oper} {o : Oper} {a : Act} {Q : Exit → Act → World → Prop} (hgd : o.guard = none) (s x : Operand) (t : TypeId)
    (ho : o.op = .call { callee := .builtin .append, args := #[s, x], argTypes := #[t, t] })
    (e : TypeId) (z : Value) (size bytes : Nat) (ht : P.underlying t = some (.slice e)) (hinf : (P.info? e).map (fun i => (i.zero, i.size, i.bytes)) = some (some z, size, bytes)) (hzs : z.cells.size = size) (hsz : 0 < size)
    (hs : a.eval s = .slice (some ⟨g, 0, none⟩) 0 0)
    (ao : Option Addr) (m c : Nat) (news : List Value) (hx : a.eval x = .slice ao m c) (hsrc : w.ownsRow 0 e size (.slice ao m c) m news) (h1 : ∀ u ∈ news, u.oneCell' = true)
    (h63 : m ≤ maxLen) (hbytes : m * bytes ≤ 140737488355328)
    (h : ∀ g' cap' w', w'.ownsRow 0 e size (.slice (some ⟨g', 0, none⟩) m cap') m news → Fr (fun _ => False) w w' → w.heap.size ≤ g' →
      wpList P ops Q rest (a.put o.dst (.slice (some ⟨g', 0, none⟩) m cap')) w') : wpList P ops Q (o :: rest) a (w.alloc (.cells #[] e)) := by
  subst hg
  exact wpList_copy w hgd s x t ho e z size bytes ht hinf hzs hsz hs ao m c news hx hsrc h1 h63 hbytes h

section
variable {M : Nat → Prop} {w : World} {b n : Nat} {S : St} {v : Value} {ap : Option Addr} {cp : Nat} {vs : List Value}

set_option maxHeartbeats 400000 in
theorem RUndo_out (h : RefB M w b n S v ap cp vs) (m : Int) (hm : m < 0 ∨ S.log.length < m) :
    Calls Try.prog 25 #[.pointer (some ⟨b, 0, none⟩), .int .i64 m] w fun e w' => e = .returned (.int .i64 3) ∧ w = w' := by
  have C := hide (rvalid_at b w h.c0)
  have c2 := h.c2
  clear h
  rcases hm with hm | hm
  · go_enter Try.func25, Try.ntmps25
    go_wp2_with (go_at_call 40; refine C.out.mono ?_; clear C; rintro e w' ⟨rfl, rfl⟩)
    go_ret
    exact ⟨rfl, rfl⟩
  · have h0 : 0 ≤ m := by omega
    go_enter Try.func25, Try.ntmps25
    go_wp2_with (go_at_call 40; refine C.out.mono ?_; clear C; rintro e w' ⟨rfl, rfl⟩)
    go_ret
    exact ⟨rfl, rfl⟩

theorem undo_end (h : RefB M w b n S v ap cp vs) {m : Nat} (hm : m < S.log.length) {q : Value} (hq : vs[m]? = some q) {w3 : World} {g' c' : Nat}
    (hhd : Hdr w3 b q (.slice ap S.log.length cp)) (ho : w3.ownsRow 0 27 1 (.slice (some ⟨g', 0, none⟩) m c') m (vs.take m)) (hf : Fr (fun k => k = b) w w3) (hg : w.heap.size ≤ g') :
    RMv M w (w3.setCell ⟨b, 2, none⟩ (.slice (some ⟨g', 0, none⟩) m c')) b n (S.back m) := by
  have hl : (S.back m).log.length = m := St.back_len (by omega)
  have hX : Fr (fun j => j = b ∨ blk ap = some j) w (w3.setCell ⟨b, 2, none⟩ (.slice (some ⟨g', 0, none⟩) m c')) := (hf.setCell _ _ (fun _ => rfl)).mono (fun _ _ h => .inl h)
  have hb := h.blt
  refine ⟨fun j => M j ∨ w.heap.size ≤ j, ⟨q, some ⟨g', 0, none⟩, c', vs.take m, ?_⟩, hX.mono (fun j _ hj => ?_), fun j hj => hj⟩
  · refine ⟨?_, .inl h.mb, ?_, ?_, ?_, ?_⟩
    · rw [hl]
      exact hhd.set2 _
    · obtain ⟨q', hq', hlq⟩ := h.old m hm
      rw [hq] at hq'
      simp at hq'
      subst hq'
      exact ((h.apart hlq).keep hX (fun j hj => hj.2)).mono (fun j hj => .inl hj.1)
    · rw [hl]
      refine ownsRow_setCell_other ho ?_ _
      simp [Value.ownBlock]
      omega
    · intro k hk
      simp [blk] at hk
      subst hk
      exact .inr hg
    · intro i hi
      rw [hl] at hi
      obtain ⟨u, hu, hlu⟩ := h.old i (by omega)
      rw [St.back_back (by omega)]
      exact ⟨u, by rw [List.getElem?_take_of_lt hi]; exact hu, ((h.apart hlu).keep hX (fun j hj => hj.2)).mono (fun j hj => .inl hj.1)⟩
  · rcases hj with rfl | hj
    · exact h.mb
    · exact h.mp j hj

theorem one_slices (h : RefB M w b n S v ap cp vs) : ∀ u ∈ vs, u.oneCell' = true := by
  intro u hu
  obtain ⟨i, hi, rfl⟩ := List.mem_iff_getElem.1 hu
  have hl : vs.length = S.log.length := by have := h.past.1; simpa using this
  obtain ⟨q, hq, ao, c, rfl, _⟩ := h.old i (by omega)
  rw [List.getElem?_eq_getElem hi] at hq
  simp at hq
  rw [hq]
  rfl

set_option maxHeartbeats 1000000 in
theorem RUndo_in (h : RefB M w b n S v ap cp vs) (hO : S.Ok n) (hn : n ≤ 65536) (m : Nat) (hm : m ≤ S.log.length) :
    Calls Try.prog 25 #[.pointer (some ⟨b, 0, none⟩), .int .i64 m] w fun e w' => e = .returned (.int .i64 0) ∧ RMv M w w' b n (S.back m) := by
  have C := hide (rvalid_at b w h.c0)
  have H := hide h
  have c2 := h.c2
  have hlog := hO.loglen
  by_cases hlt : m < S.log.length
  · obtain ⟨q, hq, hlq⟩ := h.old m hlt
    obtain ⟨aq, cq, rfl, hq2⟩ := hlq
    have hone := one_slices h
    rcases h.past.2 with ⟨hv, h0⟩ | ⟨gp, cap, cur, hv, _, hg, hnc, _⟩
    · omega
    · simp only [Value.slice.injEq] at hv
      obtain ⟨rfl, _, rfl⟩ := hv
      have hpm : w.cell? ⟨gp, m, none⟩ = some (.slice aq n cq) := by rw [h.past.cellAt m (by omega)]; exact hq
      have c1 := h.c1
      have f1 := h.hfree 1
      have hd : Hdr w b v (.slice (some ⟨gp, 0, none⟩) S.log.length cp) := h.hdr
      have hpb : gp ≠ b := (h.pb gp rfl).1
      have hd1 := hd.set1 (.slice aq n cq)
      have c2a : ∀ o, ((w.setCell ⟨b, 1, none⟩ (.slice aq n cq)).alloc o).cell? ⟨b, 2, none⟩ = some (.slice (some ⟨gp, 0, none⟩) S.log.length cp) := fun o => (World.cell?_alloc_lt _ o _ hd1.lt).trans hd1.c2
      have hown := ownsRow_setCell_other (owns_take h.past (m := m) (by omega)) (a := ⟨b, 1, none⟩) (by simpa [Value.ownBlock] using hpb) (.slice aq n cq)
      have hcp : m ≤ cp := by omega
      have HX := hide (And.intro hown (And.intro hone (And.intro hd1 hq)))
      have HLT := hide hlt
      obtain ⟨k, hk⟩ : ∃ k, S.log.length = k := ⟨_, rfl⟩
      have HK := hide hk
      rw [hk] at c2 hnc hlog hlt c2a
      clear h hd hd1 hown hone hq hq2 hg hpb hk hm hO
      go_enter Try.func25, Try.ntmps25
      go_wp2_with (first | (go_at_call 40; refine C.out.mono ?_; clear C; rintro e w' ⟨rfl, rfl⟩) | (at_builtin; refine wpList_copy' _ w.heap.size (by simp) rfl _ _ 64 rfl 27 (.slice none 0 0) 1 24 Try.underlying64 Try.info27' rfl (by decide) rfl (some ⟨gp, 0, none⟩) m cp (vs.take m) rfl HX.out.1 (fun u hu => HX.out.2.1 u (List.mem_of_mem_take hu)) (by unfold maxLen; omega) (by omega) ?_))
      intro g' c' w3 hown3 hf3 hg3
      have hd3 := HX.out.2.2.1.keep hf3 id
      have c2' := hd3.c2
      have f2' := hd3.free 2
      have HD := hide (And.intro hd3 (And.intro hown3 hf3))
      clear hd3 hown3 hf3
      go_wp2
      go_ret
      refine ⟨rfl, undo_end H.out HLT.out HX.out.2.2.2 HD.out.1 HD.out.2.1 ?_ ?_⟩
      · exact ((Fr.refl (fun k => k = b) w).setCell _ _ (fun _ => rfl)).trans (HD.out.2.2.mono (fun _ _ h => h.elim))
      · simpa using hg3
  · have hmk : S.log.length = m := by omega
    have HO := hide hO
    have HK := hide hmk
    rw [hmk] at c2
    clear h hO hlt hm hlog hmk
    go_enter Try.func25, Try.ntmps25
    go_wp2_with (go_at_call 40; refine C.out.mono ?_; clear C; rintro e w' ⟨rfl, rfl⟩)
    go_ret
    refine ⟨rfl, M, ?_, Fr.refl _ _, fun _ h => .inl h⟩
    rw [← HK.out, St.back_self HO.out]
    exact ⟨_, _, _, _, H.out⟩

theorem copy_end (h : RefB M w b n S v ap cp vs) {w3 : World} {g' c' : Nat} (ho : w3.ownsRow 0 27 1 (.slice (some ⟨g', 0, none⟩) S.log.length c') S.log.length vs) (hf : Same' w w3) (hg : w.heap.size ≤ g') :
    RefAt (fun j => M j ∨ w.heap.size ≤ j) (w3.alloc (.cells #[.bool true, v, .slice (some ⟨g', 0, none⟩) S.log.length c'] 66)) w3.heap.size n S ∧ Same' w (w3.alloc (.cells #[.bool true, v, .slice (some ⟨g', 0, none⟩) S.log.length c'] 66)) := by
  have hF := hf.alloc (.cells #[.bool true, v, .slice (some ⟨g', 0, none⟩) S.log.length c'] 66)
  refine ⟨⟨v, some ⟨g', 0, none⟩, c', vs, heap_alloc_new w3 _, .inr hf.size, (h.lab.keep hF (fun _ _ h => h)).mono (fun _ h => .inl h), ho.alloc _, ?_, ?_⟩, hF⟩
  · intro k hk
    simp [blk] at hk
    subst hk
    exact .inr hg
  · intro i hi
    obtain ⟨u, hu, hlu⟩ := h.old i hi
    exact ⟨u, hu, (hlu.keep hF (fun _ _ h => h)).mono (fun _ h => .inl h)⟩

set_option maxRecDepth 100000 in
set_option maxHeartbeats 1000000 in
theorem RCopy_at (h : RefB M w b n S v ap cp vs) (hO : S.Ok n) (hn : n ≤ 65536) :
    Calls Try.prog 29 #[.pointer (some ⟨b, 0, none⟩)] w fun e w' => ∃ b', e = .returned (.pointer (some ⟨b', 0, none⟩)) ∧ RefAt (fun j => M j ∨ w.heap.size ≤ j) w' b' n S ∧ Same' w w' := by
  have C := hide (rvalid_at b w h.c0)
  have H := hide h
  have c1 := h.c1
  have c2 := h.c2
  have c1a : ∀ o, (w.alloc o).cell? ⟨b, 1, none⟩ = some v := fun o => (World.cell?_alloc_lt _ o _ h.blt).trans c1
  have c2a : ∀ o, (w.alloc o).cell? ⟨b, 2, none⟩ = some (.slice ap S.log.length cp) := fun o => (World.cell?_alloc_lt _ o _ h.blt).trans c2
  have hc1 : ∀ w', Same' w w' → w'.cell? ⟨b, 1, none⟩ = some v := fun w' hf => (h.same hf).c1
  have HC1 := hide hc1
  have hlog := hO.loglen
  have hone := one_slices h
  have HONE := hide hone
  obtain ⟨av, cv, rfl, _⟩ := h.lab
  obtain ⟨k, hk⟩ : ∃ k, S.log.length = k := ⟨_, rfl⟩
  have HK := hide hk
  rw [hk] at c2 c2a hlog
  clear h hk hO hone hc1
  go_enter Try.func29, Try.ntmps29
  go_wp2_with (go_at_call 40; refine C.out.mono ?_; clear C; rintro e w' ⟨rfl, rfl⟩)
  go_region_law (refine step_copy rfl (.tmp 10) (.tmp 14) 64 rfl 27 (.slice none 0 0) 1 24 Try.underlying64 Try.info27' rfl (by decide) w.heap.size (by simp [Act.eval, Act.put]) (owns_empty (bk_drew (bk_new rfl))) ap k cp vs (by simp [Act.eval, Act.put]) ((HK.out ▸ H.out.past).alloc _).drew HONE.out (by unfold maxLen; omega) (by omega) ?_; intro g' c' w3 hown3 hf3 hg3; (have c1' := HC1.out w3 (Fr.trans (((Fr.refl _ w).alloc _).drew) hf3)); (have HX := hide (And.intro hown3 (And.intro hf3 hg3))); clear hown3 hf3 hg3)
  all_goals
    obtain ⟨hown3, hf3, hg3⟩ := HX.out
    have hd := copy_end H.out (w3 := w3) (g' := g') (c' := c') (by rw [HK.out]; exact hown3) (Fr.trans (((Fr.refl _ w).alloc _).drew) hf3) (by rcases hg3 with h | h <;> (try simp at h) <;> omega)
    rw [HK.out] at hd
    obtain ⟨b', hb'⟩ : ∃ b', b' = w3.heap.size := ⟨_, rfl⟩
    rw [← hb'] at hd
    refine exit_world (fun w4 => RefAt (fun j => M j ∨ w.heap.size ≤ j) w4 b' n S ∧ Same' w w4) hd ?_
    rw [← hb']
    rintro w4 ⟨hR, hF⟩
    dsimp [Act.put]
    go_wp2
    go_ret
    exact ⟨b', rfl, hR, hF⟩
end

end Go.Proofs.Ytiaddgagncmbeaa
