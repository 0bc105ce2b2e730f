/- Walks of the document's sets: Union. -/
import Derived.Test.YtiaddgagncmbeaaF6
namespace Go.Proofs.Ytiaddgagncmbeaa
open Go.RowKit

theorem Try.info27' : (Try.prog.info? 27).map (fun i => (i.zero, i.size, i.bytes)) = some (some (.slice none 0 0), 1, 24) := by kernel_rfl

theorem RefB.apart {M : Nat → Prop} {w : World} {b n : Nat} {S : St} {v : Value} {ap : Option Addr} {cp : Nat} {vs : List Value} (h : RefB M w b n S v ap cp vs) {u : Value} {l : Nat → Nat} (hl : LabAt M w u n l) :
    LabAt (fun k => M k ∧ ¬ (k = b ∨ blk ap = some k)) w u n l := by
  have h1 := hl.other h.hdr (by decide)
  by_cases hb : ∃ k, blk ap = some k
  · obtain ⟨k, hk⟩ := hb
    obtain ⟨_, cur, hcur⟩ := h.pb k hk
    have h2 := h1.other hcur (by decide)
    refine h2.mono fun j hj => ⟨hj.1.1, fun e => ?_⟩
    rcases e with e | e
    · exact hj.1.2 e
    · rw [hk] at e
      simp at e
      exact hj.2 e.symm
  · refine h1.mono fun j hj => ⟨hj.1, fun e => ?_⟩
    rcases e with e | e
    · exact hj.2 e
    · exact hb ⟨j, e⟩

theorem RefB.has_eq {M : Nat → Prop} {w : World} {b n : Nat} {S : St} {v : Value} {ap : Option Addr} {cp : Nat} {vs : List Value} (h : RefB M w b n S v ap cp vs) (hn : n ≤ 65536) (a : Int) {t : Bool} (ht : in1 n a = t) :
    Calls Try.prog 41 #[.pointer (some ⟨b, 0, none⟩), .int .i64 a] w fun e w' => e = .returned (.bool t) ∧ w = w' :=
  (h.has hn a).mono fun e w' h => ⟨ht ▸ h.1, h.2⟩

/-- The header alone. -/
def Hdr (w : World) (b : Nat) (v u : Value) : Prop := w.heap[b]? = some (.cells #[.bool true, v, u] 66 (0, 0))
namespace Hdr
variable {w w' : World} {b : Nat} {v u : Value}
theorem c1 (h : Hdr w b v u) : w.cell? ⟨b, 1, none⟩ = some v := by rw [cell_of_row w _ _ _ _ _ h]; rfl
theorem c2 (h : Hdr w b v u) : w.cell? ⟨b, 2, none⟩ = some u := by rw [cell_of_row w _ _ _ _ _ h]; rfl
theorem free (h : Hdr w b v u) (i : Nat) : w.frozen? ⟨b, i, none⟩ = false := frozen_of_row w _ _ _ _ h
theorem lt (h : Hdr w b v u) : b < w.heap.size := lt_of_block h
theorem keep {M : Nat → Prop} (h : Hdr w b v u) (hf : Fr M w w') (hm : ¬ M b) : Hdr w' b v u := (hf.block _ h.lt hm).trans h
theorem set1 (h : Hdr w b v u) (x : Value) : Hdr (w.setCell ⟨b, 1, none⟩ x) b x u := by unfold Hdr; rw [heap_setCell_same w b 1 _ _ _ h]; rfl
theorem set2 (h : Hdr w b v u) (x : Value) : Hdr (w.setCell ⟨b, 2, none⟩ x) b v x := by unfold Hdr; rw [heap_setCell_same w b 2 _ _ _ h]; rfl
end Hdr

theorem app_hdr {M : Nat → Prop} {w w1 w2 : World} {b n : Nat} {S : St} {v : Value} {ap : Option Addr} {cp : Nat} {vs : List Value} (h : RefB M w b n S v ap cp vs) (h1 : Same' w w1) (h2 : Fr (fun k => blk ap = some k) w1 w2) : Hdr w2 b v (.slice ap S.log.length cp) :=
  Hdr.keep (Hdr.keep h.hdr h1 id) h2 (fun hk => (h.pb _ hk).1 rfl)

/-- Sets whose log has grown, and their labels not yet. -/
structure Mid (w w' : World) (b : Nat) (v : Value) (ap ao : Option Addr) (k cp : Nat) (vs : List Value) : Prop where
  hdr : Hdr w' b v (.slice ao k cp)
  past : w'.ownsRow 0 27 1 (.slice ao k cp) k vs
  fr : Fr (fun j => j = b ∨ blk ap = some j) w w'
  bk : ∀ j, blk ao = some j → blk ap = some j ∨ w.heap.size ≤ j

section
variable {M : Nat → Prop} {w w1 w2 : World} {b n : Nat} {S : St} {v : Value} {ap : Option Addr} {cp : Nat} {vs : List Value}

theorem union_mid (h : RefB M w b n S v ap cp vs) {ao : Option Addr} {k c : Nat} {xs : List Value} (ho : w2.ownsRow 0 27 1 (.slice ao k c) k xs) (h1 : Same' w w1) (h2 : Fr (fun j => blk ap = some j) w1 w2)
    (hb : ∀ j, blk ao = some j → blk ap = some j ∨ w.heap.size ≤ j) (hd : Hdr w2 b v (.slice ap S.log.length cp)) : Mid w (w2.setCell ⟨b, 2, none⟩ (.slice ao k c)) b v ap ao k c xs := by
  refine ⟨hd.set2 _, ownsRow_setCell_other ho ?_ _, ?_, hb⟩
  · rw [ownBlock_blk]
    intro e
    rcases hb b e with h' | h'
    · exact (h.pb b h').1 rfl
    · have := h.blt
      omega
  · refine Fr.setCell ?_ _ _ (fun _ => .inl rfl)
    exact Fr.trans' (h1.mono (fun _ _ h => h.elim)) h2 (fun _ _ h => .inr h)

theorem RMv.from {w0 w w' : World} {M : Nat → Prop} {b n : Nat} {S : St} (h : RMv M w w' b n S) (h0 : Same' w0 w) : RMv M w0 w' b n S := by
  obtain ⟨M', h1, h2, h3⟩ := h
  exact ⟨M', h1, Fr.trans (h0.mono (fun _ _ h => h.elim)) h2, fun k hk => (h3 k hk).imp id (fun h => Nat.le_trans h0.size h)⟩
end

theorem St.back_uni {n : Nat} {S : St} (h : S.Ok n) (x y : Nat) {i : Nat} (hi : i ≤ S.log.length) : (S.uni x y).back i = S.back i := by
  have e := (h.pre_uni x y).2
  rw [← St.back_back hi, e]

theorem union_end {M : Nat → Prop} {w w3 w4 : World} {b n k : Nat} {S : St} {v : Value} {ap : Option Addr} {cp : Nat} {vs : List Value} (h : RefB M w b n S v ap cp vs) (hO : S.Ok n) {ao : Option Addr} {c : Nat} (hm : Mid w w3 b v ap ao (k + 1) c (vs ++ [v]))
    {x y : Nat} (hne : ¬ S.t.r x = S.t.r y) (hx : x < n) (hy : y < n) {u : Value} (hu : LabAt (fun k => w3.heap.size ≤ k) w4 u n (united (S.lab n) x y)) (hf : Same' w3 w4) (hk : S.log.length = k) :
    RMv M w (w4.setCell ⟨b, 1, none⟩ u) b n (S.uni x y) := by
  subst hk
  have hS' : (S.uni x y).log.length = S.log.length + 1 := by
    unfold St.uni
    rw [if_neg hne]
    simp
  have hb3 : b < w3.heap.size := hm.hdr.lt
  have hX : Fr (fun j => j = b ∨ blk ap = some j) w (w4.setCell ⟨b, 1, none⟩ u) := (hm.fr.trans (hf.mono (fun _ _ h => h.elim))).setCell _ _ (fun _ => .inl rfl)
  have hfb : Fr (fun j => j = b) w3 (w4.setCell ⟨b, 1, none⟩ u) := (hf.mono (fun _ _ h => h.elim)).setCell _ _ (fun _ => rfl)
  have hfb4 : Fr (fun j => j = b) w4 (w4.setCell ⟨b, 1, none⟩ u) := (Fr.refl _ w4).setCell _ _ (fun _ => rfl)
  have hsz := hm.fr.size
  refine ⟨fun j => M j ∨ w.heap.size ≤ j, ⟨u, ao, c, vs ++ [v], ?_⟩, hX.mono (fun j _ hj => ?_), fun j hj => hj⟩
  · refine ⟨?_, .inl h.mb, ?_, ?_, ?_, ?_⟩
    · rw [hS']
      exact (hm.hdr.keep hf id).set1 u
    · refine LabAt.congr ((hu.keep hfb4 (fun j hj e => by omega)).mono (fun j hj => .inr (by omega))) (fun i hi => (hO.lab_uni hx hy hi).symm)
    · rw [hS']
      refine ownsRow_keep hm.past hfb ?_
      rw [ownBlock_blk]
      intro j hj e
      subst e
      rcases hm.bk j hj with h' | h'
      · exact (h.pb j h').1 rfl
      · have := h.blt
        omega
    · intro j hj
      exact (hm.bk j hj).imp (h.mp j) id
    · intro i hi
      rw [hS'] at hi
      have hvl : vs.length = S.log.length := by have := h.past.1; simpa using this
      rw [St.back_uni hO x y (by omega)]
      by_cases hi' : i < S.log.length
      · obtain ⟨q, hq, hl⟩ := h.old i hi'
        exact ⟨q, by rw [List.getElem?_append_left (by omega)]; exact hq, ((h.apart hl).keep hX (fun j hj => hj.2)).mono (fun j hj => .inl hj.1)⟩
      · have : i = S.log.length := by omega
        subst this
        refine ⟨v, by rw [List.getElem?_append_right (by omega)]; simp [hvl], ?_⟩
        rw [St.back_self hO]
        exact ((h.apart h.lab).keep hX (fun j hj => hj.2)).mono (fun j hj => .inl hj.1)
  · rcases hj with rfl | hj
    · exact h.mb
    · exact h.mp j hj

set_option maxHeartbeats 400000 in
theorem RUnion_nil (w : World) (x y : Int) : Calls Try.prog 24 #[.pointer none, .int .i64 x, .int .i64 y] w fun e w' => e = .returned (.tuple #[.bool false, .int .i64 1]) ∧ w = w' := by
  go_enter Try.func24, Try.ntmps24
  go_wp2_with (go_at_call 40; refine (rvalid_nil _).mono ?_; rintro e w' ⟨rfl, rfl⟩)
  go_ret2
  exact ⟨rfl, rfl⟩

section
variable {M : Nat → Prop} {w : World} {b n : Nat} {S : St} {v : Value} {ap : Option Addr} {cp : Nat} {vs : List Value}

set_option maxHeartbeats 400000 in
theorem RUnion_out (h : RefB M w b n S v ap cp vs) (hn : n ≤ 65536) (x y : Int) (hxy : in2 n x y = false) :
    Calls Try.prog 24 #[.pointer (some ⟨b, 0, none⟩), .int .i64 x, .int .i64 y] w fun e w' => e = .returned (.tuple #[.bool false, .int .i64 3]) ∧ w = w' := by
  have C := hide (rvalid_at b w h.c0)
  by_cases hx : in1 n x = true
  · have hy : in1 n y = false := by
      unfold in2 at hxy
      unfold in1 at hx ⊢
      rw [hx] at hxy
      simpa using hxy
    have C1 := hide (h.has_eq hn x hx)
    have C2 := hide (h.has_eq hn y hy)
    clear h hx hy hxy
    go_enter Try.func24, Try.ntmps24
    go_wp2_with (first | (go_at_call 40; refine C.out.mono ?_; clear C; rintro e w' ⟨rfl, rfl⟩) | (go_at_call_of 41 (x : Int); refine C1.out.mono ?_; clear C1; rintro e w' ⟨rfl, rfl⟩) | (go_at_call_of 41 (y : Int); refine C2.out.mono ?_; clear C2; rintro e w' ⟨rfl, rfl⟩))
    go_ret2
    exact ⟨rfl, rfl⟩
  · have C1 := hide (h.has_eq hn x (Bool.eq_false_iff.2 hx))
    clear h hx hxy
    go_enter Try.func24, Try.ntmps24
    go_wp2_with (first | (go_at_call 40; refine C.out.mono ?_; clear C; rintro e w' ⟨rfl, rfl⟩) | (go_at_call_of 41 (x : Int); refine C1.out.mono ?_; clear C1; rintro e w' ⟨rfl, rfl⟩))
    go_ret2
    exact ⟨rfl, rfl⟩

set_option maxRecDepth 100000 in
set_option maxHeartbeats 1000000 in
theorem RUnion_in (h : RefB M w b n S v ap cp vs) (hO : S.Ok n) (hn : n ≤ 65536) (x y : Nat) (hx : x < n) (hy : y < n) :
    Calls Try.prog 24 #[.pointer (some ⟨b, 0, none⟩), .int .i64 x, .int .i64 y] w fun e w' => e = .returned (.tuple #[.bool (decide (S.t.r x ≠ S.t.r y)), .int .i64 0]) ∧ RMv M w w' b n (S.uni x y) := by
  have C := hide (rvalid_at b w h.c0)
  have C1 := hide (h.has_eq hn (x : Int) (t := true) (by unfold in1; simp; omega))
  have C2 := hide (h.has_eq hn (y : Int) (t := true) (by unfold in1; simp; omega))
  have H := hide h
  obtain ⟨ao, c, rfl, hc⟩ := h.lab.cell
  obtain ⟨g, rfl, _, cx⟩ := hc x hx
  obtain ⟨_, e1, _, cy⟩ := hc y hy
  simp only [Option.some.injEq, Addr.mk.injEq, and_true] at e1
  subst e1
  have hc1 := h.c1
  by_cases e : S.t.r x = S.t.r y
  · have el : S.lab n x = S.lab n y := (lab_eq_iff hx hy).2 e
    have t : ((S.lab n x : Int) == (S.lab n y : Int)) = true := by rw [el]; simp
    have E := hide e
    clear h hc e el
    go_enter Try.func24, Try.ntmps24
    go_wp2_with (first | (go_at_call 40; refine C.out.mono ?_; clear C; rintro e w' ⟨rfl, rfl⟩) | (go_at_call_of 41 (x : Int); refine C1.out.mono ?_; clear C1; rintro e w' ⟨rfl, rfl⟩) | (go_at_call_of 41 (y : Int); refine C2.out.mono ?_; clear C2; rintro e w' ⟨rfl, rfl⟩))
    go_quiet (fail)
    go_wp2
    go_ret2
    have e := E.out
    refine ⟨by simp [e], M, ?_, (Fr.refl _ w).drewN _, fun _ h => .inl h⟩
    unfold St.uni
    rw [if_pos e]
    exact ⟨_, _, _, _, H.out.same ((Fr.refl _ w).drewN _)⟩
  · have el : S.lab n x ≠ S.lab n y := fun h => e ((lab_eq_iff hx hy).1 h)
    have t : ((S.lab n x : Int) == (S.lab n y : Int)) = false := by simp; omega
    have E := hide e
    have hlog := hO.loglen
    have HO := hide hO
    clear h hc e el hO
    obtain ⟨k, hk⟩ : ∃ k, S.log.length = k := ⟨_, rfl⟩
    have HK := hide hk
    go_enter Try.func24, Try.ntmps24
    go_wp2_with (first | (go_at_call 40; refine C.out.mono ?_; clear C; rintro e w' ⟨rfl, rfl⟩) | (go_at_call_of 41 (x : Int); refine C1.out.mono ?_; clear C1; rintro e w' ⟨rfl, rfl⟩) | (go_at_call_of 41 (y : Int); refine C2.out.mono ?_; clear C2; rintro e w' ⟨rfl, rfl⟩))
    go_quiet (fail)
    rw [hk] at hlog
    refine exit_world (fun w1 => RefB M w1 b n S (.slice (some ⟨g, 0, none⟩) n c) ap cp vs ∧ Same' w w1) ⟨H.out.same ((Fr.refl _ w).drewN _), (Fr.refl _ w).drewN _⟩ ?_
    rintro w1 ⟨h, hf1⟩
    clear H hc1 cx cy hk
    have c1 := h.c1
    have c2 := h.c2
    have H := hide h
    rw [HK.out] at c2
    have c2a : ∀ o, (w1.alloc o).cell? ⟨b, 2, none⟩ = some (.slice ap k cp) := fun o => (World.cell?_alloc_lt w1 o _ h.blt).trans c2
    have F1 := hide hf1
    clear h hf1
    go_wp2
    go_region_law (refine step_app rfl (.tmp 40) (.tmp 45) 64 rfl 27 (.slice none 0 0) 1 24 Try.underlying64 Try.info27' rfl (by decide) ap k cp vs (by simp [Act.eval, Act.put]) ((HK.out ▸ H.out.past).drew.alloc _) ⟨w1.heap.size, 0, none⟩ 1 1 [.slice (some ⟨g, 0, none⟩) n c] (by simp [Act.eval, Act.put]) rfl (by intro j u hj; match j, hj with | 0, hj => simp at hj; subst hj; simp [Addr.add]) (by simp [Value.oneCell']) (by unfold maxLen; omega) (by omega) ?_; intro ao' cap' w2 hown2 hf2 hb2; (have hh2 := app_hdr H.out (((Fr.refl (fun _ => False) w1).drew).alloc _) hf2); (have c2' := hh2.c2); (have f2' := hh2.free 2); (have HX := hide (And.intro hown2 (And.intro hf2 (And.intro hb2 hh2)))); clear hown2 hf2 hb2 hh2)
    all_goals
      have hX := HX.out
      obtain ⟨hown, hfr, hbk, hhd⟩ := hX
      have hmid := union_mid H.out hown (((Fr.refl (fun _ => False) w1).alloc _).drew) hfr (fun j hj => (hbk j hj).imp id (fun h => by simp at h; omega)) hhd
      refine exit_world (fun w3 => Mid w1 w3 b (.slice (some ⟨g, 0, none⟩) n c) ap ao' (k + 1) cap' (vs ++ [.slice (some ⟨g, 0, none⟩) n c])) hmid ?_
      clear hown hfr hbk hhd hmid HX c2' f2' c1 c2 c2a
      rintro w3 hmid
      have c1 := hmid.hdr.c1
      have hl3 := (H.out.apart H.out.lab).keep hmid.fr (fun j hj => hj.2)
      have cu := united_at _ w3 _ n _ x y hx hy hn hl3
      have CU := hide cu
      have HM := hide hmid
      clear hl3 cu hmid
      go_wp2_with fail
      refine CU.out.mono ?_
      clear CU
      rintro e w4 ⟨u, rfl, hu, hf4⟩
      have h4 := HM.out.hdr.keep hf4 id
      have c1' := h4.c1
      have f1' := h4.free 1
      obtain ⟨au, cu', rfl, hu2⟩ := hu
      have HU := hide (show LabAt _ w4 _ n _ from ⟨au, cu', rfl, hu2⟩)
      have HF := hide hf4
      have H4 := hide h4
      clear hu2 hf4 h4
      go_wp2
      go_ret2
      have e := E.out
      refine ⟨by simp [e], (union_end H.out HO.out HM.out e hx hy HU.out HF.out HK.out).from F1.out⟩
end

end Go.Proofs.Ytiaddgagncmbeaa
