/- Walks: Common of two nodes below one root. -/
import Derived.Test.YthpghcidocjanaaDoorT9
namespace Go.Proofs.YthpghcidocjanaaDoor
open Go.RowKit

section
variable {w : World} {b0 n : Nat} {p : Nat → Int}

theorem Full.up_some {w : World} {b0 n : Nat} {p : Nat → Int} (h : Full w b0 n p) (ht : TzTab w) {v k u : Nat} (hv : v < n) (hk : k ≤ dep n p v) (hu : anc p k v = (u : Nat)) :
    Calls Tryd.prog 16 #[.pointer (some ⟨b0, 0, none⟩), .int .i64 v, .int .i64 k] w fun e w' => e = retIB (u : Nat) true ∧ Same' w w' := by
  have := h.up ht v k
  unfold upR at this
  rw [if_pos (by simp; omega)] at this
  simp only [Int.toNat_natCast, hu] at this
  exact this

set_option maxHeartbeats 2000000 in
set_option maxRecDepth 100000 in
theorem Full.common_same (h : Full w b0 n p) (ht : TzTab w) {x y : Nat} (hx : x < n) (hy : y < n) (hle : dep n p x ≤ dep n p y) (hr : anc p (dep n p x) x = anc p (dep n p y) y) :
    ∀ a b : Nat, (y = a ∧ x = b ∧ dep n p x < dep n p y) ∨ (x = a ∧ y = b) →
    Calls Tryd.prog 17 #[.pointer (some ⟨b0, 0, none⟩), .int .i64 a, .int .i64 b] w fun e w' => e = ret2 (cmn n p x y) ∧ Same' w w' := by
  have hF := h.1
  have hn := h.2.1
  obtain ⟨y', hy', hyn', hyd⟩ := hF.anc_dep hy (show dep n p y - dep n p x ≤ dep n p y by omega)
  have hyd' : dep n p y' = dep n p x := by omega
  have hry' : anc p (dep n p y') y' = anc p (dep n p x) x := by
    have := anc_add hF.par hy (dep n p y - dep n p x) (dep n p x)
    rw [show dep n p y - dep n p x + dep n p x = dep n p y by omega, if_neg (by omega), hy'] at this
    rw [hr, this, hyd']
    simp
  have hdx := hF.dep_lt hx
  have hdy := hF.dep_lt hy
  have C1 := hide (fun W (hf : Same' w W) (v : Nat) (hv : v < n) => (h.keep hf).root_some (ht.keep hf id) hv)
  have C2 := hide (fun W (hf : Same' w W) => (h.keep hf).up_some (ht.keep hf id) hy (show dep n p y - dep n p x ≤ dep n p y by omega) hy')
  have C3 := hide (fun W (hf : Same' w W) (v u : Nat) (hv : v < n) (hk : 1 ≤ dep n p v) (hu : anc p 1 v = (u : Nat)) => (h.keep hf).up_some (ht.keep hf id) hv hk hu)
  have HF := hide hF
  have HH := hide h
  have HR := hide hr
  have HY := hide (And.intro hy' (And.intro hyd' hry'))
  obtain ⟨_, _, g, gd, hT⟩ := h
  have HT := hide hT
  generalize hrr : anc p (dep n p x) x = r at hr
  have H1 : Hid (∀ W, Same' w W → ∀ v : Nat, v = x ∨ v = y → Calls Tryd.prog 15 #[.pointer (some ⟨b0, 0, none⟩), .int .i64 v] W fun e w' => e = retIB r true ∧ Same' w w') := by
    rintro W hf v (rfl | rfl)
    · rw [← hrr]; exact (C1.out W hf _ hx).mono fun _ _ h => ⟨h.1, hf.trans h.2⟩
    · rw [hr]; exact (C1.out W hf _ hy).mono fun _ _ h => ⟨h.1, hf.trans h.2⟩
  clear C1 hT ht hF hy' hyd hyd' hry' hr hrr
  have hneq : (r != r) = false := by simp
  have hsub : IntKind.i64.wrap (((dep n p y : Nat) : Int) - ((dep n p x : Nat) : Int)) = ((dep n p y - dep n p x : Nat) : Int) := by rw [IntKind.wrap_i64]; omega
  have HS := hide hsub
  clear hsub
  rintro a b (⟨rfl, rfl, hlt⟩ | ⟨rfl, rfl⟩)
  all_goals (first | have hdec : decide (dep n p x < dep n p y) = true := (by rw [decide_eq_true_eq]; omega) | skip)
  all_goals have hdec2 : decide (dep n p y < dep n p x) = false := by rw [decide_eq_false_iff_not]; omega
  all_goals
    go_enter Tryd.func17, Tryd.ntmps17
    have hf0 : Same' w w := Fr.refl _ w
    go_wp2_with ((go_at_call 15; refine (H1.out _ (by assumption) _ (by first | exact .inl rfl | exact .inr rfl)).mono ?_; clear hf0; rintro e w1 ⟨rfl, hf0⟩))
    have T := HT.out.same hf0
    have cd := T.cd
    have ca : w1.cell? ⟨gd, x, none⟩ = some (.int .i64 (dep n p x : Nat)) := T.depth.cell x hx
    have cb : w1.cell? ⟨gd, y, none⟩ = some (.int .i64 (dep n p y : Nat)) := T.depth.cell y hy
    clear T
    go_quiet (fail)
    go_wp2
    have hfq : Same' w (w1.drewN nq) := hf0.drewN nq
    obtain ⟨w2, hw2⟩ : ∃ w2, w2 = w1.drewN nq := ⟨_, rfl⟩
    rw [← hw2] at hfq ⊢
    clear hw2 ca cb cd hf0
    have T := HT.out.same hfq
    have k0 : ∀ x : Wd (fun _ => False) w2, x.w.cell? ⟨b0, 15, none⟩ = some (.slice (some ⟨gd, 0, none⟩) n n) := fun x => (T.same x.h).cd
    have k1 : ∀ z : Wd (fun _ => False) w2, z.w.cell? ⟨gd, x, none⟩ = some (.int .i64 (dep n p x : Nat)) := fun z => (T.same z.h).depth.cell x hx
    have k2 : ∀ z : Wd (fun _ => False) w2, z.w.cell? ⟨gd, y, none⟩ = some (.int .i64 (dep n p y : Nat)) := fun z => (T.same z.h).depth.cell y hy
    have C := hide (fun x : Wd (fun _ => False) w2 => ((C2.out x.w (hfq.trans x.h)).mono (R' := fun e w' => e = .returned (.tuple #[.int .i64 (y' : Nat), .bool true]) ∧ Same' x.w w') fun e w' h => h))
    clear T
    have hsub := HS.out
    refine wp_region_wd (fun _ => False) w2 (by kernel_rfl) (by kernel_rfl) (Fr.refl _ _) ?_
    repeat (go_big_quiet_step ((go_at_call 16; exact Wd.quiet (C.out _))))
    refine wpQuiet_nil ?_
    rintro _ ⟨z, rfl⟩
    have hfz : Same' w z.w := hfq.trans z.h
    clear C k0 k1 k2 hsub
    obtain ⟨w3, hw3⟩ : ∃ w3, w3 = z.w := ⟨_, rfl⟩
    rw [← hw3] at hfz ⊢
    clear hw3 hfq z
    by_cases hxy : x = y'
    · have hc : cmn n p x y = some (x : Int) := cmn_self_of_level hle (by rw [HY.out.1, ← hxy])
      have HC := hide hc
      have ht : ((x : Int) == (y' : Int)) = true := by rw [beq_iff_eq]; omega
      clear hxy hc
      go_wp2
      go_ret2
      exact ⟨by rw [HC.out]; rfl, hfz⟩
    · obtain ⟨m, hm⟩ := Meet.start HF.out hx hyn' HY.out.2.1.symm HY.out.2.2.symm hxy (q := 14) (by omega)
      have hc : cmn n p x y = some (anc p m x) := hm.cmn HF.out hx hy hle HY.out.1
      have HC := hide hc
      have ht : ((x : Int) == (y' : Int)) = false := by rw [beq_eq_false_iff_ne]; omega
      have HM := hide hm
      clear hxy hc hm
      go_wp2
      go_loopg [1, 2, 12] 14 (fun q a b i wr => ∃ u v : Nat, i = .int .i64 ((q : Int) - 1) ∧ q ≤ 14 ∧ a = .int .i64 u ∧ b = .int .i64 v ∧ Meet n p x y' m q u v ∧ Same' w wr)
      case atStart => exact ⟨x, y', rfl, Nat.le_refl _, rfl, rfl, HM.out, hfz⟩
      case round =>
        clear HM hfz
        obtain ⟨u, v, rfl, hq, rfl, rfl, hm, hfr⟩ := hrel
        match gk, hq, hm with
        | 0, hq, hm =>
          obtain ⟨t, h1, h2, h3⟩ := hm.done HF.out hx
          obtain ⟨_, _, _, _, _, _, _, _, hun, _⟩ := hm
          have H2 := hide h2
          have C4 := hide (C3.out wr hfr u t hun h3 h1)
          clear h1 h2 h3
          go_wp2_with (go_at_call 16; refine C4.out.mono ?_; clear C4; rintro e w5 ⟨rfl, hf5⟩)
          go_ret2
          exact ⟨by rw [HC.out, H2.out]; rfl, hfr.trans hf5⟩
        | q + 1, hq, hm =>
          have hq14 : q < 14 := by omega
          have hmi : ((q + 1 : Nat) : Int) - 1 = (q : Int) := by omega
          rw [hmi]
          have T := HT.out.same hfr
          have c1 := T.cu hq14
          obtain ⟨hun, hvn⟩ : u < n ∧ v < n := by obtain ⟨_, _, _, _, _, _, _, _, h1, h2, _⟩ := hm; exact ⟨h1, h2⟩
          have cu : wr.cell? ⟨g q, u, none⟩ = some (.int .i32 (upAt p q u)) := (T.up q hq14).cell u hun
          have cv : wr.cell? ⟨g q, v, none⟩ = some (.int .i32 (upAt p q v)) := (T.up q hq14).cell v hvn
          rcases hm.next HF.out hx hyn' with ⟨he, hm'⟩ | ⟨hne, x1, y1, ex, ey, hx1, hy1, hm'⟩
          · rw [he] at cu
            generalize upAt p q v = s at cu cv
            have ht2 : (s != s) = false := by simp
            have HM := hide hm'
            clear he hm' hm T hmi
            go_wp2
            go_quiet (fail)
            go_wp2
            go_roundg q
            case measure => omega
            case rel => exact ⟨u, v, by go_num, by omega, rfl, rfl, HM.out, hfr.drewN _⟩
          · rw [ex] at cu hne
            rw [ey] at cv hne
            have ht2 : ((x1 : Int) != (y1 : Int)) = true := by simpa using hne
            have HM := hide hm'
            clear hm' hm T hmi hne ex ey
            go_wp2
            go_quiet (fail)
            go_wp2
            go_roundg q
            case measure => omega
            case rel => exact ⟨x1, y1, by go_num, by omega, rfl, rfl, HM.out, hfr.drewN _⟩
end

end Go.Proofs.YthpghcidocjanaaDoor
