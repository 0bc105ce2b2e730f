/- Walks: Cross, the code's, where it answers. -/
import Derived.Test.YtneidejngbokcaaC6
namespace Go.Proofs.Ytneidejngbokcaa
open Go.RowKit Go.Shelf

attribute [local go_sem] Oper.semAt_some

theorem region_wd_round {n r : Nat} {P : Program} {Q : Exit → Act → World → Prop} {id : Nat} {a : Act} {W : World} {l : List Oper} (hm : P.follows .mixedOrders = true) (hd : noDefer l.toArray = true) (hQ : ¬ LetsOut Q) (hB : Region.lexB .any l.toArray = true)
    (h : wpQuiet P l.toArray (fun w' => ∃ x : Wd (fun _ => False) W, w' = x.w) (fun a' => ∀ w', (∃ x : Wd (fun _ => False) W, w' = x.w) → Q .normal a' w') l a) : (Code.region id l.toArray true).wpIn (Fence.wide.inRound r) n P Q a W := by
  haveI : Nonempty { w' : World // ∃ x : Wd (fun _ => False) W, w' = x.w } := ⟨⟨W, ⟨W, Fr.refl _ _⟩, rfl⟩⟩
  exact region_quiet_round (C := fun w' => ∃ x : Wd (fun _ => False) W, w' = x.w) hm hd hQ hB ⟨⟨{ W with drawn := W.drawn + 1 }, (Fr.refl _ W).to rfl rfl rfl rfl⟩, rfl⟩ (by simpa using h)

/-- The boxes that Cross makes ahead of its loop. -/
def crW (w2 : World) (ao zo : Option Addr) (n m c d : Nat) : World :=
  (((((w2.alloc (.cells #[.slice ao n c] 22)).alloc (.cells #[.slice zo m d] 22)).alloc (.cells #[.func (.func 42) #[] #[.pointer (some ⟨w2.heap.size, 0, none⟩)]] 47)).alloc
    (.cells #[.func (.func 42) #[] #[.pointer (some ⟨w2.heap.size + 1, 0, none⟩)]] 47)).alloc
      (.cells #[.func (.func 29) #[] #[.pointer (some ⟨w2.heap.size + 1 + 1, 0, none⟩), .pointer (some ⟨w2.heap.size + 1 + 1 + 1, 0, none⟩)]] 49))

theorem cr_new (w2 : World) (ao zo : Option Addr) (n m c d : Nat) :
    (crW w2 ao zo n m c d).cell? ⟨w2.heap.size, 0, none⟩ = some (.slice ao n c) ∧ (crW w2 ao zo n m c d).cell? ⟨w2.heap.size + 1, 0, none⟩ = some (.slice zo m d) ∧
    (crW w2 ao zo n m c d).cell? ⟨w2.heap.size + 1 + 1, 0, none⟩ = some (.func (.func 42) #[] #[.pointer (some ⟨w2.heap.size, 0, none⟩)]) ∧
    (crW w2 ao zo n m c d).cell? ⟨w2.heap.size + 1 + 1 + 1, 0, none⟩ = some (.func (.func 42) #[] #[.pointer (some ⟨w2.heap.size + 1, 0, none⟩)]) ∧
    (crW w2 ao zo n m c d).cell? ⟨w2.heap.size + 1 + 1 + 1 + 1, 0, none⟩ = some (.func (.func 29) #[] #[.pointer (some ⟨w2.heap.size + 1 + 1, 0, none⟩), .pointer (some ⟨w2.heap.size + 1 + 1 + 1, 0, none⟩)]) ∧
    Same' w2 (crW w2 ao zo n m c d) ∧ (crW w2 ao zo n m c d).heap.size = w2.heap.size + 5 := by
  unfold crW
  generalize hv3 : (Value.func (.func 42) #[] #[.pointer (some ⟨w2.heap.size, 0, none⟩)]) = v3
  generalize hv4 : (Value.func (.func 42) #[] #[.pointer (some ⟨w2.heap.size + 1, 0, none⟩)]) = v4
  generalize hv5 : (Value.func (.func 29) #[] #[.pointer (some ⟨w2.heap.size + 1 + 1, 0, none⟩), .pointer (some ⟨w2.heap.size + 1 + 1 + 1, 0, none⟩)]) = v5
  have k1 := cell_same (new_cell w2 (.slice ao n c) 22) ((((same_alloc _ (.cells #[.slice zo m d] 22)).trans (same_alloc _ (.cells #[v3] 47))).trans (same_alloc _ (.cells #[v4] 47))).trans (same_alloc _ (.cells #[v5] 49)))
  have k2 := cell_same (new_cell (w2.alloc (.cells #[.slice ao n c] 22)) (.slice zo m d) 22) (((same_alloc _ (.cells #[v3] 47)).trans (same_alloc _ (.cells #[v4] 47))).trans (same_alloc _ (.cells #[v5] 49)))
  have k3 := cell_same (new_cell ((w2.alloc (.cells #[.slice ao n c] 22)).alloc (.cells #[.slice zo m d] 22)) v3 47) ((same_alloc _ (.cells #[v4] 47)).trans (same_alloc _ (.cells #[v5] 49)))
  have k4 := cell_same (new_cell (((w2.alloc (.cells #[.slice ao n c] 22)).alloc (.cells #[.slice zo m d] 22)).alloc (.cells #[v3] 47)) v4 47) (same_alloc _ (.cells #[v5] 49))
  have k5 := new_cell ((((w2.alloc (.cells #[.slice ao n c] 22)).alloc (.cells #[.slice zo m d] 22)).alloc (.cells #[v3] 47)).alloc (.cells #[v4] 47)) v5 49
  simp only [World.size_alloc] at k1 k2 k3 k4 k5
  exact ⟨k1, k2, k3, k4, k5, ((((same_alloc _ _).trans (same_alloc _ _)).trans (same_alloc _ _)).trans (same_alloc _ _)).trans (same_alloc _ _), by simp only [World.size_alloc]⟩

set_option maxRecDepth 100000 in
set_option maxHeartbeats 2000000 in
theorem Cross15_ok {w : World} {ao zo : Option Addr} {n m : Nat} (c d : Nat) {f g : Nat → Nat} (h : FlAt w ao n f) (h2 : FlAt w zo m g) {s : Nat} (hv : valB n f = true) (hu : valB m g = true) (hs1 : 1 ≤ s) (hs2 : s ≤ 1000) :
    Calls Try.prog 15 #[.slice ao n c, .slice zo m d, .int .i64 s] w fun e w' => ∃ r bo, e = .returned (.tuple #[.float .f64 r, .bool bo, .int .i64 0]) ∧ CrOut n (fun i => cls (f i)) m (fun i => cls (g i)) s r bo ∧ Same' w w' := by
  refine (callsIn_wide (n := 9)).1 ?_
  have hfa := ((same_alloc w (.cells #[.float .f64 0] 24)).trans (same_alloc _ (.cells #[.bool false] 4))).trans (same_alloc _ (.cells #[.int .i64 0] 25))
  have C := valid27_two (c := c) (d := d) (h.keep hfa) (h2.keep hfa)
  rw [hv, hu] at C
  simp only [World.size_alloc] at C
  replace C := hide C
  have HL := hide h
  have HL2 := hide h2
  have HV := hide hv
  have HU := hide hu
  have KC := hide (fun (W : World) (hf : Same' ((((w.alloc (.cells #[.float .f64 0] 24)).alloc (.cells #[.bool false] 4)).alloc (.cells #[.int .i64 0] 25)).alloc (.cells #[.slice ao n c, .slice zo m d] 22)) W) => And.intro (res_new (ao := ao) (zo := zo) (n := n) (m := m) (c := c) (d := d) hf) hf.size)
  clear h h2 hv hu hfa
  have d1 : decide ((s : Int) < 1) = false := by simp; omega
  have d2 : decide ((1000 : Int) < s) = false := by simp; omega
  have A := hide (fun W => average28_at W ao n c)
  have A2 := hide (fun W => average28_at W zo m d)
  have PP := hide (fun W => points_at (s : Int) W)
  refine callsIn_of_wp_marks Try.func15 rfl trivial ?_ rfl
  refine wpIn_wide.2 ?_
  simp only [Try.ntmps15, List.size_toArray, List.length_cons, List.length_nil, Nat.reduceAdd, Nat.reduceSub, Array.replicate_succ, Array.replicate_zero, List.push_toArray, List.append_toArray, List.nil_append, List.cons_append]
  go_wp2_with fail
  refine C.out.mono ?_
  clear C
  rintro e w2 ⟨rfl, hf⟩
  obtain ⟨⟨c6, c7, c8, z6, z7, z8, hfw⟩, hz⟩ := KC.out _ hf
  simp only [World.size_alloc] at hz
  have R0 := hide (And.intro c6 (And.intro c7 (And.intro c8 (And.intro z6 (And.intro z7 z8)))))
  have HFW := hide hfw
  clear hf KC c6 c7 c8 z6 z7 z8 hfw
  go_wp2_with (first
    | (go_at_call 28; (with_reducible refine (A.out _).mono ?_); rintro e w3 ⟨rfl, rfl⟩)
    | (go_at_call 28; (with_reducible refine (A2.out _).mono ?_); rintro e w4 ⟨rfl, rfl⟩))
  obtain ⟨cx, cz, c9, c10, c11, hs3, hz3⟩ := cr_new w2 ao zo n m c d
  refine (sign29_at (w := crW w2 ao zo n m c d) c9 c10 cx cz (HL.out.keep (HFW.out.trans hs3)) (HL2.out.keep (HFW.out.trans hs3)) HV.out HU.out probB_zero).mono ?_
  rintro e w4 ⟨rfl, hf4⟩
  obtain ⟨first, hfirst⟩ : ∃ first, first = sg0 n (fun i => cls (f i)) m (fun i => cls (g i)) := ⟨_, rfl⟩
  have hfirst' : first = sgC (avC n (fun i => cls (f i)) 0) (avC m (fun i => cls (g i)) 0) := hfirst
  rw [← hfirst']
  have HFI := hide hfirst
  clear hfirst hfirst'
  have HC5 := hide (And.intro (cell_same cx hf4) (And.intro (cell_same cz hf4) (And.intro (cell_same c9 hf4) (And.intro (cell_same c10 hf4) (cell_same c11 hf4)))))
  have hs4 := hs3.trans hf4
  have hz4 := hf4.size
  rw [hz3] at hz4
  clear cx cz c9 c10 c11 hs3 hz3 hf4
  go_wp2_with (go_at_call 30; refine (PP.out _).mono ?_; rintro e w5 ⟨rfl, rfl⟩)
  have hS : CsW w w.heap.size (w.heap.size + 1) (w.heap.size + 1 + 1) (w2.heap.size + 1 + 1) (w2.heap.size + 1 + 1 + 1) (w2.heap.size + 1 + 1 + 1 + 1) w4.heap.size (w4.heap.size + 1) w2.heap.size (w2.heap.size + 1) ao zo n m c d s first 0 false 0
      ((w4.alloc (.cells #[.int .i64 first] 3)).alloc (.cells #[.int .i64 s] 3)) := by
    obtain ⟨c6, c7, c8, z6, z7, z8⟩ := R0.out
    obtain ⟨cx, cz, c9, c10, c11⟩ := HC5.out
    have q := (same_alloc w4 (.cells #[.int .i64 first] 3)).trans (same_alloc _ (.cells #[.int .i64 s] 3))
    have q2 := hs4.trans q
    have k12 := cell_same (new_cell w4 (.int .i64 first) 3) (same_alloc _ (.cells #[.int .i64 s] 3))
    have kp := new_cell (w4.alloc (.cells #[.int .i64 first] 3)) (.int .i64 s) 3
    simp only [World.size_alloc] at kp
    exact ⟨cell_same c6 q2, cell_same c7 q2, cell_same c8 q2, (frozen_same c6 q2).trans z6, (frozen_same c7 q2).trans z7, (frozen_same c8 q2).trans z8,
      cell_same c9 q, cell_same c10 q, cell_same c11 q, k12, kp, cell_same cx q, cell_same cz q, HFW.out.trans q2, Nat.le_refl _, by omega, by omega, rfl, rfl, by omega⟩
  have hws : w.heap.size ≤ ((w4.alloc (.cells #[.int .i64 first] 3)).alloc (.cells #[.int .i64 s] 3)).heap.size := hS.fr.size
  clear HC5 R0 hs4 hz hz4 A A2 PP d1 d2
  refine (wpIn_wide (n := 8)).1 ?_
  refine wpIn_rangeFunc_al (n := 8) (α := Nat) rfl (by omega) (gf := 43) (lb := #[.pointer (some ⟨w4.heap.size + 1, 0, none⟩)]) rfl trivial (enters_of Try.func43 (by kernel_rfl) rfl) (enc := fun x => .float .f64 (gridW s x)) rfl
    (fun k W => CsW w w.heap.size (w.heap.size + 1) (w.heap.size + 1 + 1) (w2.heap.size + 1 + 1) (w2.heap.size + 1 + 1 + 1) (w2.heap.size + 1 + 1 + 1 + 1) w4.heap.size (w4.heap.size + 1) w2.heap.size (w2.heap.size + 1) ao zo n m c d s first 0 false 0 W ∧ ∀ j, j < k → sgK n (fun i => cls (f i)) m (fun i => cls (g i)) s j = first)
    (fun k W => CsW w w.heap.size (w.heap.size + 1) (w.heap.size + 1 + 1) (w2.heap.size + 1 + 1) (w2.heap.size + 1 + 1 + 1) (w2.heap.size + 1 + 1 + 1 + 1) w4.heap.size (w4.heap.size + 1) w2.heap.size (w2.heap.size + 1) ao zo n m c d s first 0 false 0 W ∧ ∀ j, j < k + 1 → sgK n (fun i => cls (f i)) m (fun i => cls (g i)) s j = first)
    (fun k W => CsW w w.heap.size (w.heap.size + 1) (w.heap.size + 1 + 1) (w2.heap.size + 1 + 1) (w2.heap.size + 1 + 1 + 1) (w2.heap.size + 1 + 1 + 1 + 1) w4.heap.size (w4.heap.size + 1) w2.heap.size (w2.heap.size + 1) ao zo n m c d s first (gridW s k) true 0 W ∧ k ≤ s ∧ sgK n (fun i => cls (f i)) m (fun i => cls (g i)) s k ≠ first ∧ ∀ j, j < k → sgK n (fun i => cls (f i)) m (fun i => cls (g i)) s j = first)
    (fun s A B row hs hg hr => ⟨hs.1.own hws hg hr, hs.2⟩) (fun s A B row hs hg hr => ⟨hs.1.own hws hg hr, hs.2⟩) (fun s A B row hs hg hr => ⟨hs.1.own hws hg hr, hs.2⟩) 0 (s + 1) ⟨hS, fun j hj => by omega⟩
    (fun x => x ≤ s)
    (fun x => { tmps := #[Value.slice ao n c, Value.slice zo m d, Value.int IntKind.i64 ↑s, undef, undef, undef,
          Value.pointer (some { block := w.heap.size, off := 0 }),
          Value.pointer (some { block := w.heap.size + 1, off := 0 }),
          Value.pointer (some { block := w.heap.size + 1 + 1, off := 0 }),
          Value.pointer (some { block := w2.heap.size + 1 + 1, off := 0 }),
          Value.pointer (some { block := w2.heap.size + 1 + 1 + 1, off := 0 }),
          Value.pointer (some { block := w2.heap.size + 1 + 1 + 1 + 1, off := 0 }),
          Value.pointer (some { block := w4.heap.size, off := 0 }), Value.float .f64 (gridW s x), Value.slice ao n c, Value.slice zo m d,
          Value.slice (some { block := w.heap.size + 1 + 1 + 1, off := 0 }) 2 2, Value.bool true, Value.bool false,
          Value.bool false, Value.int IntKind.i64 ↑s, Value.bool false, Value.bool false, Value.bool false,
          Value.int IntKind.i64 ↑s, Value.bool false, Value.bool false, Value.slice ao n c,
          Value.func (Fn.func 42) #[] #[Value.pointer (some { block := w2.heap.size, off := 0 })], Value.slice zo m d,
          Value.func (Fn.func 42) #[] #[Value.pointer (some { block := w2.heap.size + 1, off := 0 })],
          Value.func (Fn.func 29) #[] #[Value.pointer (some { block := w2.heap.size + 1 + 1, off := 0 }), Value.pointer (some { block := w2.heap.size + 1 + 1 + 1, off := 0 })],
          Value.func (Fn.func 29) #[] #[Value.pointer (some { block := w2.heap.size + 1 + 1, off := 0 }), Value.pointer (some { block := w2.heap.size + 1 + 1 + 1, off := 0 })],
          Value.int IntKind.i64 first, Value.int IntKind.i64 ↑s,
          Value.func (Fn.func 43) #[] #[Value.pointer (some { block := w4.heap.size + 1, off := 0 })], Value.float .f64 (gridW s x),
          undef, undef, undef, undef, undef, undef], defers := [] }) ?assign ?body ?iter ?done ?stop
  case assign =>
    intro l x W K hK
    gi_wp2
    exact hK
  case iter =>
    intro l B Bx hB hBx hY W hW hBW
    refine points1_at l (w4.heap.size + 1) s hs1 hs2
      (fun k W => CsW w w.heap.size (w.heap.size + 1) (w.heap.size + 1 + 1) (w2.heap.size + 1 + 1) (w2.heap.size + 1 + 1 + 1) (w2.heap.size + 1 + 1 + 1 + 1) w4.heap.size (w4.heap.size + 1) w2.heap.size (w2.heap.size + 1) ao zo n m c d s first 0 false 0 W ∧ ∀ j, j < k → sgK n (fun i => cls (f i)) m (fun i => cls (g i)) s j = first)
      (fun k W => CsW w w.heap.size (w.heap.size + 1) (w.heap.size + 1 + 1) (w2.heap.size + 1 + 1) (w2.heap.size + 1 + 1 + 1) (w2.heap.size + 1 + 1 + 1 + 1) w4.heap.size (w4.heap.size + 1) w2.heap.size (w2.heap.size + 1) ao zo n m c d s first 0 false 0 W ∧ ∀ j, j < k + 1 → sgK n (fun i => cls (f i)) m (fun i => cls (g i)) s j = first)
      (fun k W => CsW w w.heap.size (w.heap.size + 1) (w.heap.size + 1 + 1) (w2.heap.size + 1 + 1) (w2.heap.size + 1 + 1 + 1) (w2.heap.size + 1 + 1 + 1 + 1) w4.heap.size (w4.heap.size + 1) w2.heap.size (w2.heap.size + 1) ao zo n m c d s first (gridW s k) true 0 W ∧ k ≤ s ∧ sgK n (fun i => cls (f i)) m (fun i => cls (g i)) s k ≠ first ∧ ∀ j, j < k → sgK n (fun i => cls (f i)) m (fun i => cls (g i)) s j = first) B Bx ?_ ?_ hY W hW hBW
    · exact fun r W h => h.1.cp
    · exact fun k W h => h
  case body =>
    rintro l k W hk ⟨hS, hall⟩
    have hp := grid_prob hs1 hs2 hk
    obtain ⟨p, hpe⟩ : ∃ p, p = gridW s k := ⟨_, rfl⟩
    rw [← hpe] at hp ⊢
    obtain ⟨v, hve⟩ : ∃ v, v = sgK n (fun i => cls (f i)) m (fun i => cls (g i)) s k := ⟨_, rfl⟩
    have hve2 : v = sgC (avC n (fun i => cls (f i)) p) (avC m (fun i => cls (g i)) p) := by rw [hve, hpe]; rfl
    have C := hide (fun x : Wd (fun _ => False) W => hve2 ▸ sign29_at (w := x.w) (p := p) (cell_same hS.c9 x.h) (cell_same hS.c10 x.h) (cell_same hS.cx x.h) (cell_same hS.cz x.h) (HL.out.keep (hS.fr.trans x.h)) (HL2.out.keep (hS.fr.trans x.h)) HV.out HU.out hp)
    have k11 := fun x : Wd (fun _ => False) W => cell_same hS.c11 x.h
    have k12 := fun x : Wd (fun _ => False) W => cell_same hS.c12 x.h
    have HS := hide hS
    have HP := hide hpe
    have HA := hide hall
    have HVE := hide hve
    clear hS hp hpe hall hve hve2 hws
    gi_wp2
    refine region_wd_round (by kernel_rfl) (by kernel_rfl) ?_ (by kernel_rfl) ?_
    · rintro ⟨a, w, h⟩
      rcases h with ⟨h, _⟩ | ⟨h, _⟩ <;> cases h
    repeat (go_big_quiet_step (first | (go_at_call 29; exact Wd.quiet (C.out _))))
    refine wpQuiet_nil ?_
    rintro _ ⟨y, rfl⟩
    have hS2 := HS.out.same y.h
    have hk2 := same_keeps y.h
    have c6 := hS2.c6
    have c7 := hS2.c7
    have c8 := hS2.c8
    have z6 := hS2.z6
    have z7 := hS2.z7
    have z8 := hS2.z8
    have HS2 := hide hS2
    have HK2 := hide hk2
    clear hS2 hk2 k11 k12 C HS
    by_cases hvf : v = first
    · have hb : (v != first) = false := by simp [hvf]
      have HVF := hide hvf
      clear hvf
      gi_wp2
      refine ⟨HK2.out, HS2.out, fun j hj => ?_⟩
      by_cases e : j = k
      · subst e; rw [← HVE.out]; exact HVF.out
      · exact HA.out j (by omega)
    · have hb : (v != first) = true := by simp [hvf]
      have HVF := hide hvf
      clear hvf
      gi_wp2
      refine ⟨HK2.out.trans (((KeepsOthers.setCell _ _ _).trans (KeepsOthers.setCell _ _ _)).trans (KeepsOthers.setCell _ _ _)), ?_, by rw [← HVE.out]; exact HVF.out, HA.out⟩
      exact HS2.out.set p true 0
  case done =>
    rintro D W hD ⟨hS, hall⟩ hK
    have c6 := hS.c6
    have c7 := hS.c7
    have c8 := hS.c8
    have z6 := hS.z6
    have z7 := hS.z7
    have z8 := hS.z8
    have HS := hide hS
    have HA := hide hall
    clear hS hall
    go_wp2_with fail
    have hS' := HS.out.set 0 false 0
    have hK' := (((KeepsOthers.setCell W ⟨w.heap.size, 0, none⟩ (.float .f64 0)).trans (KeepsOthers.setCell _ ⟨w.heap.size + 1, 0, none⟩ (.bool false))).trans (KeepsOthers.setCell _ ⟨w.heap.size + 1 + 1, 0, none⟩ (.int .i64 0))).same D _ hK rfl
    refine ⟨by simp, .inl ⟨_, _, rfl, run_takeDeferred hK', ?_⟩⟩
    have hS3 := hS'.own (B := w.heap.size) (Nat.le_refl _) (grownBy_putObj' _ D (.deferred none)) (fun x e => by cases e; exact ⟨by omega, _, hK', rfl⟩)
    have k6 := hS3.c6
    have k7 := hS3.c7
    have k8 := hS3.c8
    exact ⟨.tuple #[.float .f64 0, .bool false, .int .i64 0], by simp [results, Try.results15, go_sem, k6, k7, k8], 0, false, rfl, .inr ⟨rfl, rfl, fun j hj => by rw [← HFI.out]; exact HA.out j (by omega)⟩, hS3.fr⟩
  case stop =>
    rintro D k W hD ⟨hS, hk, hne, hall⟩ hK
    have c6 := hS.c6
    have c7 := hS.c7
    have c8 := hS.c8
    have HS := hide hS
    have HA := hide hall
    have HN := hide hne
    clear hS hall hne
    gi_wp2
    have hS' := HS.out
    refine ⟨by simp, .inl ⟨_, _, rfl, run_takeDeferred hK, ?_⟩⟩
    have hS3 := hS'.own (B := w.heap.size) (Nat.le_refl _) (grownBy_putObj' _ D (.deferred none)) (fun x e => by cases e; exact ⟨by omega, _, hK, rfl⟩)
    have k6 := hS3.c6
    have k7 := hS3.c7
    have k8 := hS3.c8
    exact ⟨.tuple #[.float .f64 (gridW s k), .bool true, .int .i64 0], by simp [results, Try.results15, go_sem, k6, k7, k8], gridW s k, true, rfl, .inl ⟨rfl, k, hk, rfl, by rw [← HFI.out]; exact HN.out, fun j hj => by rw [← HFI.out]; exact HA.out j hj⟩, hS3.fr⟩
end Go.Proofs.Ytneidejngbokcaa
