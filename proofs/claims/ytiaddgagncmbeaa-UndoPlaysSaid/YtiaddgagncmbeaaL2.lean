/- The walk of UndoOrders. -/
import Derived.Test.YtiaddgagncmbeaaW13
import Derived.Test.YtiaddgagncmbeaaY
import Derived.Deep.RegionLaw
namespace Go.Proofs.Ytiaddgagncmbeaa
open Go.RowKit

/-- append as one step of a region that draws its order. -/
theorem step_app {P : Program} {ops : Array Oper} {o : Oper} {a : Act} {w : World} {K : Act → World → Prop} {Q : Exit → Act → World → Prop} {E : Prop}
    (hg : o.guard = none) (s x : Operand) (t : TypeId) (hop : o.op = Op.call { callee := Callee.builtin Builtin.append, args := #[s, x], argTypes := #[t, t] })
    (e : TypeId) (z : Value) (size bytes : Nat) (ht : P.underlying t = some (.slice e)) (hinf : (P.info? e).map (fun i => (i.zero, i.size, i.bytes)) = some (some z, size, bytes)) (hzs : z.cells.size = size) (hsz : 0 < size)
    (ao : Option Addr) (n cap : Nat) (xs : List Value) (hs : a.eval s = .slice ao n cap) (hown : w.ownsRow 0 e size (.slice ao n cap) n xs)
    (ad : Addr) (m c : Nat) (news : List Value) (hx : a.eval x = .slice (some ad) m c) (hl : news.length = m * size) (hnews : ∀ j u, news[j]? = some u → w.cell? (ad.add j) = some u) (h1 : ∀ u ∈ news, u.oneCell' = true)
    (h63 : n + m ≤ maxLen) (hbytes : (n + m) * bytes ≤ 140737488355328)
    (hK : ∀ ao' cap' w', w'.ownsRow 0 e size (.slice ao' (n + m) cap') (n + m) (xs ++ news) → Fr (fun k => blk ao = some k) w w' → (∀ k, blk ao' = some k → blk ao = some k ∨ w.heap.size ≤ k) → K (a.put o.dst (.slice ao' (n + m) cap')) w') :
    if Region.wanted o (yielded ops a.tmps) = true then Oper.wp P o a w K Q else E := by
  have hw : Region.wanted o (yielded ops a.tmps) = true := by simp [Region.wanted, hg]
  rw [if_pos hw]
  obtain ⟨i, hi, hz, hsize, hby⟩ := info_parts hinf
  obtain ⟨ao', cap', w', hr, how, hf, hb, _, _⟩ := run_app (P := P) w t o.type e i z size bytes ht hi hz hsize hby hzs hsz ao n cap xs hown ad m c news hl hnews h1 h63 hbytes
  unfold Oper.wp execOp
  simp only [hop, resolve, invoke, builtin, Sem.run_bind, Sem.run_pure, Result.andThen_ok, List.map_toArray, List.map_cons, List.map_nil, hs, hx, hr]
  exact hK ao' cap' w' how hf hb

theorem Try.info34 : (Try.prog.info? 34).map (fun i => (i.zero, i.size, i.bytes)) = some (some (.agg #[.int .u8 0, .int .u8 0]), 2, 2) := by kernel_rfl

/-- The cells of the pairs in the other order and direction. -/
def bk (n : Nat) (xs ys : Nat → Nat) : Nat → List Value
  | 0 => []
  | k + 1 => bk n xs ys k ++ [.int .u8 (ys (n - 1 - k) : Nat), .int .u8 (xs (n - 1 - k) : Nat)]

theorem bk_length (n : Nat) (xs ys : Nat → Nat) (k : Nat) : (bk n xs ys k).length = k * 2 := by
  induction k with
  | zero => rfl
  | succ k ih => simp only [bk, List.length_append, ih, List.length_cons, List.length_nil]; omega

theorem bk_get (n : Nat) (xs ys : Nat → Nat) (k i : Nat) (hi : i < k) : (bk n xs ys k)[i * 2]? = some (.int .u8 (ys (n - 1 - i) : Nat)) ∧ (bk n xs ys k)[i * 2 + 1]? = some (.int .u8 (xs (n - 1 - i) : Nat)) := by
  induction k with
  | zero => omega
  | succ k ih =>
    have hl := bk_length n xs ys k
    by_cases e : i = k
    · subst e
      simp only [bk]
      rw [List.getElem?_append_right (by omega), List.getElem?_append_right (by omega), hl]
      simp [show i * 2 + 1 - i * 2 = 1 by omega]
    · have := ih (by omega)
      simp only [bk]
      rw [List.getElem?_append_left (by omega), List.getElem?_append_left (by omega)]
      exact this

set_option maxHeartbeats 2000000 in
theorem UndoOrders_any (w : World) (v1 : Value) (n1 : Nat) (xs ys : Nat → Nat) (h1 : SlB w v1 n1 xs ys) (hm1 : n1 ≤ 9223372036854775807) :
    Calls Try.prog 4 #[v1] w fun e w' => e = .returned (.bool true) ∧ Same' w w' := by
  have H1 := hide h1
  obtain ⟨a1, c1, rfl, _⟩ := h1
  by_cases hs : n1 ≤ 100
  · go_enter Try.func4, Try.ntmps4
    go_wp2
    go_loopg [3, 4] n1 (fun q v i wr => ∃ (k : Nat) (ao : Option Addr) (cap : Nat), q + k = n1 ∧ i = .int .i64 ((n1 : Int) - 1 - k) ∧ v = .slice ao k cap ∧ wr.ownsRow 0 34 2 (.slice ao k cap) k (bk n1 xs ys k) ∧ (∀ b, blk ao = some b → w.heap.size ≤ b) ∧ Same' w wr)
    case atStart => exact ⟨0, none, 0, by omega, by simp, rfl, World.ownsRow_nil _ _ _ _, fun b hb => by simp [blk] at hb, Fr.refl _ _⟩
    case round =>
      obtain ⟨k, ao, cap, hq, rfl, rfl, hown, hblk, hf⟩ := hrel
      by_cases hlt : k < n1
      · obtain ⟨j, hj⟩ : ∃ j, n1 = k + 1 + j := ⟨n1 - 1 - k, by omega⟩
        have hji : ((n1 : Int) - 1 - k) = (j : Int) := by omega
        rw [hji]
        have hl := H1.out.keep hf (fun _ _ _ h => h)
        obtain ⟨a', c', ev, hcell⟩ := hl
        simp only [Value.slice.injEq] at ev
        obtain ⟨rfl, _, rfl⟩ := ev
        obtain ⟨g, o, rfl, hx, hy, hx8, hy8⟩ := hcell j (by omega)
        have HJ := hide hj
        have HB := hide (And.intro hown (And.intro hblk hf))
        clear hcell hown hblk hf hji
        have hjn : j < n1 := by omega
        clear hj
        go_wp2
        go_region_law (refine step_app rfl (.tmp 18) (.tmp 30) 22 rfl 34 (.agg #[.int .u8 0, .int .u8 0]) 2 2 Try.underlying22 Try.info34 rfl (by decide) ao k cap (bk n1 xs ys k) (by simp [Act.eval, Act.put]) (HB.out.1.drew.alloc _) ⟨wr.heap.size, 0, none⟩ 1 1 [.int .u8 (ys j : Nat), .int .u8 (xs j : Nat)] (by simp [Act.eval, Act.put]) rfl (by intro j u hj; match j, hj with | 0, hj => simp at hj; subst hj; simp [Addr.add] | 1, hj => simp at hj; subst hj; simp [Addr.add]) (by simp [Value.oneCell']) (by unfold maxLen; omega) (by omega) ?_; intro ao' cap' w2 hown2 hf2 hb2)
        all_goals
          go_wp2
          go_roundg (n1 - (k + 1))
          case measure => omega
          case rel =>
            have hjj := HJ.out
            refine ⟨k + 1, ao', cap', by omega, by go_num, rfl, ?_, ?_, ?_⟩
            · have e : bk n1 xs ys (k + 1) = bk n1 xs ys k ++ [.int .u8 (ys j : Nat), .int .u8 (xs j : Nat)] := by
                simp only [bk]
                rw [show n1 - 1 - k = j from by omega]
              rw [e]
              exact hown2
            · intro b hb
              rcases hb2 b hb with h | h
              · exact HB.out.2.1 b h
              · have := HB.out.2.2.size
                simp at h
                omega
            · exact ((HB.out.2.2.drew.alloc _).trans' hf2 (fun b hb hm => by have := HB.out.2.1 b hm; omega))
      · have hk : k = n1 := by omega
        subst hk
        have hbl : SlB wr (.slice ao k cap) k (fun i => ys (k - 1 - i)) (fun i => xs (k - 1 - i)) := by
          refine ⟨ao, cap, rfl, fun i hi => ?_⟩
          rcases hown.2 with ⟨_, h0⟩ | ⟨g, cap', cur, hv, _, hg, _⟩
          · omega
          · simp only [Value.slice.injEq] at hv
            obtain ⟨rfl, _, rfl⟩ := hv
            have b1 := bk_get k xs ys k i hi
            obtain ⟨_, _, _, hc⟩ := H1.out
            obtain ⟨_, _, _, _, _, hx8, hy8⟩ := hc (k - 1 - i) (by omega)
            exact ⟨g, 0, rfl, by rw [Nat.zero_add, hown.cellAt (i * 2) (by omega)]; exact b1.1, by rw [Nat.zero_add, hown.cellAt (i * 2 + 1) (by omega)]; exact b1.2, hy8, hx8⟩
        have c := made_any wr (.slice a1 k c1) k xs ys (H1.out.keep hf (fun _ _ _ h => h)) hs
        have C := hide c
        have HB := hide (And.intro hbl (And.intro hblk hf))
        clear c hbl hblk hf hown
        go_wp2_with fail
        refine C.out.mono ?_
        clear C
        rintro e w1 ⟨L1, rfl, hS1, hf1, hm1⟩
        have c := made_any w1 (.slice ao k cap) k _ _ (HB.out.1.keep hf1 (fun _ _ _ h => h)) hs
        have C := hide c
        have HS1 := hide hS1
        have HF1 := hide (HB.out.2.2.trans hf1)
        clear c hS1 hf1 hm1
        go_wp2_with fail
        refine C.out.mono ?_
        clear C
        rintro e w2 ⟨L2, rfl, hS2, hf2, hm2⟩
        have hl1 := bp_lt xs ys k
        have hl2 := bp_lt (fun i => ys (k - 1 - i)) (fun i => xs (k - 1 - i)) k
        have hO1 := St.unis_ok (St.zero_ok 50) hl1
        have hO2 := St.unis_ok (St.zero_ok 50) hl2
        have hlab : ∀ i, i < 50 → (St.zero.unis (bp xs ys k)).lab 50 i = (St.zero.unis (bp (fun i => ys (k - 1 - i)) (fun i => xs (k - 1 - i)) k)).lab 50 i := by
          intro i hi
          refine lab_congr (fun a b ha hb => ⟨fun e => ?_, fun e => ?_⟩) hi
          · refine St.unis_same hl1 hl2 (fun x hx => .inr ?_) ha hb e
            simp only [bp, List.mem_map, List.mem_range] at hx ⊢
            obtain ⟨q, hq, rfl⟩ := hx
            exact ⟨k - 1 - q, by omega, by rw [show k - 1 - (k - 1 - q) = q from by omega]⟩
          · refine St.unis_same hl2 hl1 (fun x hx => .inr ?_) ha hb e
            simp only [bp, List.mem_map, List.mem_range] at hx ⊢
            obtain ⟨q, hq, rfl⟩ := hx
            exact ⟨k - 1 - q, by omega, rfl⟩
        have hlog := hO1.log_of_lab hO2 hlab
        generalize St.zero.unis (bp xs ys k) = A at *
        generalize St.zero.unis (bp (fun i => ys (k - 1 - i)) (fun i => xs (k - 1 - i)) k) = B at *
        have c1 := (HS1.out.same hf2).labels hO1 (by omega)
        have C1 := hide c1
        have HS2 := hide hS2
        have HF2 := hide hf2
        have HO := hide (And.intro hO1 (And.intro hO2 (And.intro hlab hlog)))
        clear c1 hl1 hl2 hO1 hO2 hlab hlog hS2 hf2 hm2
        go_wp2_with fail
        refine C1.out.mono ?_
        clear C1
        rintro e w3 ⟨g1, rfl, hg1, _, hf3⟩
        have c1 := (HS2.out.same hf3).labels HO.out.2.1 (by omega)
        have C1 := hide c1
        have HG1 := hide hg1
        have HF3 := hide hf3
        clear c1 hg1 hf3
        go_wp2_with fail
        refine C1.out.mono ?_
        clear C1
        rintro e w4 ⟨g2, rfl, hg2, _, hf4⟩
        have c := same_eq w4 (.slice (some ⟨g1, 0, none⟩) 50 50) (.slice (some ⟨g2, 0, none⟩) 50 50) 50 _ _ ((HG1.out.keep hf4 (fun h => h)).sl 50) (hg2.sl 50) (by omega)
        rw [show eqTo 50 (fun i => ((A.lab 50 i : Nat) : Int)) (fun i => ((B.lab 50 i : Nat) : Int)) = true from by
          unfold eqTo
          simp only [decide_eq_true_eq]
          intro i hi
          rw [HO.out.2.2.1 i hi]] at c
        have C := hide c
        have HF4 := hide hf4
        clear c hg2 hf4 HG1
        go_wp2_with fail
        refine C.out.mono ?_
        clear C
        rintro e w5 ⟨rfl, hf5⟩
        have hf25 := (HF3.out.trans HF4.out).trans hf5
        have c1 := (HS1.out.same (HF2.out.trans hf25)).mark
        have c2 := (HS2.out.same hf25).mark
        rw [HO.out.2.2.2] at c1
        have C1 := hide c1
        have C2 := hide c2
        have HF25 := hide hf25
        clear c1 c2 hf25 hf5
        go_wp2_with fail
        refine C1.out.mono ?_
        clear C1
        rintro e w' ⟨rfl, rfl⟩
        go_wp2_with fail
        refine C2.out.mono ?_
        clear C2
        rintro e w' ⟨rfl, rfl⟩
        go_wp2_with (go_at_call 10; refine (works_any _).mono ?_; rintro e w12 ⟨rfl, hf12⟩)
        go_ret
        exact ⟨rfl, ((HF1.out.trans HF2.out).trans HF25.out).trans hf12⟩
  · have hs' : 100 < n1 := by omega
    clear hs
    go_enter Try.func4, Try.ntmps4
    go_wp2_with (go_at_call 10; refine (works_any _).mono ?_; rintro e w12 ⟨rfl, hf12⟩)
    go_ret
    exact ⟨rfl, hf12⟩

end Go.Proofs.Ytiaddgagncmbeaa
