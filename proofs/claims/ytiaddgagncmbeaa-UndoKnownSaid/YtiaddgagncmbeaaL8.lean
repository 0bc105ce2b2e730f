/- The walk of UndoKnown. -/
import Derived.Test.YtiaddgagncmbeaaL7
namespace Go.Proofs.Ytiaddgagncmbeaa
open Go.RowKit

def K1 : St := St.zero.uni 3 1
def K2 : St := K1.uni 4 3
def K3 : St := K2.back 1

theorem sl5 (w : World) (a b c d e : Int) : Sl (w.alloc (.cells #[.int .i64 a, .int .i64 b, .int .i64 c, .int .i64 d, .int .i64 e] 3)) (.slice (some ⟨w.heap.size, 0, none⟩) 5 5) 5 (fun i => [a, b, c, d, e].getD i 0) :=
  ⟨_, _, rfl, fun i hi => ⟨_, _, rfl, by
    rw [Nat.zero_add]
    match i, hi with
    | 0, _ => exact World.cell?_alloc_new w _ 3 0
    | 1, _ => exact World.cell?_alloc_new w _ 3 1
    | 2, _ => exact World.cell?_alloc_new w _ 3 2
    | 3, _ => exact World.cell?_alloc_new w _ 3 3
    | 4, _ => exact World.cell?_alloc_new w _ 3 4⟩⟩

def zeroN (_ : Nat) : Int := 0
def exC (i : Nat) : Int := if i = 0 then 1 else -1

theorem K3_trial : trialV 5 K3 0 zeroN zeroN = .tuple #[.agg #[.int .i64 2, .int .i64 4, .int .i64 7], .int .i64 0] := by
  have h : allIn2 5 0 zeroN zeroN = true := by decide
  unfold trialV
  rw [if_pos h]
  rfl

theorem K3_trial2 : trialV 5 K3 2 zeroN exC = .tuple #[.agg #[.int .i64 0, .int .i64 0, .int .i64 0], .int .i64 3] := by
  have h : allIn2 5 2 zeroN exC = false := by decide
  unfold trialV
  rw [h]
  rfl

theorem zero_trial : trialV 0 St.zero 0 zeroN zeroN = .tuple #[.agg #[.int .i64 0, .int .i64 0, .int .i64 0], .int .i64 0] := by
  have h : allIn2 0 0 zeroN zeroN = true := by decide
  unfold trialV
  rw [if_pos h]
  rfl

theorem known_same (w : World) (g : Nat) (S : St) (w0 : World) (a b c d e : Int) (hg : RowV w g 3 5 5 (numV (S.lab 5))) (hw : w0 = w.alloc (.cells #[.int .i64 a, .int .i64 b, .int .i64 c, .int .i64 d, .int .i64 e] 3))
    (he : eqTo 5 (fun i => (S.lab 5 i : Int)) (fun i => [a, b, c, d, e].getD i 0) = true) (s : Nat) (hs : s = w.heap.size) :
    Calls Try.prog 17 #[.slice (some ⟨g, 0, none⟩) 5 5, .slice (some ⟨s, 0, none⟩) 5 5] w0 fun e w' => e = .returned (.bool true) ∧ Same' w w' := by
  subst hw hs
  have hf : Same' w (w.alloc (.cells #[.int .i64 a, .int .i64 b, .int .i64 c, .int .i64 d, .int .i64 e] 3)) := (Fr.refl _ w).alloc _
  refine (same_eq _ _ _ 5 _ _ ((hg.sl 5).same hf) (sl5 w a b c d e) (by omega)).mono ?_
  rintro e w' ⟨rfl, h⟩
  exact ⟨by rw [he], hf.trans h⟩

theorem pairC (w : World) (g : Nat) (hg : g = w.heap.size) (i : Nat) (hi : i < 2) :
    (w.alloc (.cells #[.int .i64 0, .int .i64 1, .int .i64 0, .int .i64 (-1)] 62)).cell? ⟨g, 0 + i * 2, none⟩ = some (.int .i64 (zeroN i)) ∧ (w.alloc (.cells #[.int .i64 0, .int .i64 1, .int .i64 0, .int .i64 (-1)] 62)).cell? ⟨g, 0 + i * 2 + 1, none⟩ = some (.int .i64 (exC i)) := by
  subst hg
  match i, hi with
  | 0, _ => constructor <;> simp [World.cell?_alloc_new, zeroN, exC]
  | 1, _ => constructor <;> simp [World.cell?_alloc_new, zeroN, exC]

set_option maxRecDepth 100000 in
set_option maxHeartbeats 8000000 in
theorem UndoKnown_any (w : World) : Calls Try.prog 9 #[] w fun e w' => e = .returned (.bool true) ∧ Same' w w' := by
  have C := hide (new_one 5 (by omega) w)
  go_enter Try.func9, Try.ntmps9
  go_wp2_with fail
  refine C.out.mono ?_
  clear C
  rintro e w1 ⟨b, rfl, hK⟩
  have HK := hide hK
  clear hK
  have C := hide (HK.out.union (x := 3) (y := 1) (by omega) (by omega) : Calls Try.prog 23 #[.pointer (some ⟨b, 0, none⟩), .int .i64 3, .int .i64 1] w1 _)
  go_wp2_with fail
  refine C.out.mono ?_
  clear C
  rintro e w2 ⟨rfl, hK⟩
  clear HK
  have HK := hide (show One w w2 b 5 K1 from hK)
  clear hK
  have C := hide (HK.out.union (x := 4) (y := 3) (by omega) (by omega) : Calls Try.prog 23 #[.pointer (some ⟨b, 0, none⟩), .int .i64 4, .int .i64 3] w2 _)
  go_wp2_with fail
  refine C.out.mono ?_
  clear C
  rintro e w3 ⟨rfl, hK⟩
  clear HK
  have HK := hide (show One w w3 b 5 K2 from hK)
  clear hK
  have C := hide (HK.out.union_out (x := 0) (y := 5) (by decide))
  go_wp2_with fail
  refine C.out.mono ?_
  clear C
  rintro e w4 ⟨rfl, hK⟩
  clear HK
  have HK := hide hK
  clear hK
  have C := hide (HK.out.labels)
  go_wp2_with fail
  refine C.out.mono ?_
  clear C
  rintro e w5 ⟨g, rfl, hg, hf⟩
  have HF := hide hf
  have C := hide (known_same w5 g K2 _ 0 1 2 1 1 hg rfl (by decide) _ rfl)
  clear hf hg
  go_wp2_with fail
  refine C.out.mono ?_
  clear C
  rintro e w6 ⟨rfl, hf⟩
  have HK' := hide (HK.out.same (HF.out.trans hf))
  clear HK hf HF
  have HK := HK'
  clear HK' 
  have C := hide (HK.out.mark : Calls Try.prog 12 #[.pointer (some ⟨b, 0, none⟩)] w6 _)
  rw [show K2.log.length = 2 from by decide] at C
  go_wp2_with fail
  refine C.out.mono ?_
  clear C
  rintro e w7 ⟨rfl, hf⟩
  have HK' := hide (HK.out.same hf)
  clear HK hf
  have HK := HK'
  clear HK' 
  have C := hide (HK.out.count : Calls Try.prog 14 #[.pointer (some ⟨b, 0, none⟩)] w7 _)
  rw [show K2.log.length = 2 from by decide] at C
  go_wp2_with fail
  refine C.out.mono ?_
  clear C
  rintro e w8 ⟨rfl, hf⟩
  have HK' := hide (HK.out.same hf)
  clear HK hf
  have HK := HK'
  clear HK' 
  have C := hide (HK.out.size (x := 4) (by omega) : Calls Try.prog 22 #[.pointer (some ⟨b, 0, none⟩), .int .i64 4] w8 _)
  rw [show K2.t.s (K2.t.r 4) = 3 from by decide] at C
  go_wp2_with fail
  refine C.out.mono ?_
  clear C
  rintro e w9 ⟨rfl, hf⟩
  have HK' := hide (HK.out.same hf)
  clear HK hf
  have HK := HK'
  clear HK' 
  have C := hide (HK.out.copy)
  go_wp2_with fail
  refine C.out.mono ?_
  clear C
  rintro e w10 ⟨c, rfl, hK⟩
  clear HK
  have HK := hide hK
  clear hK
  have C := hide (HK.out.undo (q := 1) (by decide) : Calls Try.prog 16 #[.pointer (some ⟨b, 0, none⟩), .int .i64 1] w10 _)
  go_wp2_with fail
  refine C.out.mono ?_
  clear C
  rintro e w11 ⟨rfl, hK⟩
  clear HK
  have HK := hide (show Duo w w11 b 5 K3 c 5 K2 from hK)
  clear hK
  have C := hide (HK.out.one.labels)
  go_wp2_with fail
  refine C.out.mono ?_
  clear C
  rintro e w12 ⟨g, rfl, hg, hf⟩
  have HF := hide hf
  have C := hide (known_same w12 g K3 _ 0 1 2 1 4 hg rfl (by decide) _ rfl)
  clear hf hg
  go_wp2_with fail
  refine C.out.mono ?_
  clear C
  rintro e w13 ⟨rfl, hf⟩
  have HK' := hide (HK.out.same (HF.out.trans hf))
  clear HK hf HF
  have HK := HK'
  clear HK' 
  have C := hide (HK.out.symm.one.labels)
  go_wp2_with fail
  refine C.out.mono ?_
  clear C
  rintro e w14 ⟨g, rfl, hg, hf⟩
  have HF := hide hf
  have C := hide (known_same w14 g K2 _ 0 1 2 1 1 hg rfl (by decide) _ rfl)
  clear hf hg
  go_wp2_with fail
  refine C.out.mono ?_
  clear C
  rintro e w15 ⟨rfl, hf⟩
  have HK' := hide (HK.out.same (HF.out.trans hf))
  clear HK hf HF
  have HK := HK'
  clear HK' 
  have C := hide (HK.out.symm.undo (q := 1) (by decide) : Calls Try.prog 16 #[.pointer (some ⟨c, 0, none⟩), .int .i64 1] w15 _)
  go_wp2_with fail
  refine C.out.mono ?_
  clear C
  rintro e w16 ⟨rfl, hK⟩
  clear HK
  have HK := hide (show Duo w w16 b 5 K3 c 5 K3 from hK.symm)
  clear hK
  have C := hide (HK.out.symm.one.labels)
  go_wp2_with fail
  refine C.out.mono ?_
  clear C
  rintro e w17 ⟨g, rfl, hg, hf⟩
  have HF := hide hf
  have C := hide (known_same w17 g K3 _ 0 1 2 1 4 hg rfl (by decide) _ rfl)
  clear hf hg
  go_wp2_with fail
  refine C.out.mono ?_
  clear C
  rintro e w18 ⟨rfl, hf⟩
  have HK' := hide (HK.out.same (HF.out.trans hf))
  clear HK hf HF
  have HK := HK'
  clear HK' 
  have C := hide (K3_trial ▸ HK.out.trial none 0 0 zeroN zeroN (by omega) (fun h => by omega) : Calls Try.prog 26 #[.pointer (some ⟨b, 0, none⟩), .slice none 0 0] w18 _)
  go_wp2_with fail
  refine C.out.mono ?_
  clear C
  rintro e w19 ⟨rfl, hK⟩
  clear HK
  obtain ⟨L, hLb, hS, hO, _, hm, hf⟩ := hK.one
  clear hK
  have hlt := SetsAt.memlt hS
  have hfA : Same' w19 (w19.alloc (.cells #[.int .i64 2, .int .i64 4, .int .i64 7] 52)) := (Fr.refl _ w19).alloc _
  have hfB : Same' w19 ((w19.alloc (.cells #[.int .i64 2, .int .i64 4, .int .i64 7] 52)).alloc (.cells #[.int .i64 0, .int .i64 1, .int .i64 0, .int .i64 (-1)] 62)) := hfA.alloc _
  have c : Calls Try.prog 26 #[.pointer (some ⟨L.b, 0, none⟩), .slice (some ⟨w19.heap.size + 1, 0, none⟩) 2 2] ((w19.alloc (.cells #[.int .i64 2, .int .i64 4, .int .i64 7] 52)).alloc (.cells #[.int .i64 0, .int .i64 1, .int .i64 0, .int .i64 (-1)] 62)) _ :=
    Trial_at (hS.same hfB) hO (by omega) (some ⟨w19.heap.size + 1, 0, none⟩) 2 2 zeroN exC (by omega) (fun _ => ⟨w19.heap.size + 1, 0, rfl, fun h => by have := hlt _ h; omega, pairC (w19.alloc _) _ (by simp)⟩)
  rw [K3_trial2, hLb] at c
  have C := hide c
  clear c
  have hT : Three ((w19.alloc (.cells #[.int .i64 2, .int .i64 4, .int .i64 7] 52)).alloc (.cells #[.int .i64 0, .int .i64 1, .int .i64 0, .int .i64 (-1)] 62)) w19.heap.size 52 2 4 7 := Three.keep (M := fun _ => False) (heap_alloc_new w19 _) ((Fr.refl _ _).alloc _) id
  have HT := hide hT
  have HM := hide hm
  have HLT := hide hlt
  have HFB := hide (hf.trans hfB)
  have HLB := hide hLb
  have hsz := hfB.size
  obtain ⟨q, hq⟩ : ∃ q, q = w19.heap.size := ⟨_, rfl⟩
  have HQ := hide hq
  have HSZ := hide hsz
  clear hT hm hlt hf hLb hfA hfB hS hO hsz hq
  go_wp2_with fail
  refine C.out.mono ?_
  clear C
  rintro e w21 ⟨rfl, L', hS, hv⟩
  have hT := HT.out.keep hv.fr (fun h => by have := HLT.out _ h; omega)
  have hf := HFB.out.trans' hv.fr (fun k hk h => by have := HM.out k h; omega)
  have hlb := hv.b.trans HLB.out
  have hq := HQ.out
  rw [← hq] at hT
  have HT' := hide hT
  have HF := hide hf
  have HLB' := hide hlb
  have HS := hide hS
  clear HT HFB HLB HLT HM hv hT hf hlb hq hS HSZ
  have hal : Same' w21 (w21.alloc (.cells #[.int .i64 0, .int .i64 0, .int .i64 0] 52)) := (Fr.refl _ w21).alloc _
  have HAL := hide hal
  clear hal
  have C := hide (new_one 0 (by omega) (w21.alloc (.cells #[.int .i64 0, .int .i64 0, .int .i64 0] 52)))
  go_wp2_with fail
  refine C.out.mono ?_
  clear C
  rintro e w22 ⟨p, rfl, hE⟩
  have HE := hide hE
  clear hE
  have C := hide (New_out (-1) w22 (by omega))
  go_wp2_with fail
  refine C.out.mono ?_
  clear C
  rintro e w22' ⟨rfl, rfl⟩
  have C := hide (HE.out.new 65536 (by omega) : Calls Try.prog 18 #[.int .i64 65536] w22 _)
  go_wp2_with fail
  refine C.out.mono ?_
  clear C
  rintro e w23 ⟨g, rfl, hD, _⟩
  have HD := hide hD
  clear hD HE
  have C := hide (New_out 65537 w23 (by omega))
  go_wp2_with fail
  refine C.out.mono ?_
  clear C
  rintro e w23' ⟨rfl, rfl⟩
  have hT := HT'.out.keep (HAL.out.trans HD.out.base) id
  rw [HQ.out] at hT
  have t0 := hT.c0
  have t1 := hT.c1
  have t2 := hT.c2
  have C := hide (HD.out.one.count : Calls Try.prog 14 #[.pointer (some ⟨p, 0, none⟩)] w23 _)
  rw [show ((0 : Nat) : Int) - (St.zero.log.length : Nat) = 0 from rfl] at C
  clear hT
  go_wp2_with fail
  refine C.out.mono ?_
  clear C
  rintro e w24 ⟨rfl, hf⟩
  have hD := HD.out.same hf
  clear HD hf t0 t1 t2
  have HD := hide hD
  clear hD
  have C := hide (zero_trial ▸ HD.out.trial none 0 0 zeroN zeroN (by omega) (fun h => by omega) : Calls Try.prog 26 #[.pointer (some ⟨p, 0, none⟩), .slice none 0 0] w24 _)
  go_wp2_with fail
  refine C.out.mono ?_
  clear C
  rintro e w25 ⟨rfl, hD⟩
  have hal : Same' w25 (w25.alloc (.cells #[.int .i64 0, .int .i64 0, .int .i64 0] 52)) := (Fr.refl _ w25).alloc _
  have hD' := hD.same hal
  clear HD hD hal
  have HD := hide hD'
  clear hD'
  have C := hide (HD.out.symm.one.count : Calls Try.prog 14 #[.pointer (some ⟨g, 0, none⟩)] (w25.alloc (.cells #[.int .i64 0, .int .i64 0, .int .i64 0] 52)) _)
  rw [show ((65536 : Nat) : Int) - (St.zero.log.length : Nat) = 65536 from rfl] at C
  go_wp2_with fail
  refine C.out.mono ?_
  clear C
  rintro e w26 ⟨rfl, hf⟩
  have hS := HS.out.same ((HAL.out.trans HD.out.base).trans hf)
  have hF := (HF.out.trans (HAL.out.trans HD.out.base)).trans hf
  have C := hide (HLB'.out ▸ Undo_out L' 5 _ _ K3.log w26 hS (-1) (.inl (by decide)) : Calls Try.prog 16 #[.pointer (some ⟨b, 0, none⟩), .int .i64 (-1)] w26 _)
  have HF' := hide hF
  clear HS HAL HD hf hS hF HF
  go_wp2_with fail
  refine C.out.mono ?_
  clear C
  rintro e w26' ⟨rfl, rfl⟩
  have C := hide (works_any w26)
  go_wp2_with fail
  refine C.out.mono ?_
  clear C
  rintro e w27 ⟨rfl, hf⟩
  go_wp2
  go_ret
  exact ⟨rfl, HF'.out.trans hf⟩

end Go.Proofs.Ytiaddgagncmbeaa
