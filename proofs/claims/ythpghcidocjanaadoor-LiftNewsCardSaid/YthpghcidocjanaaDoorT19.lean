/- A table that was made since w, and its parents' list: the contracts of all questions; walk: works. -/
import Derived.Test.YthpghcidocjanaaDoorT18
namespace Go.Proofs.YthpghcidocjanaaDoor
open Go.RowKit

structure On (w : World) (b n : Nat) (po : Option Addr) (p : Nat → Int) (W : World) : Prop where
  fr : Same' w W
  full : FullN w.heap.size W b n p
  tz : TzTab W
  key : KeyAt W po n p

theorem FullN.forest {B : Nat} {w : World} {b n : Nat} {p : Nat → Int} (h : FullN B w b n p) : Forest n p := h.1
theorem FullN.le {B : Nat} {w : World} {b n : Nat} {p : Nat → Int} (h : FullN B w b n p) : n ≤ 8192 := h.2.1

namespace On
variable {w W : World} {b n : Nat} {po : Option Addr} {p : Nat → Int}

theorem step (h : On w b n po p W) {W' : World} (hf : Same' W W') : On w b n po p W' :=
  ⟨h.fr.trans hf, h.full.keep hf (fun _ _ => id), h.tz.keep hf id, h.key.keep hf⟩

theorem F (h : On w b n po p W) : Forest n p := h.full.forest

theorem up (h : On w b n po p W) (v k : Int) : Calls Tryd.prog 16 #[.pointer (some ⟨b, 0, none⟩), .int .i64 v, .int .i64 k] W fun e w' => e = ret2 (upR n p v k) ∧ On w b n po p w' :=
  (h.full.full.up h.tz v k).mono fun _ _ ⟨he, hf⟩ => ⟨he, h.step hf⟩

theorem root (h : On w b n po p W) (v : Int) : Calls Tryd.prog 15 #[.pointer (some ⟨b, 0, none⟩), .int .i64 v] W fun e w' => e = ret2 (rootR n p v) ∧ On w b n po p w' :=
  (h.full.full.root h.tz v).mono fun _ _ ⟨he, hf⟩ => ⟨he, h.step hf⟩

theorem common (h : On w b n po p W) (x y : Int) : Calls Tryd.prog 17 #[.pointer (some ⟨b, 0, none⟩), .int .i64 x, .int .i64 y] W fun e w' => e = ret2 (cmnR n p x y) ∧ On w b n po p w' :=
  (h.full.full.common h.tz x y).mono fun _ _ ⟨he, hf⟩ => ⟨he, h.step hf⟩

theorem dist (h : On w b n po p W) (x y : Int) : Calls Tryd.prog 18 #[.pointer (some ⟨b, 0, none⟩), .int .i64 x, .int .i64 y] W fun e w' => e = ret2 (dstR n p x y) ∧ On w b n po p w' :=
  (h.full.full.dist h.tz x y).mono fun _ _ ⟨he, hf⟩ => ⟨he, h.step hf⟩

theorem above (h : On w b n po p W) (x y : Int) : Calls Tryd.prog 25 #[.pointer (some ⟨b, 0, none⟩), .int .i64 x, .int .i64 y] W fun e w' => e = .returned (.bool (abvR n p x y)) ∧ On w b n po p w' :=
  (h.full.full.above h.tz x y).mono fun _ _ ⟨he, hf⟩ => ⟨he, h.step hf⟩

theorem depth (h : On w b n po p W) (v : Int) : Calls Tryd.prog 13 #[.pointer (some ⟨b, 0, none⟩), .int .i64 v] W fun e w' => e = .returned (.int .i64 (depR n p v)) ∧ W = w' := h.full.full.dpt v

theorem len (h : On w b n po p W) : Calls Tryd.prog 24 #[.pointer (some ⟨b, 0, none⟩)] W fun e w' => e = .returned (.int .i64 (n : Nat)) ∧ W = w' := by
  obtain ⟨_, _, g, gd, hT, _⟩ := h.full
  exact hT.len

theorem climb (h : On w b n po p W) {v : Nat} (hv : v < n) (mx : Int) (ko : Option Addr) (kc : Nat) (key : Nat → Int) (hK : KeyAt W ko n key) :
    Calls Tryd.prog 23 #[.pointer (some ⟨b, 0, none⟩), .int .i64 v, .slice ko n kc, .int .i64 mx] W fun e w' => e = retIE (clb p key mx n v : Nat) 0 ∧ On w b n po p w' :=
  (h.full.full.climb_in hv mx ko kc key hK).mono fun _ _ ⟨he, hf⟩ => ⟨he, h.step hf⟩
end On

/-- New of a forest's parents. -/
theorem New_ok {w : World} {ao : Option Addr} {n : Nat} (c : Nat) {p : Nat → Int} (hK : KeyAt w ao n p) (hn : n ≤ 8192) (hF : Forest n p) (ht : TzTab w) :
    Calls Tryd.prog 19 #[.slice ao n c] w fun e w' => ∃ b, e = retPE (some ⟨b, 0, none⟩) 0 ∧ On w b n ao p w' :=
  (New_run c hK hn hF.par).mono fun e w' h => by
    rcases h with ⟨_, b, he, hF', hf⟩ | ⟨⟨v, hv, hg⟩, _⟩
    · exact ⟨b, he, hf, hF', ht.keep hf id, hK.keep hf⟩
    · rw [hF.good hv] at hg; cases hg

theorem New_loop {w : World} {ao : Option Addr} {n : Nat} (c : Nat) {p : Nat → Int} (hK : KeyAt w ao n p) (hn : n ≤ 8192) (hp : Par n p) (hF : ¬ Forest n p) :
    Calls Tryd.prog 19 #[.slice ao n c] w fun e w' => e = retPE none 9 ∧ Same' w w' :=
  (New_run c hK hn hp).mono fun e w' h => by
    rcases h with ⟨hg, _⟩ | ⟨_, he, hf⟩
    · exact absurd (forest_of_good hp hg) hF
    · exact ⟨he, hf⟩

/-- The example. -/
def pw (i : Nat) : Int := ([-1, 0, 0, 1, 1, 4, -1] : List Int).getD i 0
def kw (i : Nat) : Int := ([9, 4, 0, 0, 3, 8, 0] : List Int).getD i 0

theorem pw_forest : Forest 7 pw := by
  have h : ∀ v, v < 7 → -1 ≤ pw v ∧ pw v < 7 ∧ (0 ≤ pw v → (pw v).toNat < v) := by decide
  exact Forest.ofRise (f := fun v => v) (fun v hv => ⟨(h v hv).1, (h v hv).2.1⟩) (fun v hv => hv) (fun v hv h0 => (h v hv).2.2 h0)

theorem k52 : ret2 (upR 7 pw 5 2) = retIB 1 true := by rw [show upR 7 pw 5 2 = some 1 by decide +kernel]; rfl
theorem k54 : ret2 (upR 7 pw 5 4) = retIB 0 false := by rw [show upR 7 pw 5 4 = none by decide +kernel]; rfl
theorem c35 : ret2 (cmnR 7 pw 3 5) = retIB 1 true := by rw [show cmnR 7 pw 3 5 = some 1 by decide +kernel]; rfl
theorem c56 : ret2 (cmnR 7 pw 5 6) = retIB 0 false := by rw [show cmnR 7 pw 5 6 = none by decide +kernel]; rfl
theorem d35 : ret2 (dstR 7 pw 3 5) = retIB 3 true := by rw [show dstR 7 pw 3 5 = some 3 by decide +kernel]; rfl
theorem l5 : clb pw kw 4 7 5 = 1 := by decide +kernel

theorem key_lit {w : World} {g : Nat} {t : TypeId} {l : List Int} (hl : l.length ≤ maxLen) (h : w.heap[g]? = some (.cells (l.map (Value.int .i64)).toArray t (0, 0))) : KeyAt w (some ⟨g, 0, none⟩) l.length (fun i => l.getD i 0) := by
  refine KeyAt.ofRow (cap := l.length) (t := t) ⟨_, h, Nat.le_refl _, hl, by simp, fun i hi => ?_⟩
  simp [i64V, hi]

set_option maxHeartbeats 2000000 in
set_option maxRecDepth 100000 in
theorem works_at {w : World} (ht : TzTab w) : Calls Tryd.prog 14 #[] w fun e w' => e = .returned (.bool true) ∧ Same' w w' := by
  have HT := hide ht
  clear ht
  go_enter Tryd.func14, Tryd.ntmps14
  go_wp2_with fail
  have hK : KeyAt (w.alloc (Obj.cells #[Value.int IntKind.i64 (-1), Value.int IntKind.i64 0, Value.int IntKind.i64 0, Value.int IntKind.i64 1, Value.int IntKind.i64 1, Value.int IntKind.i64 4, Value.int IntKind.i64 (-1)] 3)) (some ⟨w.heap.size, 0, none⟩) 7 pw :=
    key_lit (l := [-1, 0, 0, 1, 1, 4, -1]) (by unfold maxLen; decide) (heap_alloc_new w _)
  refine (New_ok 7 hK (by omega) pw_forest (HT.out.keep ((Fr.refl (fun _ => False) w).alloc _) id)).mono ?_
  clear hK
  rintro e w1 ⟨b, rfl, hO⟩
  have hf0 : Same' w w1 := ((Fr.refl _ w).alloc _).trans hO.fr
  have HF := hide hf0
  have HB : Hid (∃ B po, On B b 7 po pw w1 ∧ Same' w B) := ⟨_, _, hO, (Fr.refl _ w).alloc _⟩
  clear hO hf0 HF
  obtain ⟨B, po, hO, hB⟩ := HB.out
  have HB2 := hide hB
  clear hB HB
  go_wp2_with (first
    | (go_at_call 16; refine (hO.up _ _).mono ?_; clear hO; rintro e w2 ⟨he, hO⟩; (first | rw [k52] at he | rw [k54] at he); subst he)
    | (go_at_call 17; refine (hO.common _ _).mono ?_; clear hO; rintro e w2 ⟨he, hO⟩; (first | rw [c35] at he | rw [c56] at he); subst he)
    | (go_at_call 18; refine (hO.dist _ _).mono ?_; clear hO; rintro e w2 ⟨he, hO⟩; rw [d35] at he; subst he)
    | (go_at_call 23; refine ((hO.step ((Fr.refl _ _).alloc _)).climb (v := 5) (by omega) _ _ _ kw (key_lit (l := [9, 4, 0, 0, 3, 8, 0]) (by unfold maxLen; decide) (heap_alloc_new _ _))).mono ?_; clear hO; rintro e w2 ⟨he, hO⟩; rw [l5] at he; subst he))
  go_ret
  exact ⟨rfl, HB2.out.trans hO.fr⟩

end Go.Proofs.YthpghcidocjanaaDoor
