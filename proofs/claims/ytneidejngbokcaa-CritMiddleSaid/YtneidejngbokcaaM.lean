/- Words about memory: what a call may have changed, and rows of cells. No program in sight. -/
import Derived.WalkKit
import Derived.WalkSpells
import Derived.WalkLawsBesides
import Derived.Deep.QuietTactic
import Derived.BigQuiet
namespace Go.Proofs.Ytneidejngbokcaa
open Go.RowKit

theorem hide {p : Prop} (h : p) : Hid p := h

theorem ret_nat {k : IntKind} {a b : Nat} (h : a = b) : Ending.returned (.int k (a : Int)) = .returned (.int k (b : Int)) := by rw [h]
theorem ret_int {k : IntKind} {a b : Int} (h : a = b) : Ending.returned (.int k a) = .returned (.int k b) := by rw [h]
theorem ret_bool {a b : Bool} (h : a = b) : Ending.returned (.bool a) = .returned (.bool b) := by rw [h]

/-- From w to w' nothing has changed but, among the old blocks, those of M; new blocks may have come. -/
structure Fr (M : Nat → Prop) (w w' : World) : Prop where
  os : w'.os = w.os
  tape : w'.tape = w.tape
  output : w'.output = w.output
  size : w.heap.size ≤ w'.heap.size
  block : ∀ k, k < w.heap.size → ¬ M k → w'.heap[k]? = w.heap[k]?

namespace Fr
variable {M : Nat → Prop} {w w' w'' : World}

theorem refl (M : Nat → Prop) (w : World) : Fr M w w := ⟨rfl, rfl, rfl, Nat.le_refl _, fun _ _ _ => rfl⟩

theorem trans (h : Fr M w w') (h' : Fr M w' w'') : Fr M w w'' :=
  ⟨h'.os.trans h.os, h'.tape.trans h.tape, h'.output.trans h.output, Nat.le_trans h.size h'.size,
    fun k hk hm => (h'.block k (Nat.lt_of_lt_of_le hk h.size) hm).trans (h.block k hk hm)⟩

/-- What changes old blocks of M alone, M' covering it among the old blocks of w. -/
theorem mono {M' : Nat → Prop} (h : Fr M w w') (hm : ∀ k, k < w.heap.size → M k → M' k) : Fr M' w w' :=
  ⟨h.os, h.tape, h.output, h.size, fun k hk hn => h.block k hk (fun hk' => hn (hm k hk hk'))⟩

/-- Two steps; the second may change what is new since the first as it likes. -/
theorem trans' {M' : Nat → Prop} (h : Fr M w w') (h' : Fr M' w' w'') (hm : ∀ k, k < w.heap.size → M' k → M k) : Fr M w w'' :=
  ⟨h'.os.trans h.os, h'.tape.trans h.tape, h'.output.trans h.output, Nat.le_trans h.size h'.size,
    fun k hk hn => (h'.block k (Nat.lt_of_lt_of_le hk h.size) (fun hk' => hn (hm k hk hk'))).trans (h.block k hk hn)⟩

theorem drewN (h : Fr M w w') (n : Nat) : Fr M w (w'.drewN n) := ⟨h.os, h.tape, h.output, h.size, h.block⟩
theorem drew (h : Fr M w w') : Fr M w w'.drew := ⟨h.os, h.tape, h.output, h.size, h.block⟩

theorem alloc (h : Fr M w w') (o : Obj) : Fr M w (w'.alloc o) :=
  h.trans ⟨rfl, rfl, rfl, by simp, fun k hk _ => Below.heap_alloc w' o k hk⟩

theorem setCell (h : Fr M w w') (a : Addr) (v : Value) (ha : a.block < w.heap.size → M a.block) : Fr M w (w'.setCell a v) :=
  ⟨h.os, h.tape, h.output, by rw [World.size_setCell]; exact h.size,
    fun k hk hn => (heap_setCell_other w' a k v (fun e => hn (e ▸ ha (e ▸ hk)))).trans (h.block k hk hn)⟩

theorem grown (h : Fr M w w') {row : Option Nat} (hg : w'.grownBy w'' row) (hr : ∀ k, row = some k → k < w.heap.size → M k) : Fr M w w'' :=
  ⟨hg.os.trans h.os, hg.tape.trans h.tape, hg.output.trans h.output, Nat.le_trans h.size hg.size,
    fun k hk hn => (hg.block k (Nat.lt_of_lt_of_le hk h.size) (fun e => hn (hr k e.symm hk))).trans (h.block k hk hn)⟩

theorem cell (h : Fr M w w') {a : Addr} (hb : a.block < w.heap.size) (hn : ¬ M a.block) : w'.cell? a = w.cell? a :=
  World.cell?_of_block (h.block _ hb hn)

theorem below (h : Fr M w w') {B : Nat} (hB : B ≤ w.heap.size) (hm : ∀ k, k < B → ¬ M k) : Below B w w' :=
  ⟨h.os, h.tape, h.output, h.size, fun k hk => h.block k (Nat.lt_of_lt_of_le hk hB) (hm k hk)⟩

theorem ofBelow {B : Nat} (h : Below B w w') : Fr (fun k => B ≤ k) w w' :=
  ⟨h.os, h.tape, h.output, h.size, fun k _ hn => h.block k (by omega)⟩
end Fr

/-- Block g is a row of cap cells of type t, of which the first n hold f 0, f 1, .. -/
def RowV (w : World) (g : Nat) (t : TypeId) (cap n : Nat) (f : Nat → Value) : Prop :=
  ∃ cur : Array Value, w.heap[g]? = some (.cells cur t (0, 0)) ∧ n ≤ cap ∧ cap ≤ maxLen ∧ cur.size = cap ∧ ∀ i, i < n → cur[i]? = some (f i)

namespace RowV
variable {w w' : World} {g : Nat} {t : TypeId} {cap n : Nat} {f : Nat → Value}

theorem lt (h : RowV w g t cap n f) : g < w.heap.size := by
  obtain ⟨cur, h, _⟩ := h
  exact lt_of_block h

theorem cell (h : RowV w g t cap n f) (i : Nat) (hi : i < n) : w.cell? ⟨g, i, none⟩ = some (f i) := by
  obtain ⟨cur, h, _, _, _, hf⟩ := h
  rw [cell_of_row w g i cur t (0, 0) h, hf i hi]

theorem free (h : RowV w g t cap n f) (i : Nat) : w.frozen? ⟨g, i, none⟩ = false := by
  obtain ⟨cur, h, _⟩ := h
  exact frozen_of_row w g i cur t h

theorem of_block (h : RowV w g t cap n f) (hb : w'.heap[g]? = w.heap[g]?) : RowV w' g t cap n f := by
  obtain ⟨cur, h, r⟩ := h
  exact ⟨cur, hb.trans h, r⟩

theorem keep {M : Nat → Prop} (h : RowV w g t cap n f) (hf : Fr M w w') (hg : ¬ M g) : RowV w' g t cap n f :=
  h.of_block (hf.block g h.lt hg)

theorem drewN (h : RowV w g t cap n f) (k : Nat) : RowV (w.drewN k) g t cap n f := h

theorem set (h : RowV w g t cap n f) (i : Nat) (hi : i < n) (v : Value) : RowV (w.setCell ⟨g, i, none⟩ v) g t cap n (fun j => if j = i then v else f j) := by
  obtain ⟨cur, h, hn, hc, hs, hf⟩ := h
  refine ⟨_, heap_setCell_same w g i cur t v h, hn, hc, by simpa using hs, fun j hj => ?_⟩
  show (cur.setIfInBounds i v)[j]? = some (if j = i then v else f j)
  rw [Array.getElem?_setIfInBounds]
  by_cases e : j = i
  · subst e
    rw [if_pos rfl, if_pos (by omega), if_pos rfl]
  · rw [if_neg (fun h => e h.symm), if_neg e, hf j hj]

theorem setOther (h : RowV w g t cap n f) (a : Addr) (v : Value) (hne : g ≠ a.block) : RowV (w.setCell a v) g t cap n f :=
  h.of_block (heap_setCell_other w a g v hne)

theorem alloc (h : RowV w g t cap n f) (o : Obj) : RowV (w.alloc o) g t cap n f :=
  h.of_block (Below.heap_alloc w o g h.lt)

theorem congr {f' : Nat → Value} (h : RowV w g t cap n f) (he : ∀ i, i < n → f i = f' i) : RowV w g t cap n f' := by
  obtain ⟨cur, h, hn, hc, hs, hf⟩ := h
  exact ⟨cur, h, hn, hc, hs, fun i hi => by rw [hf i hi, he i hi]⟩

theorem take (h : RowV w g t cap n f) {m : Nat} (hm : m ≤ n) : RowV w g t cap m f := by
  obtain ⟨cur, h, hn, hc, hs, hf⟩ := h
  exact ⟨cur, h, by omega, hc, hs, fun i hi => hf i (by omega)⟩

/-- As the kit's laws on append say it. -/
theorem owns (h : RowV w g t cap n f) : w.ownsRow 0 t 1 (.slice (some ⟨g, 0, none⟩) n cap) n ((List.range n).map f) := by
  obtain ⟨cur, h, hn, hc, hs, hf⟩ := h
  refine ⟨by simp, .inr ⟨g, cap, cur, rfl, Nat.zero_le _, h, hn, hc, by simpa using hs, ?_⟩⟩
  apply List.ext_getElem?
  intro j
  by_cases hj : j < n
  · have := hf j hj
    simp only [Nat.mul_one, List.getElem?_take, hj, if_true, List.getElem?_map, List.getElem?_range hj, Option.map_some]
    simpa using this
  · simp [hj]; omega

theorem ofOwns {base : Nat} {xs : List Value} (h : w.ownsRow base t 1 (.slice (some ⟨g, 0, none⟩) n cap) n xs) (hf : ∀ i, i < n → xs[i]? = some (f i)) : RowV w g t cap n f := by
  rcases h.2 with ⟨h', _⟩ | ⟨g', cap', cur, h', _, hg, hnc, hcm, hcs, htake⟩
  · simp at h'
  · simp only [Value.slice.injEq, Option.some.injEq, Addr.mk.injEq, and_true, true_and] at h'
    obtain ⟨rfl, rfl⟩ := h'
    refine ⟨cur, hg, hnc, hcm, by simpa using hcs, fun i hi => ?_⟩
    have := hf i hi
    rw [← htake, List.getElem?_take, if_pos (by omega)] at this
    simpa using this
end RowV

/-- A row that has just been made. -/
theorem RowV.made (w : World) (t : TypeId) (c : Array Value) (n : Nat) (f : Nat → Value) (hs : c.size = n) (hn : n ≤ maxLen) (hf : ∀ i, i < n → c[i]? = some (f i)) :
    RowV (w.alloc (.cells c t)) w.heap.size t n n f :=
  ⟨c, heap_alloc_new w _, Nat.le_refl _, hn, hs, hf⟩

/-- The walk goes on in whatever world of which F holds. -/
theorem wp_world {P : Program} {c : Code} {Q : Exit → Act → World → Prop} {a : Act} {w : World} (F : World → Prop) (hF : F w) (h : ∀ w2, F w2 → Code.wp P c Q a w2) : Code.wp P c Q a w := h w hF

theorem exit_world {K : Act → World → Prop} {Q : Exit → Act → World → Prop} {e : Exit} {a : Act} {w : World} (F : World → Prop) (hF : F w) (h : ∀ w2, F w2 → Exit.then K Q e a w2) : Exit.then K Q e a w := h w hF

theorem Fr.to {M : Nat → Prop} {w w' w'' : World} (h : Fr M w w') (h1 : w''.heap = w'.heap) (h2 : w''.os = w'.os) (h3 : w''.tape = w'.tape) (h4 : w''.output = w'.output) : Fr M w w'' :=
  ⟨h2.trans h.os, h3.trans h.tape, h4.trans h.output, by rw [h1]; exact h.size, fun k hk hn => by rw [h1]; exact h.block k hk hn⟩

/-- The block of an address, if there is one. -/
def blk (ao : Option Addr) : Option Nat := ao.map (·.block)

theorem ownBlock_blk (ao : Option Addr) (n cap : Nat) : (Value.slice ao n cap).ownBlock = blk ao := by cases ao <;> rfl

/-- append, as a run: the new slice lies in the block of the old one, or in a new one. -/
theorem run_app {P : Program} (w : World) (t ty e : TypeId) (i : TypeInfo) (z : Value) (size bytes : Nat) (ht : P.underlying t = some (.slice e)) (hi : P.info? e = some i) (hz : i.zero = some z)
    (hsize : i.size = size) (hby : i.bytes = bytes) (hzs : z.cells.size = size) (hsz : 0 < size)
    (ao : Option Addr) (n cap : Nat) (xs : List Value) (hown : w.ownsRow 0 e size (.slice ao n cap) n xs)
    (a : Addr) (m c : Nat) (news : List Value) (hl : news.length = m * size) (hnews : ∀ j u, news[j]? = some u → w.cell? (a.add j) = some u) (h1 : ∀ u ∈ news, u.oneCell' = true)
    (h63 : n + m ≤ maxLen) (hbytes : (n + m) * bytes ≤ 140737488355328) :
    ∃ ao' cap' w', (Builtin.append_ #[t, t] ty #[.slice ao n cap, .slice (some a) m c]).run P w = .ok (.slice ao' (n + m) cap') w' ∧ w'.ownsRow 0 e size (.slice ao' (n + m) cap') (n + m) (xs ++ news) ∧
      Fr (fun k => blk ao = some k) w w' ∧ (∀ k, blk ao' = some k → blk ao = some k ∨ w.heap.size ≤ k) ∧ (ao' = none → ao = none ∧ m = 0) ∧ (∀ x, ao' = some x → x.off = 0 ∧ x.spot = none) := by
  have fresh : ∀ v' w', (Builtin.append_ #[t, t] ty #[.slice ao n cap, .slice (some a) m c]).run P w = .ok v' w' → w'.ownsRow w.heap.size e size v' (n + m) (xs ++ news) → w.grownBy w' none → (v' = .slice none 0 0 → ao = none ∧ m = 0) →
      ∃ ao' cap' w', (Builtin.append_ #[t, t] ty #[.slice ao n cap, .slice (some a) m c]).run P w = .ok (.slice ao' (n + m) cap') w' ∧ w'.ownsRow 0 e size (.slice ao' (n + m) cap') (n + m) (xs ++ news) ∧
      Fr (fun k => blk ao = some k) w w' ∧ (∀ k, blk ao' = some k → blk ao = some k ∨ w.heap.size ≤ k) ∧ (ao' = none → ao = none ∧ m = 0) ∧ (∀ x, ao' = some x → x.off = 0 ∧ x.spot = none) := by
    intro v' w' hr ho hg hnil
    rcases ho.2 with ⟨rfl, hn⟩ | ⟨g, cap', cur, rfl, hb, hgg, r⟩
    · refine ⟨none, 0, w', by rw [hn]; exact hr, ⟨ho.1, .inl ⟨by rw [hn], hn⟩⟩, (Fr.refl _ w).grown hg (fun k hk => by cases hk), fun k hk => by simp [blk] at hk, fun _ => hnil rfl, fun x hx => by cases hx⟩
    · exact ⟨some ⟨g, 0, none⟩, cap', w', hr, ⟨ho.1, .inr ⟨g, cap', cur, rfl, Nat.zero_le _, hgg, r⟩⟩, (Fr.refl _ w).grown hg (fun k hk => by cases hk), fun k hk => by simp [blk] at hk; subst hk; exact .inr hb,
        fun h => by simp at h, fun x hx => by simp at hx; subst hx; exact ⟨rfl, rfl⟩⟩
  rcases hown.2 with ⟨hv, hn⟩ | ⟨g, cap', cur, hv, hb, hg, hnc, hcm, hcs, htake⟩
  · simp only [Value.slice.injEq] at hv
    obtain ⟨rfl, rfl, rfl⟩ := hv
    obtain rfl : xs = [] := List.eq_nil_of_length_eq_zero (by simpa using hown.1)
    obtain ⟨v', w', hr, ho, hgr, hnil⟩ := run_append_own (P := P) w w.heap.size t ty e i z size bytes ht hi hz hsize hby hzs hsz (.slice none 0 0) 0 [] (World.ownsRow_nil w _ e size) a m c news hl hnews h1 h63 hbytes (Nat.le_refl _)
    exact fresh v' w' hr ho hgr (fun h => ⟨rfl, (hnil.1 h).2⟩)
  · simp only [Value.slice.injEq] at hv
    obtain ⟨rfl, _, rfl⟩ := hv
    by_cases hroom : n + m ≤ cap
    · obtain ⟨w', hr, ho, hgr⟩ := run_append_fits (P := P) w 0 t ty e i size ht hi hsize g n cap xs hown a m c news hl hnews h1 hroom
      exact ⟨_, _, w', hr, ho, (Fr.refl _ w).grown hgr (fun k hk _ => by cases hk; rfl), fun k hk => .inl hk, fun h => by simp at h, fun x hx => by simp at hx; subst hx; exact ⟨rfl, rfl⟩⟩
    · obtain ⟨v', w', hr, ho, hgr⟩ := run_append_arg_grows (P := P) w t ty e i z size bytes ht hi hz hsize hby hzs hsz ⟨g, 0, none⟩ n cap xs hown.1 (hown.cells (g := g) rfl) a m c news hl hnews (by omega) h63 hbytes
      refine fresh v' w' hr ho hgr (fun h => ?_)
      subst h
      rcases ho.2 with ⟨_, hn'⟩ | ⟨_, _, _, h', _⟩
      · omega
      · simp at h'

/-- append of one element of one cell, as the walk meets it: the element lies in a block that has just been made. -/
theorem wpList_app1 {P : Program} (w : World) {ops : Array Oper} {rest : List Oper} {o : Oper} {a : Act} {Q : Exit → Act → World → Prop} (hgd : o.guard = none) (s x : Operand) (t : TypeId)
    (ho : o.op = .call { callee := .builtin .append, args := #[s, x], argTypes := #[t, t] })
    (e : TypeId) (z : Value) (bytes : Nat) (ht : P.underlying t = some (.slice e)) (hinf : (P.info? e).map (fun i => (i.zero, i.size, i.bytes)) = some (some z, 1, bytes)) (hzs : z.cells.size = 1)
    (ao : Option Addr) (n cap : Nat) (xs : List Value) (hs : a.eval s = .slice ao n cap) (hown : w.ownsRow 0 e 1 (.slice ao n cap) n xs)
    (c : Nat) (u : Value) (hx : a.eval x = .slice (some ⟨w.heap.size, 0, none⟩) 1 c) (h1 : u.oneCell' = true)
    (h63 : n + 1 ≤ maxLen) (hbytes : (n + 1) * bytes ≤ 140737488355328)
    (h : ∀ g' cap' w', w'.ownsRow 0 e 1 (.slice (some ⟨g', 0, none⟩) (n + 1) cap') (n + 1) (xs ++ [u]) → Fr (fun k => blk ao = some k) w w' → (blk ao = some g' ∨ w.heap.size < g') →
      wpList P ops Q rest (a.put o.dst (.slice (some ⟨g', 0, none⟩) (n + 1) cap')) w') : wpList P ops Q (o :: rest) a (w.alloc (.cells #[u] e)) := by
  refine wpList_plain hgd fun K hK => ?_
  obtain ⟨i, hi, hz, hsize, hby⟩ := info_parts hinf
  obtain ⟨ao', cap', w', hr, how, hf, hb, hnil, hoff⟩ := run_app (P := P) (w.alloc (.cells #[u] e)) t o.type e i z 1 bytes ht hi hz hsize hby hzs (by decide) ao n cap xs (hown.alloc _) ⟨w.heap.size, 0, none⟩ 1 c [u] rfl
    (by intro j v hj; match j, hj with | 0, hj => simp at hj; subst hj; simp [Addr.add]) (by simpa using h1) h63 hbytes
  cases ao' with
  | none => have := (hnil rfl).2; omega
  | some x' =>
    obtain ⟨g', off, spot⟩ := x'
    obtain ⟨rfl, rfl⟩ := hoff _ rfl
    unfold Oper.wp execOp
    simp only [ho, resolve, invoke, builtin, Sem.run_bind, Sem.run_pure, Result.andThen_ok, List.map_toArray, List.map_cons, List.map_nil, hs, hx, hr]
    refine hK _ _ (h g' cap' w' how (((Fr.refl _ w).alloc _).trans hf) ?_)
    rcases hb g' rfl with h' | h'
    · exact .inl h'
    · right
      have := h'
      simp at this
      omega

end Go.Proofs.Ytneidejngbokcaa
