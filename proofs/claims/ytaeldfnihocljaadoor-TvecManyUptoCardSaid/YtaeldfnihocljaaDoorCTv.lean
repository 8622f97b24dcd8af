/- A transient vector in memory; what changes when one is changed. -/
import Derived.Test.YtaeldfnihocljaaDoorCOwnB
import Derived.Test.YtaeldfnihocljaaDoorCRefV

set_option linter.unusedVariables false
namespace Go.Proofs.YtaeldfnihocljaaDoor
open Go.RowKit

/-- Of the old blocks none but those of M has changed. -/
structure But (M : Nat → Prop) (w w' : World) : Prop where
  os : w'.os = w.os
  tape : w'.tape = w.tape
  output : w'.output = w.output
  size : w.heap.size ≤ w'.heap.size
  block : ∀ b, b < w.heap.size → ¬ M b → w'.heap[b]? = w.heap[b]?
theorem But.of {M : Nat → Prop} {w w' : World} (h : Below w.heap.size w w') : But M w w' := ⟨h.os, h.tape, h.output, h.size, fun b hb _ => h.block b hb⟩
theorem But.trans {M : Nat → Prop} {w w1 w2 : World} (h : But M w w1) (k : But M w1 w2) : But M w w2 := ⟨k.os.trans h.os, k.tape.trans h.tape, k.output.trans h.output, Nat.le_trans h.size k.size, fun b hb hm => (k.block b (Nat.lt_of_lt_of_le hb h.size) hm).trans (h.block b hb hm)⟩
theorem But.mono {M M' : Nat → Prop} {w w' : World} (h : But M w w') (hm : ∀ b, b < w.heap.size → M b → M' b) : But M' w w' := ⟨h.os, h.tape, h.output, h.size, fun b hb hn => h.block b hb fun e => hn (hm b hb e)⟩
theorem But.keeps {M : Nat → Prop} {S : Nat → Prop} {w w' : World} (h : But M w w') (hs : ∀ b, S b → ¬ M b) : Keeps w S w' S := fun b hb h1 => ⟨h1, h.block b hb (hs b h1)⟩
theorem But.below {M : Nat → Prop} {w w' : World} {n : Nat} (h : But M w w') (hn : n ≤ w.heap.size) (hm : ∀ b, M b → n ≤ b) : Below n w w' := ⟨h.os, h.tape, h.output, h.size, fun b hb => h.block b (Nat.lt_of_lt_of_le hb hn) fun e => by have := hm b e; omega⟩
theorem But.set {M : Nat → Prop} {w w' : World} (h : But M w w') {p : Addr} (hp : w.heap.size ≤ p.block ∨ M p.block) (u : Value) : But M w (w'.setCell p u) :=
  ⟨h.os, h.tape, h.output, by simp; exact h.size, fun b hb hm => by
    rw [Below.heap_setCell _ _ _ _ (fun e => by rcases hp with hp | hp; omega; exact hm (e ▸ hp))]
    exact h.block b hb hm⟩

/-- A transient: is it open; its vector's items, height, block; what waits; its block; the array of what waits. -/
structure Tr where
  op : Bool
  m : List V
  h : Nat
  b : Nat
  wt : List V
  t : Nat
  vw : Value
/-- The blocks that a transient changes. -/
def Tr.own (x : Tr) (b : Nat) : Prop := b = x.t ∨ x.vw.ownBlock = some b
/-- All its items. -/
def Tr.all (x : Tr) : List V := x.m ++ x.wt
/-- A transient in memory: what it leads to lies neither in its own blocks nor in those of R, which belong to others. k: how many may wait. -/
structure IsTr (w : World) (R : Nat → Prop) (k : Nat) (x : Tr) : Prop where
  blk : w.heap[x.t]? = some (.cells #[.bool x.op, .pointer (some ⟨x.b, 0, none⟩), x.vw] 105 (0, 0))
  vec : IsR w (fun b => ¬ x.own b ∧ ¬ R b) x.m x.h x.b
  wait : OwnL w 0 (fun b => ¬ x.own b ∧ ¬ R b) x.wt x.vw
  len : x.wt.length ≤ k
  small : x.all.length ≤ 65536
  right : ∀ y, y ∈ x.wt → rightB y = true
  apart : x.vw.ownBlock ≠ some x.t
  free : ∀ b, x.own b → ¬ R b
  high : ∀ b, x.own b → 2 ≤ b
theorem IsTr.cells {w : World} {R : Nat → Prop} {k : Nat} {x : Tr} (h : IsTr w R k x) : w.cell? ⟨x.t, 0, none⟩ = some (.bool x.op) ∧ w.cell? ⟨x.t, 1, none⟩ = some (.pointer (some ⟨x.b, 0, none⟩)) ∧ w.cell? ⟨x.t, 2, none⟩ = some x.vw ∧ x.t < w.heap.size ∧ ∀ n, w.frozen? ⟨x.t, n, none⟩ = false := by
  have hb := h.blk
  refine ⟨by simp [World.cell?, hb], by simp [World.cell?, hb], by simp [World.cell?, hb], (Array.getElem?_eq_some_iff.1 hb).1, free4 hb⟩
theorem IsTr.own_lt {w : World} {R : Nat → Prop} {k : Nat} {x : Tr} (h : IsTr w R k x) {b : Nat} (hb : x.own b) : b < w.heap.size := by
  rcases hb with rfl | hb
  · exact (Array.getElem?_eq_some_iff.1 h.blk).1
  · exact (h.wait.own_lt b hb).2
theorem IsTr.form {w : World} {R : Nat → Prop} {k : Nat} {x : Tr} (h : IsTr w R k x) : ∃ A cap, x.vw = .slice A x.wt.length cap ∧ x.wt.length ≤ cap := h.wait.form
/-- What others change leaves it as it is. -/
theorem IsTr.keep {w w' : World} {R R' : Nat → Prop} {k : Nat} {x : Tr} (h : IsTr w R k x) {M : Nat → Prop} (hb : But M w w') (hm : ∀ b, b < w.heap.size → M b → R b) (hr : ∀ b, b < w.heap.size → R' b → R b) : IsTr w' R' k x := by
  have ho : ∀ b, x.own b → w'.heap[b]? = w.heap[b]? := fun b h1 => hb.block b (h.own_lt h1) fun h2 => h.free b h1 (hm b (h.own_lt h1) h2)
  have hK : Keeps w (fun b => ¬ x.own b ∧ ¬ R b) w' (fun b => ¬ x.own b ∧ ¬ R' b) := fun b hlt hs => ⟨⟨hs.1, fun h1 => hs.2 (hr b hlt h1)⟩, hb.block b hlt fun h2 => hs.2 (hm b hlt h2)⟩
  refine ⟨(ho _ (.inl rfl)).trans h.blk, h.vec.keep hK, h.wait.keep hK (fun b h1 => ho b (.inr h1)), h.len, h.small, h.right, h.apart, fun b h1 h2 => h.free b h1 (hr b (h.own_lt h1) h2), h.high⟩
theorem IsTr.below {w w' : World} {R : Nat → Prop} {k : Nat} {x : Tr} (h : IsTr w R k x) (hb : Below w.heap.size w w') : IsTr w' R k x := h.keep (M := fun _ => False) (But.of hb) (fun _ _ h => h.elim) (fun _ _ h => h)
theorem IsTr.mono {w : World} {R : Nat → Prop} {k k' : Nat} {x : Tr} (h : IsTr w R k x) (hk : k ≤ k') : IsTr w R k' x := { h with len := Nat.le_trans h.len hk }
/-- A new transient. -/
theorem IsTr.fresh {w : World} {R : Nat → Prop} {l : List V} {h b : Nat} (hr : IsR w (fun b => ¬ R b) l h b) (hR : ∀ b, R b → b < w.heap.size) (h2w : 2 ≤ w.heap.size) :
    IsTr (w.alloc (.cells #[.bool true, .pointer (some ⟨b, 0, none⟩), .slice none 0 0] 105)) R 0 ⟨true, l, h, b, [], w.heap.size, .slice none 0 0⟩ := by
  have hB := (Below.refl w.heap.size w).alloc (Nat.le_refl _) (.cells #[.bool true, .pointer (some ⟨b, 0, none⟩), .slice none 0 0] 105)
  have hown : ∀ c, Tr.own ⟨true, l, h, b, [], w.heap.size, .slice none 0 0⟩ c → c = w.heap.size := by
    intro c hc
    rcases hc with hc | hc
    · exact hc
    · have h' : (Value.slice none 0 0).ownBlock = some c := hc
      simp [Value.ownBlock] at h'
  refine ⟨heap_alloc_new w _, hr.keep (Keeps.below_to hB fun c h1 h2 => ⟨fun h3 => by have := hown c h3; omega, h2⟩), OwnL.nil _ _ _, by simp, by simp [Tr.all]; exact hr.2.2.1, by simp, by simp [Value.ownBlock], fun c h1 h2 => ?_, fun c h1 => by have := hown c h1; omega⟩
  have h3 := hR c h2
  have h4 := hown c h1
  omega
theorem tabs_high {w w' : World} (h : Lib.Utf8Tabs 0 1 w) (hb : ∀ b, b < 2 → w'.heap[b]? = w.heap[b]?) : Lib.Utf8Tabs 0 1 w' :=
  ⟨fun c hc => (World.cell?_of_block (w := w) (hb 0 (by omega))).trans (h.1 c hc), fun i hi => ⟨(World.cell?_of_block (w := w) (hb 1 (by omega))).trans (h.2 i hi).1, (World.cell?_of_block (w := w) (hb 1 (by omega))).trans (h.2 i hi).2⟩⟩
theorem tabs_size {w : World} (h : Lib.Utf8Tabs 0 1 w) : 2 ≤ w.heap.size := World.block_lt_of_cell? w _ ((h.2 0 (by omega)).1)
theorem tabs_but {M : Nat → Prop} {w w' : World} (h : Lib.Utf8Tabs 0 1 w) (hb : But M w w') (hm : ∀ b, M b → 2 ≤ b) : Lib.Utf8Tabs 0 1 w' :=
  tabs_high h fun b hlt => hb.block b (by have := tabs_size h; omega) fun e => by have := hm b e; omega
/-- An item of a slice of the call's own: its cells. -/
theorem CsL.item {w : World} {S : Nat → Prop} : ∀ {l : List V} {xs : List Value} (i : Nat), CsL w S l xs → i < l.length → ∃ p a b c d r, xs = p ++ a :: b :: c :: d :: r ∧ p.length = i * 4 ∧ VC w S (itemAt l i) [a, b, c, d]
  | [], _, i, _, h => by simp at h
  | x :: l, xs, 0, ⟨y, z, e, h1, h2⟩, _ => by
    obtain ⟨A, cap, hy⟩ := h1.cells
    subst hy
    exact ⟨[], _, _, _, _, z, by rw [e]; rfl, rfl, h1⟩
  | x :: l, xs, i + 1, ⟨y, z, e, h1, h2⟩, h => by
    obtain ⟨p, a, b, c, d, r, he, hp, h3⟩ := CsL.item i h2 (by simpa using h)
    exact ⟨y ++ p, a, b, c, d, r, by rw [e, he, List.append_assoc], by rw [List.length_append, h1.length, hp]; omega, h3⟩
theorem OwnL.item {w : World} {base : Nat} {S : Nat → Prop} {l : List V} {v : Value} (h : OwnL w base S l v) {i : Nat} (hi : i < l.length) :
    ∃ g cap A' c', v = .slice (some ⟨g, 0, none⟩) l.length cap ∧ l.length ≤ cap ∧ base ≤ g ∧ g < w.heap.size ∧ w.cell? ⟨g, i * 4, none⟩ = some (.int .i64 (itemAt l i).kind) ∧ w.cell? ⟨g, i * 4 + 1, none⟩ = some (.int .i64 (itemAt l i).num) ∧ w.cell? ⟨g, i * 4 + 2, none⟩ = some (.string (itemAt l i).text) ∧ w.cell? ⟨g, i * 4 + 3, none⟩ = some (.slice A' (itemAt l i).items.length c') ∧
      IsV w (fun b => S b ∧ some b ≠ v.ownBlock) (itemAt l i) (.agg #[.int .i64 (itemAt l i).kind, .int .i64 (itemAt l i).num, .string (itemAt l i).text, .slice A' (itemAt l i).items.length c']) := by
  obtain ⟨xs, ⟨h1, h2⟩, h3⟩ := h
  rcases h2 with ⟨rfl, h2⟩ | ⟨g, cap, cur, rfl, hg, hh, hc, hm, hs, ht⟩
  · omega
  · obtain ⟨p, a, b, c, d, r, he, hp, hv⟩ := CsL.item i h3 hi
    obtain ⟨A', c', e⟩ := hv.cells
    simp only [List.cons.injEq, and_true] at e
    obtain ⟨rfl, rfl, rfl, rfl⟩ := e
    obtain ⟨q, hq⟩ : ∃ q, cur = (p ++ Value.int .i64 (itemAt l i).kind :: Value.int .i64 (itemAt l i).num :: Value.string (itemAt l i).text :: Value.slice A' (itemAt l i).items.length c' :: (r ++ q)).toArray := by
      refine ⟨cur.toList.drop (l.length * 4), ?_⟩
      have h := List.take_append_drop (l.length * 4) cur.toList
      rw [ht, he] at h
      apply Array.toList_inj.1
      refine h.symm.trans ?_
      simp
    subst hq
    obtain ⟨g0, g1, g2, g3⟩ := cells4 hh hp
    exact ⟨g, cap, A', c', rfl, hc, hg, (Array.getElem?_eq_some_iff.1 hh).1, g0, g1, g2, g3, _, hv, rfl⟩
theorem CsL.cut {w : World} {S : Nat → Prop} : ∀ {l : List V} {xs : List Value} (n : Nat), CsL w S l xs → CsL w S (l.take n) (xs.take (n * 4))
  | [], _, n, h => by cases h; simp [CsL]
  | x :: l, xs, 0, _ => by simp [CsL]
  | x :: l, xs, n + 1, ⟨y, z, e, h1, h2⟩ => by
    subst e
    rw [List.take_succ_cons]
    refine ⟨y, z.take (n * 4), ?_, h1, CsL.cut n h2⟩
    rw [List.take_append, h1.length, List.take_of_length_le (by rw [h1.length]; omega)]
    congr 2
    omega
/-- The first so many of a slice of the call's own; its array stays. -/
theorem OwnL.cut {w : World} {base : Nat} {S : Nat → Prop} {l : List V} {A : Option Addr} {c : Nat} (h : OwnL w base S l (.slice A l.length c)) (n : Nat) (hn : n ≤ l.length) : OwnL w base S (l.take n) (.slice A n c) := by
  obtain ⟨xs, ⟨h1, h2⟩, h3⟩ := h
  have hlt : (l.take n).length = n := by rw [List.length_take]; omega
  rcases h2 with ⟨e, h2⟩ | ⟨g, cap, cur, e, hg, hh, hc, hm, hs, ht⟩
  · simp only [Value.slice.injEq] at e
    obtain ⟨rfl, _, rfl⟩ := e
    obtain rfl : n = 0 := by omega
    exact ⟨[], ⟨by simp, .inl ⟨rfl, by simp⟩⟩, by simp [CsL]⟩
  · simp only [Value.slice.injEq, true_and] at e
    obtain ⟨rfl, rfl⟩ := e
    refine ⟨xs.take (n * 4), ⟨by rw [hlt, List.length_take, h1]; omega, .inr ⟨g, c, cur, by rw [hlt], hg, hh, by rw [hlt]; omega, hm, hs, ?_⟩⟩, (h3.cut n).keep fun b _ hs => ⟨hs, rfl⟩⟩
    rw [hlt, ← ht, List.take_take, Nat.min_eq_left (by omega)]
end Go.Proofs.YtaeldfnihocljaaDoor
