/- What the proofs of this seat have in common: values as trees, and how they lie in memory. No program in sight. What the value layer computes, as plain functions on trees: order, right values. Arrays of the call's own: cells that stand for values, stores into them. Vectors as trees, and how they lie in memory. Copies of values in memory of their own. append to a slice of values of the call's own. append to slices of numbers, of nodes, of a leaf's values. Dense trees, and vectors in memory. A node of a slice of the call's own. append that grows, as a step of a region that draws its order. Steps as data, and how a slice of them lies in memory. -/
import Derived.WalkKit
import Derived.WalkSpells
import Derived.WalkLawsBesides
import Derived.Laws.AppendOwn
import Derived.Lib.Hide
import Derived.Lib.Bytealg
import Derived.Laws.MakeOwn
import Derived.Test.YtaeldfnihocljaaDoorProg
import Derived.Deep.QuietTactic
import Derived.BigQuiet
import Derived.StillTailTactics
import Derived.Maps.AppendAt
import Derived.Deep.AppendLies
import Derived.ArgAppend
import Derived.Deep.RegionLawGrows
/- What the proofs of this seat have in common: values as trees, and how they lie in memory. No program in sight. -/
set_option linter.unusedVariables false
namespace Go.Proofs.YtaeldfnihocljaaDoor
open Go.RowKit

theorem ret_i {a b : Int} (h : a = b) : Ending.returned (.int .i64 a) = .returned (.int .i64 b) := by rw [h]
theorem ret_b {a b : Bool} (h : a = b) : Ending.returned (.bool a) = .returned (.bool b) := by rw [h]

/-- A value: its kind, number, text, items. -/
inductive V where
  | mk (k n : Int) (t : ByteArray) (l : List V)
namespace V
def kind : V → Int | .mk k _ _ _ => k
def num : V → Int | .mk _ n _ _ => n
def text : V → ByteArray | .mk _ _ t _ => t
def items : V → List V | .mk _ _ _ l => l
theorem eta : ∀ x : V, V.mk x.kind x.num x.text x.items = x | .mk _ _ _ _ => rfl
/-- The zero value. -/
def zero : V := .mk 0 0 ⟨#[]⟩ []
end V
instance : Inhabited V := ⟨V.zero⟩

mutual
def V.size : V → Nat
  | .mk _ _ _ l => 1 + V.sizes l
def V.sizes : List V → Nat
  | [] => 0
  | x :: xs => V.size x + V.sizes xs
end
theorem V.sizes_mem {x : V} : ∀ {l : List V}, x ∈ l → V.size x ≤ V.sizes l
  | y :: l, h => by
    rcases List.mem_cons.1 h with rfl | h
    · simp only [V.sizes]; omega
    · have := V.sizes_mem h; simp only [V.sizes]; omega
theorem V.size_items {x y : V} (h : y ∈ x.items) : V.size y < V.size x := by
  cases x with
  | mk k n t l => have := V.sizes_mem h; simp only [V.size]; simp only [V.items] at this; omega
theorem V.size_pos (x : V) : 0 < V.size x := by cases x; simp only [V.size]; omega

/-- Induction: what holds of a value if it holds of its items. -/
theorem V.induct {p : V → Prop} (h : ∀ x : V, (∀ y, y ∈ x.items → p y) → p x) (x : V) : p x := by
  have key : ∀ n (x : V), V.size x < n → p x := by
    intro n
    induction n with
    | zero => intro x hx; omega
    | succ n ih => intro x hx; exact h x fun y hy => ih y (by have := V.size_items hy; omega)
  exact key _ x (Nat.lt_succ_self _)

/-- Bounds that every value in memory has. -/
structure V.Bd (x : V) : Prop where
  k0 : -9223372036854775808 ≤ x.kind
  k1 : x.kind ≤ 9223372036854775807
  n0 : -9223372036854775808 ≤ x.num
  n1 : x.num ≤ 9223372036854775807
  t1 : x.text.size ≤ 140737488355328
  l1 : x.items.length ≤ 4294967296

mutual
/-- The four cells of a value; what its items' slice leads to lies in blocks of S. -/
def VC (w : World) (S : Nat → Prop) : V → List Value → Prop
  | .mk k n t l, c => V.Bd (.mk k n t l) ∧ ∃ A cap, c = [.int .i64 k, .int .i64 n, .string t, .slice A l.length cap] ∧ l.length ≤ cap ∧ (l = [] ∨ ∃ ad, A = some ad ∧ LC w S l ad 0)
/-- Values one behind the other from cell n on. -/
def LC (w : World) (S : Nat → Prop) : List V → Addr → Nat → Prop
  | [], _, _ => True
  | x :: xs, ad, n => S ad.block ∧ (∃ c, VC w S x c ∧ ∀ j u, c[j]? = some u → w.cell? (ad.add (n + j)) = some u) ∧ LC w S xs ad (n + 4)
end
/-- What a slice of values leads to. -/
def LA (w : World) (S : Nat → Prop) (l : List V) (A : Option Addr) : Prop := l = [] ∨ ∃ ad, A = some ad ∧ LC w S l ad 0
/-- A value as an aggregate. -/
def IsV (w : World) (S : Nat → Prop) (x : V) (v : Value) : Prop := ∃ c, VC w S x c ∧ v = .agg c.toArray
/-- A slice of values. -/
def IsS (w : World) (S : Nat → Prop) (l : List V) (v : Value) : Prop := ∃ A cap, v = .slice A l.length cap ∧ l.length ≤ cap ∧ l.length ≤ 4294967296 ∧ LA w S l A

theorem VC.eq {w : World} {S : Nat → Prop} {x : V} {c : List Value} (h : VC w S x c) : V.Bd x ∧ ∃ A cap, c = [.int .i64 x.kind, .int .i64 x.num, .string x.text, .slice A x.items.length cap] ∧ x.items.length ≤ cap ∧ LA w S x.items A := by
  cases x with
  | mk k n t l =>
    simp only [VC] at h
    exact h
theorem VC.mk {w : World} {S : Nat → Prop} {x : V} {A : Option Addr} {cap : Nat} (hb : V.Bd x) (hc : x.items.length ≤ cap) (h : LA w S x.items A) : VC w S x [.int .i64 x.kind, .int .i64 x.num, .string x.text, .slice A x.items.length cap] := by
  cases x with
  | mk k n t l =>
    simp only [VC]
    exact ⟨hb, A, cap, rfl, hc, h⟩
theorem IsV.eq {w : World} {S : Nat → Prop} {x : V} {v : Value} (h : IsV w S x v) : V.Bd x ∧ ∃ A cap, v = .agg #[.int .i64 x.kind, .int .i64 x.num, .string x.text, .slice A x.items.length cap] ∧ x.items.length ≤ cap ∧ LA w S x.items A := by
  obtain ⟨c, hc, rfl⟩ := h
  obtain ⟨hb, A, cap, rfl, h1, h2⟩ := hc.eq
  exact ⟨hb, A, cap, rfl, h1, h2⟩
theorem IsV.mk {w : World} {S : Nat → Prop} {x : V} {A : Option Addr} {cap : Nat} (hb : V.Bd x) (hc : x.items.length ≤ cap) (h : LA w S x.items A) : IsV w S x (.agg #[.int .i64 x.kind, .int .i64 x.num, .string x.text, .slice A x.items.length cap]) :=
  ⟨_, VC.mk hb hc h, rfl⟩
theorem IsV.items {w : World} {S : Nat → Prop} {x : V} {A : Option Addr} {cap : Nat} (hb : V.Bd x) (hc : x.items.length ≤ cap) (h : LA w S x.items A) : IsS w S x.items (.slice A x.items.length cap) :=
  ⟨A, cap, rfl, hc, hb.l1, h⟩
theorem VC.length {w : World} {S : Nat → Prop} {x : V} {c : List Value} (h : VC w S x c) : c.length = 4 := by
  obtain ⟨_, A, cap, rfl, _⟩ := h.eq
  rfl
theorem VC.one {w : World} {S : Nat → Prop} {x : V} {c : List Value} (h : VC w S x c) : ∀ u ∈ c, u.oneCell' = true := by
  obtain ⟨_, A, cap, rfl, _⟩ := h.eq
  intro u hu
  simp only [List.mem_cons, List.not_mem_nil, or_false] at hu
  rcases hu with rfl | rfl | rfl | rfl <;> rfl

/-! ### Worlds that keep what is read -/
/-- Of the blocks of S that w has, w' has the same, and they are blocks of S'. -/
def Keeps (w : World) (S : Nat → Prop) (w' : World) (S' : Nat → Prop) : Prop := ∀ b, b < w.heap.size → S b → S' b ∧ w'.heap[b]? = w.heap[b]?
theorem Keeps.cell {w w' : World} {S S' : Nat → Prop} (h : Keeps w S w' S') {a : Addr} {v : Value} (hs : S a.block) (hc : w.cell? a = some v) : S' a.block ∧ w'.cell? a = some v := by
  obtain ⟨h1, h2⟩ := h a.block (World.block_lt_of_cell? w a hc) hs
  exact ⟨h1, (World.cell?_of_block (w := w) h2).trans hc⟩
theorem Keeps.refl (w : World) (S : Nat → Prop) : Keeps w S w S := fun _ _ h => ⟨h, rfl⟩
theorem Keeps.trans {w w1 w2 : World} {S S1 S2 : Nat → Prop} (h : Keeps w S w1 S1) (k : Keeps w1 S1 w2 S2) : Keeps w S w2 S2 := fun b hb hs => by
  obtain ⟨h1, h2⟩ := h b hb hs
  have hb1 : b < w1.heap.size := by
    rcases Nat.lt_or_ge b w1.heap.size with h' | h'
    · exact h'
    · rw [Array.getElem?_eq_none h', Array.getElem?_eq_getElem hb] at h2
      cases h2
  obtain ⟨k1, k2⟩ := k b hb1 h1
  exact ⟨k1, k2.trans h2⟩
theorem Keeps.below {w w' : World} {S : Nat → Prop} (h : Below w.heap.size w w') : Keeps w S w' S := fun b hb hs => ⟨hs, h.block b hb⟩
theorem Keeps.weak {w : World} {S S' : Nat → Prop} (h : ∀ b, S b → S' b) : Keeps w S w S' := fun b _ hs => ⟨h b hs, rfl⟩
theorem Keeps.below_to {w w' : World} {S S' : Nat → Prop} (h : Below w.heap.size w w') (hs : ∀ b, b < w.heap.size → S b → S' b) : Keeps w S w' S' := fun b hb h1 => ⟨hs b hb h1, h.block b hb⟩
theorem Keeps.set {w : World} {S : Nat → Prop} {p : Addr} (hp : ¬ S p.block) (u : Value) : Keeps w S (w.setCell p u) S := fun b _ hs => ⟨hs, Below.heap_setCell _ _ _ _ (fun e => hp (e ▸ hs))⟩
theorem Keeps.alloc {w : World} {S : Nat → Prop} (o : Obj) : Keeps w S (w.alloc o) S := fun b hb hs => ⟨hs, Below.heap_alloc _ _ _ hb⟩
theorem Keeps.drew {w : World} {S : Nat → Prop} : Keeps w S w.drew S := fun _ _ hs => ⟨hs, rfl⟩
theorem Keeps.drewN {w : World} {S : Nat → Prop} (n : Nat) : Keeps w S (w.drewN n) S := fun _ _ hs => ⟨hs, rfl⟩
theorem Keeps.grown {w w' : World} {S : Nat → Prop} {row : Option Nat} (h : w.grownBy w' row) (hr : ∀ k, row = some k → ¬ S k) : Keeps w S w' S := fun b hb hs => ⟨hs, h.block b hb (fun e => hr b e.symm hs)⟩

theorem Keeps.set_after {w w' : World} {S S' : Nat → Prop} (h : Keeps w S w' S') {p : Addr} (hp : ¬ S' p.block) (u : Value) : Keeps w S (w'.setCell p u) S' := h.trans (Keeps.set hp u)
theorem Keeps.alloc_after {w w' : World} {S S' : Nat → Prop} (h : Keeps w S w' S') (o : Obj) : Keeps w S (w'.alloc o) S' := h.trans (Keeps.alloc o)
theorem Keeps.drew_after {w w' : World} {S S' : Nat → Prop} (h : Keeps w S w' S') : Keeps w S w'.drew S' := h.trans Keeps.drew
theorem Keeps.below_after {w w' w2 : World} {S S' : Nat → Prop} (h : Keeps w S w' S') (hb : Below w'.heap.size w' w2) : Keeps w S w2 S' := h.trans (Keeps.below hb)

mutual
theorem VC.keep {w w' : World} {S S' : Nat → Prop} (hk : Keeps w S w' S') : ∀ {x : V} {c : List Value}, VC w S x c → VC w' S' x c
  | .mk k n t l, c, h => by
    simp only [VC] at h ⊢
    obtain ⟨hb, A, cap, hc, h1, h2⟩ := h
    refine ⟨hb, A, cap, hc, h1, ?_⟩
    rcases h2 with h2 | ⟨ad, h3, h4⟩
    · exact .inl h2
    · exact .inr ⟨ad, h3, LC.keep hk h4⟩
theorem LC.keep {w w' : World} {S S' : Nat → Prop} (hk : Keeps w S w' S') : ∀ {l : List V} {ad : Addr} {n : Nat}, LC w S l ad n → LC w' S' l ad n
  | [], _, _, _ => by simp only [LC]
  | x :: xs, ad, n, h => by
    simp only [LC] at h ⊢
    obtain ⟨h1, ⟨c, h2, h3⟩, h4⟩ := h
    have hl : 0 < c.length := by rw [h2.length]; omega
    have hs : (ad.add (n + 0)).block = ad.block := by unfold Addr.add; split <;> rfl
    refine ⟨(hk.cell (a := ad.add (n + 0)) (by rw [hs]; exact h1) (h3 0 _ (List.getElem?_eq_getElem hl))).1 |> fun h => by rwa [hs] at h, ⟨c, VC.keep hk h2, fun j u hu => ?_⟩, LC.keep hk h4⟩
    have hs' : (ad.add (n + j)).block = ad.block := by unfold Addr.add; split <;> rfl
    exact (hk.cell (by rw [hs']; exact h1) (h3 j u hu)).2
end
theorem LA.keep {w w' : World} {S S' : Nat → Prop} (hk : Keeps w S w' S') {l : List V} {A : Option Addr} (h : LA w S l A) : LA w' S' l A := by
  rcases h with h | ⟨ad, h1, h2⟩
  · exact .inl h
  · exact .inr ⟨ad, h1, h2.keep hk⟩
theorem IsV.keep {w w' : World} {S S' : Nat → Prop} (hk : Keeps w S w' S') {x : V} {v : Value} (h : IsV w S x v) : IsV w' S' x v := by
  obtain ⟨c, h1, h2⟩ := h
  exact ⟨c, h1.keep hk, h2⟩
theorem IsS.keep {w w' : World} {S S' : Nat → Prop} (hk : Keeps w S w' S') {l : List V} {v : Value} (h : IsS w S l v) : IsS w' S' l v := by
  obtain ⟨A, cap, h1, h2, h3, h4⟩ := h
  exact ⟨A, cap, h1, h2, h3, h4.keep hk⟩
theorem IsV.below {w w' : World} {S : Nat → Prop} (hk : Below w.heap.size w w') {x : V} {v : Value} (h : IsV w S x v) : IsV w' S x v := h.keep (Keeps.below hk)
theorem IsS.below {w w' : World} {S : Nat → Prop} (hk : Below w.heap.size w w') {l : List V} {v : Value} (h : IsS w S l v) : IsS w' S l v := h.keep (Keeps.below hk)
theorem LA.below {w w' : World} {S : Nat → Prop} (hk : Below w.heap.size w w') {l : List V} {A : Option Addr} (h : LA w S l A) : LA w' S l A := h.keep (Keeps.below hk)
theorem addr_add_block (ad : Addr) (n : Nat) : (ad.add n).block = ad.block := by unfold Addr.add; split <;> rfl
theorem addr_add_add (ad : Addr) (m n : Nat) : (ad.add m).add n = ad.add (m + n) := by
  unfold Addr.add
  by_cases h1 : m = 0 <;> by_cases h2 : n = 0 <;> simp [h1, h2, Nat.add_assoc]
theorem addr_add_field (ad : Addr) (m j : Nat) (hj : 0 < j) : ad.add (m + j) = ⟨(ad.add m).block, (ad.add m).off + j, none⟩ := by
  unfold Addr.add
  by_cases hm : m = 0
  · subst hm
    simp [Nat.ne_of_gt hj]
  · simp [hm, Nat.add_assoc]

theorem cellB {w w' : World} (h : Below w.heap.size w w') {a : Addr} {v : Value} (hc : w.cell? a = some v) : w'.cell? a = some v := (h.cell (World.block_lt_of_cell? w a hc)).trans hc
theorem below_undrew {w w' : World} (h : Below w.drew.heap.size w.drew w') : Below w.heap.size w w' := (Below.refl _ _).drew.trans h
theorem below_undrewN {w w' : World} {n : Nat} (h : Below (w.drewN n).heap.size (w.drewN n) w') : Below w.heap.size w w' := ⟨h.os, h.tape, h.output, h.size, h.block⟩
/-- First w to w1, then w1 to w2. -/
theorem below_then {n : Nat} {w w1 w2 : World} (h : Below n w w1) (hn : n ≤ w1.heap.size) (k : Below w1.heap.size w1 w2) : Below n w w2 := h.trans (k.mono hn)
theorem blockB {w w' : World} (h : Below w.heap.size w w') {b : Nat} {o : Obj} (hc : w.heap[b]? = some o) : w'.heap[b]? = some o := (h.block b (Array.getElem?_eq_some_iff.1 hc).1).trans hc
/-- Two arguments' boxes: the world behind them, what its cells hold. -/
theorem boxes2 (w : World) (c0 c1 c2 c3 d0 d1 d2 d3 : Value) (t : TypeId) : ∃ w1, (w.alloc (.cells #[c0, c1, c2, c3] t)).alloc (.cells #[d0, d1, d2, d3] t) = w1 ∧ Below w.heap.size w w1 ∧ w.heap.size + 1 < w1.heap.size ∧
    w1.heap[w.heap.size]? = some (.cells #[c0, c1, c2, c3] t (0, 0)) ∧ w1.heap[w.heap.size + 1]? = some (.cells #[d0, d1, d2, d3] t (0, 0)) := by
  refine ⟨_, rfl, ((Below.refl _ _).alloc (Nat.le_refl _) _).alloc (by simp) _, by simp, ?_, ?_⟩
  · rw [Below.heap_alloc _ _ _ (by simp)]
    exact heap_alloc_new w _
  · have := heap_alloc_new (w.alloc (.cells #[c0, c1, c2, c3] t)) (.cells #[d0, d1, d2, d3] t)
    simpa using this
/-- One argument's box. -/
theorem box1 (w : World) (c0 c1 c2 c3 : Value) (t : TypeId) : ∃ w1, w.alloc (.cells #[c0, c1, c2, c3] t) = w1 ∧ Below w.heap.size w w1 ∧ w.heap.size < w1.heap.size ∧ w1.heap[w.heap.size]? = some (.cells #[c0, c1, c2, c3] t (0, 0)) :=
  ⟨_, rfl, (Below.refl _ _).alloc (Nat.le_refl _) _, by simp, heap_alloc_new w _⟩
theorem block4 {w : World} {b : Nat} {c0 c1 c2 c3 : Value} {t : TypeId} (h : w.heap[b]? = some (.cells #[c0, c1, c2, c3] t (0, 0))) :
    w.cell? ⟨b, 0, none⟩ = some c0 ∧ w.cell? ⟨b, 1, none⟩ = some c1 ∧ w.cell? ⟨b, 2, none⟩ = some c2 ∧ w.cell? ⟨b, 3, none⟩ = some c3 := by
  simp [World.cell?, h]

theorem lt_succ_of (a n : Nat) (h : a < n) : (a < n + 1) = True := eq_true (Nat.lt_succ_of_lt h)

/-! ### One of the values of a slice -/
theorem LC.at {w : World} {S : Nat → Prop} : ∀ {l : List V} {ad : Addr} {n : Nat}, LC w S l ad n → ∀ (i : Nat) (x : V), l[i]? = some x → S ad.block ∧ ∃ c, VC w S x c ∧ ∀ j u, c[j]? = some u → w.cell? (ad.add (n + i * 4 + j)) = some u
  | [], _, _, _, i, x, hx => by simp at hx
  | y :: ys, ad, n, h, i, x, hx => by
    simp only [LC] at h
    obtain ⟨h1, ⟨c, h2, h3⟩, h4⟩ := h
    cases i with
    | zero =>
      simp only [List.getElem?_cons_zero, Option.some.injEq] at hx
      subst hx
      exact ⟨h1, c, h2, by simpa using h3⟩
    | succ i =>
      simp only [List.getElem?_cons_succ] at hx
      obtain ⟨h5, c', h6, h7⟩ := LC.at h4 i x hx
      refine ⟨h5, c', h6, fun j u hu => ?_⟩
      have := h7 j u hu
      rwa [show n + (i + 1) * 4 + j = n + 4 + i * 4 + j by omega]
/-- The item at a place (a plain name, which simp leaves alone). -/
def itemAt (l : List V) (i : Nat) : V := l.getD i V.zero
theorem itemAt_get {l : List V} {i : Nat} (h : i < l.length) : l[i]? = some (itemAt l i) := by
  simp [itemAt, List.getD_eq_getElem?_getD, List.getElem?_eq_getElem h]
theorem itemAt_mem {l : List V} {i : Nat} (h : i < l.length) : itemAt l i ∈ l := List.mem_of_getElem? (itemAt_get h)
theorem itemAt_drop {l : List V} {i : Nat} (h : i < l.length) : l.drop i = itemAt l i :: l.drop (i + 1) := by
  rw [List.drop_eq_getElem_cons h]
  congr 1
  have := itemAt_get h
  rw [List.getElem?_eq_getElem h] at this
  exact Option.some.inj this
theorem itemAt_take {l : List V} {i : Nat} (h : i < l.length) : l.take (i + 1) = l.take i ++ [itemAt l i] := by
  rw [List.take_succ_eq_append_getElem h]
  congr 2
  have := itemAt_get h
  rw [List.getElem?_eq_getElem h] at this
  exact Option.some.inj this
/-- What the walk wants of a slice's item: its four cells, as the walk spells them. -/
theorem LA.at {w : World} {S : Nat → Prop} {l : List V} {A : Option Addr} (h : LA w S l A) (i : Nat) (hi : i < l.length) :
    ∃ ad A' cap, A = some ad ∧ (ad.add (i * 4)).block < w.heap.size ∧ V.Bd (itemAt l i) ∧ w.cell? (ad.add (i * 4)) = some (.int .i64 (itemAt l i).kind) ∧ w.cell? ⟨(ad.add (i * 4)).block, (ad.add (i * 4)).off + 1, none⟩ = some (.int .i64 (itemAt l i).num) ∧
      w.cell? ⟨(ad.add (i * 4)).block, (ad.add (i * 4)).off + 2, none⟩ = some (.string (itemAt l i).text) ∧ w.cell? ⟨(ad.add (i * 4)).block, (ad.add (i * 4)).off + 3, none⟩ = some (.slice A' (itemAt l i).items.length cap) ∧
      (itemAt l i).items.length ≤ cap ∧ LA w S (itemAt l i).items A' := by
  rcases h with rfl | ⟨ad, rfl, h⟩
  · exact absurd hi (by simp)
  · obtain ⟨hs, c, hv, hc⟩ := LC.at h i _ (itemAt_get hi)
    obtain ⟨hb, A', cap, rfl, h1, h2⟩ := hv.eq
    refine ⟨ad, A', cap, rfl, World.block_lt_of_cell? w _ (u := .int .i64 (itemAt l i).kind) ?_, hb, ?_, ?_, ?_, ?_, h1, h2⟩
    · have := hc 0 _ rfl; simpa using this
    · have := hc 0 _ rfl; simpa using this
    · rw [← addr_add_field _ _ 1 (by omega)]; have := hc 1 _ rfl; simpa using this
    · rw [← addr_add_field _ _ 2 (by omega)]; have := hc 2 _ rfl; simpa using this
    · rw [← addr_add_field _ _ 3 (by omega)]; have := hc 3 _ rfl; simpa using this
end Go.Proofs.YtaeldfnihocljaaDoor

/- What the value layer computes, as plain functions on trees: order, right values. -/
set_option linter.unusedVariables false
namespace Go.Proofs.YtaeldfnihocljaaDoor
open Go.RowKit

def sgn (a b : Int) : Int := if a < b then -1 else if b < a then 1 else 0
def cmpB (a b : ByteArray) : Int := Lib.compareBytes a.data.toList b.data.toList
mutual
def cmpV : V → V → Int
  | .mk k n t l, .mk k' n' t' l' => if k = k' then (if k = 1 ∨ k = 2 then sgn n n' else if k = 3 then cmpB t t' else if k = 4 ∨ k = 5 ∨ k = 6 then cmpL l l' else 0) else sgn k k'
def cmpL : List V → List V → Int
  | [], [] => 0
  | [], _ :: _ => -1
  | _ :: _, [] => 1
  | x :: xs, y :: ys => if cmpV x y = 0 then cmpL xs ys else cmpV x y
end
theorem cmpV_eq (x y : V) : cmpV x y = if x.kind = y.kind then (if x.kind = 1 ∨ x.kind = 2 then sgn x.num y.num else if x.kind = 3 then cmpB x.text y.text else if x.kind = 4 ∨ x.kind = 5 ∨ x.kind = 6 then cmpL x.items y.items else 0) else sgn x.kind y.kind := by
  cases x; cases y; rw [cmpV]; rfl
theorem cmpL_nil (ys : List V) : cmpL [] ys = if ys.length = 0 then 0 else -1 := by cases ys <;> simp [cmpL]
theorem cmpL_nil_right (x : V) (xs : List V) : cmpL (x :: xs) [] = 1 := by simp [cmpL]
theorem cmpL_cons (x y : V) (xs ys : List V) : cmpL (x :: xs) (y :: ys) = if cmpV x y = 0 then cmpL xs ys else cmpV x y := by simp only [cmpL]
/-- From place i on, both long enough. -/
theorem cmpL_drop {a b : List V} {i : Nat} (ha : i < a.length) (hb : i < b.length) : cmpL (a.drop i) (b.drop i) = if cmpV (itemAt a i) (itemAt b i) = 0 then cmpL (a.drop (i + 1)) (b.drop (i + 1)) else cmpV (itemAt a i) (itemAt b i) := by
  rw [itemAt_drop ha, itemAt_drop hb, cmpL_cons]
theorem cmpL_drop_end {a b : List V} {i : Nat} (ha : a.length ≤ i) (hb : i ≤ b.length) : cmpL (a.drop i) (b.drop i) = if b.length = i then 0 else -1 := by
  rw [List.drop_eq_nil_of_le ha, cmpL_nil, List.length_drop]
  by_cases h : b.length = i
  · rw [if_pos (by omega), if_pos h]
  · rw [if_neg (by omega), if_neg h]
theorem cmpL_drop_more {a b : List V} {i : Nat} (ha : i < a.length) (hb : b.length ≤ i) : cmpL (a.drop i) (b.drop i) = 1 := by
  rw [itemAt_drop ha, List.drop_eq_nil_of_le hb, cmpL_nil_right]
theorem compareBytes_less : ∀ (a b : List UInt8), Lib.compareBytes a b = if Op.bytesLess a b = true then -1 else if (a == b) = true then 0 else 1
  | [], [] => by simp [Lib.compareBytes, Op.bytesLess]
  | [], _ :: _ => by simp [Lib.compareBytes, Op.bytesLess]
  | _ :: _, [] => by simp [Lib.compareBytes, Op.bytesLess]
  | x :: a, y :: b => by
    have ih := compareBytes_less a b
    unfold Lib.compareBytes Op.bytesLess
    by_cases h : x < y
    · simp [h]
    · by_cases h' : y < x
      · have hne : ¬ x = y := fun e => by subst e; exact UInt8.lt_irrefl _ h'
        simp [h, h', hne]
      · have he : x = y := UInt8.le_antisymm (UInt8.not_lt.1 h') (UInt8.not_lt.1 h)
        subst he
        rw [if_neg h, if_neg h, ih]
        simp [h]
theorem cmpB_less (a b : ByteArray) : cmpB a b = if Op.bytesLess a.toList b.toList = true then -1 else if (a.toList == b.toList) = true then 0 else 1 := by
  unfold cmpB
  rw [Lib.toList_data, Lib.toList_data]
  exact compareBytes_less _ _
end Go.Proofs.YtaeldfnihocljaaDoor

/- Arrays of the call's own: cells that stand for values, stores into them. -/
set_option linter.unusedVariables false
namespace Go.Proofs.YtaeldfnihocljaaDoor
open Go.RowKit

/-- Cells that stand for values, four each. -/
def CsL (w : World) (S : Nat → Prop) : List V → List Value → Prop
  | [], c => c = []
  | x :: xs, c => ∃ a b, c = a ++ b ∧ VC w S x a ∧ CsL w S xs b
theorem CsL.keep {w w' : World} {S S' : Nat → Prop} (hk : Keeps w S w' S') : ∀ {l : List V} {c : List Value}, CsL w S l c → CsL w' S' l c
  | [], _, h => h
  | x :: xs, c, ⟨a, b, e, h1, h2⟩ => ⟨a, b, e, h1.keep hk, CsL.keep hk h2⟩
theorem CsL.length {w : World} {S : Nat → Prop} : ∀ {l : List V} {c : List Value}, CsL w S l c → c.length = l.length * 4
  | [], _, h => by cases h; rfl
  | x :: xs, c, ⟨a, b, e, h1, h2⟩ => by rw [e, List.length_append, h1.length, CsL.length h2, List.length_cons]; omega
theorem CsL.snoc {w : World} {S : Nat → Prop} {x : V} {a : List Value} : ∀ {l : List V} {c : List Value}, CsL w S l c → VC w S x a → CsL w S (l ++ [x]) (c ++ a)
  | [], _, h, hx => by cases h; exact ⟨a, [], by simp, hx, rfl⟩
  | y :: ys, c, ⟨d, b, e, h1, h2⟩, hx => ⟨d, b ++ a, by rw [e, List.append_assoc], h1, CsL.snoc h2 hx⟩
theorem CsL.append {w : World} {S : Nat → Prop} {m : List V} {d : List Value} : ∀ {l : List V} {c : List Value}, CsL w S l c → CsL w S m d → CsL w S (l ++ m) (c ++ d)
  | [], _, h, hx => by cases h; exact hx
  | y :: ys, c, ⟨a, b, e, h1, h2⟩, hx => ⟨a, b ++ d, by rw [e, List.append_assoc], h1, CsL.append h2 hx⟩
theorem CsL.one {w : World} {S : Nat → Prop} : ∀ {l : List V} {c : List Value}, CsL w S l c → ∀ u ∈ c, u.oneCell' = true
  | [], _, h, u, hu => by cases h; cases hu
  | x :: xs, c, ⟨a, b, e, h1, h2⟩, u, hu => by
    rw [e, List.mem_append] at hu
    rcases hu with hu | hu
    · exact h1.one u hu
    · exact CsL.one h2 u hu
/-- What stands in cells is a slice's. -/
theorem CsL.lc {w : World} {S : Nat → Prop} {ad : Addr} (hs : S ad.block) : ∀ {l : List V} {c : List Value} {n : Nat}, CsL w S l c → (∀ j u, c[j]? = some u → w.cell? (ad.add (n + j)) = some u) → LC w S l ad n
  | [], _, _, _, _ => by simp only [LC]
  | x :: xs, c, n, ⟨a, b, e, h1, h2⟩, h => by
    simp only [LC]
    subst e
    have hl := h1.length
    refine ⟨hs, ⟨a, h1, fun j u hu => h j u ?_⟩, CsL.lc hs h2 fun j u hu => ?_⟩
    · rw [List.getElem?_append_left (by rw [List.getElem?_eq_some_iff] at hu; exact hu.1)]
      exact hu
    · rw [show n + 4 + j = n + (a.length + j) by omega]
      refine h _ u ?_
      rw [List.getElem?_append_right (by omega), Nat.add_sub_cancel_left]
      exact hu
/-- And the other way round. -/
theorem LC.cs {w : World} {S : Nat → Prop} : ∀ {l : List V} {ad : Addr} {n : Nat}, LC w S l ad n → ∃ c, CsL w S l c ∧ ∀ j u, c[j]? = some u → w.cell? (ad.add (n + j)) = some u
  | [], _, _, _ => ⟨[], rfl, fun j u h => by simp at h⟩
  | x :: xs, ad, n, h => by
    simp only [LC] at h
    obtain ⟨h1, ⟨a, h2, h3⟩, h4⟩ := h
    obtain ⟨b, h5, h6⟩ := LC.cs h4
    refine ⟨a ++ b, ⟨a, b, rfl, h2, h5⟩, fun j u hu => ?_⟩
    have hl := h2.length
    rcases Nat.lt_or_ge j a.length with hj | hj
    · rw [List.getElem?_append_left hj] at hu
      exact h3 j u hu
    · rw [List.getElem?_append_right hj] at hu
      have := h6 _ u hu
      rwa [show n + 4 + (j - a.length) = n + j by omega] at this
theorem plus0 (g j : Nat) : (⟨g, 0, none⟩ : Addr).add j = ⟨g, j, none⟩ := by unfold Addr.add; split <;> simp_all
theorem block_cells {w : World} {B : Nat} {c : List Value} {t : TypeId} {fz : Nat × Nat} (h : w.heap[B]? = some (.cells c.toArray t fz)) : ∀ j u, c[j]? = some u → w.cell? ((⟨B, 0, none⟩ : Addr).add (0 + j)) = some u := by
  intro j u hu
  rw [plus0, Nat.zero_add]
  simp [World.cell?, h, hu]
theorem CsL.la {w : World} {S : Nat → Prop} {B : Nat} {l : List V} {c : List Value} {t : TypeId} {fz : Nat × Nat} (h : CsL w S l c) (hB : w.heap[B]? = some (.cells c.toArray t fz)) (hs : S B) : LA w S l (some ⟨B, 0, none⟩) :=
  .inr ⟨_, rfl, CsL.lc hs h (block_cells hB)⟩
/-- The block is longer than what is told of it. -/
theorem CsL.la_more {w : World} {S : Nat → Prop} {B : Nat} {l : List V} {c d : List Value} {t : TypeId} {fz : Nat × Nat} (h : CsL w S l c) (hB : w.heap[B]? = some (.cells (c ++ d).toArray t fz)) (hs : S B) : LA w S l (some ⟨B, 0, none⟩) :=
  .inr ⟨_, rfl, CsL.lc hs h fun j u hu => block_cells hB j u (by rw [List.getElem?_append_left (by rw [List.getElem?_eq_some_iff] at hu; exact hu.1)]; exact hu)⟩

/-! ### Four stores -/
theorem blockset {w : World} {g : Nat} {t : TypeId} {cs : Array Value} (h : w.heap[g]? = some (.cells cs t (0, 0))) (i : Nat) (u : Value) : (w.setCell ⟨g, i, none⟩ u).heap[g]? = some (.cells (cs.setIfInBounds i u) t (0, 0)) := by
  simp [World.setCell, Array.getElem?_modify, h]
theorem blockother {w : World} {g : Nat} {o : Obj} (h : w.heap[g]? = some o) {p : Addr} (hp : g ≠ p.block) (u : Value) : (w.setCell p u).heap[g]? = some o := (Below.heap_setCell w p u g hp).trans h
theorem set4 (p r : List Value) (a b c d a' b' c' d' : Value) {n : Nat} (hn : p.length = n) : (((((p ++ a :: b :: c :: d :: r).toArray.setIfInBounds n a').setIfInBounds (n + 1) b').setIfInBounds (n + 2) c').setIfInBounds (n + 3) d') = (p ++ a' :: b' :: c' :: d' :: r).toArray := by
  subst hn
  simp
theorem block4set {w : World} {g : Nat} {t : TypeId} {p r : List Value} {a b c d : Value} (h : w.heap[g]? = some (.cells (p ++ a :: b :: c :: d :: r).toArray t (0, 0))) {n : Nat} (hn : p.length = n) (a' b' c' d' : Value) :
    ((((w.setCell ⟨g, n, none⟩ a').setCell ⟨g, n + 1, none⟩ b').setCell ⟨g, n + 2, none⟩ c').setCell ⟨g, n + 3, none⟩ d').heap[g]? = some (.cells (p ++ a' :: b' :: c' :: d' :: r).toArray t (0, 0)) := by
  have := blockset (blockset (blockset (blockset h n a') (n + 1) b') (n + 2) c') (n + 3) d'
  rw [this, set4 p r a b c d a' b' c' d' hn]
theorem cells4 {w : World} {g : Nat} {t : TypeId} {p r : List Value} {a b c d : Value} (h : w.heap[g]? = some (.cells (p ++ a :: b :: c :: d :: r).toArray t (0, 0))) {n : Nat} (hn : p.length = n) :
    w.cell? ⟨g, n, none⟩ = some a ∧ w.cell? ⟨g, n + 1, none⟩ = some b ∧ w.cell? ⟨g, n + 2, none⟩ = some c ∧ w.cell? ⟨g, n + 3, none⟩ = some d := by
  subst hn
  simp [World.cell?, h]
theorem free4 {w : World} {g : Nat} {t : TypeId} {cs : Array Value} (h : w.heap[g]? = some (.cells cs t (0, 0))) (n : Nat) : w.frozen? ⟨g, n, none⟩ = false := by simp [World.frozen?, h]
theorem split4 {q : List Value} {n : Nat} (h : q.length = n * 4) (hn : 0 < n) : ∃ a b c d r, q = a :: b :: c :: d :: r ∧ r.length = (n - 1) * 4 := by
  match q, h with
  | a :: b :: c :: d :: r, h => exact ⟨a, b, c, d, r, rfl, by simp at h; omega⟩
  | [], h => simp at h; omega
  | [_], h => simp at h; omega
  | [_, _], h => simp at h; omega
  | [_, _, _], h => simp at h; omega
theorem cell_new2 (w : World) (c0 c1 : Value) (t : TypeId) : (w.alloc (.cells #[c0, c1] t)).cell? ⟨w.heap.size, 0, none⟩ = some c0 ∧ (w.alloc (.cells #[c0, c1] t)).cell? ⟨w.heap.size, 1, none⟩ = some c1 := by
  have h := heap_alloc_new w (.cells #[c0, c1] t)
  constructor <;> simp only [World.cell?, h] <;> rfl

/-! ### Parts of slices -/
def lenV : Value → Nat
  | .slice _ n _ => n
  | _ => 0
theorem LC.take {w : World} {S : Nat → Prop} : ∀ {l : List V} {ad : Addr} {m : Nat} (n : Nat), LC w S l ad m → LC w S (l.take n) ad m
  | [], _, _, n, h => by simpa using h
  | x :: xs, ad, m, 0, h => by simp only [List.take_zero, LC]
  | x :: xs, ad, m, n + 1, h => by
    simp only [LC, List.take_succ_cons] at h ⊢
    exact ⟨h.1, h.2.1, LC.take n h.2.2⟩
theorem LC.drop {w : World} {S : Nat → Prop} : ∀ {l : List V} {ad : Addr} {m : Nat} (n : Nat), LC w S l ad m → LC w S (l.drop n) ad (m + n * 4)
  | [], _, _, n, h => by simp only [List.drop_nil, LC]
  | x :: xs, ad, m, 0, h => by simpa using h
  | x :: xs, ad, m, n + 1, h => by
    simp only [LC, List.drop_succ_cons] at h ⊢
    have := LC.drop n h.2.2
    rwa [show m + 4 + n * 4 = m + (n + 1) * 4 by omega] at this
theorem LC.move {w : World} {S : Nat → Prop} {p : Nat} : ∀ {l : List V} {ad : Addr} {m : Nat}, LC w S l ad (p + m) → LC w S l (ad.add p) m
  | [], _, _, _ => by simp only [LC]
  | x :: xs, ad, m, h => by
    simp only [LC] at h ⊢
    refine ⟨by rw [addr_add_block]; exact h.1, ?_, LC.move (by rw [← Nat.add_assoc]; exact h.2.2)⟩
    obtain ⟨c, h1, h2⟩ := h.2.1
    exact ⟨c, h1, fun j u hu => by rw [addr_add_add, ← Nat.add_assoc]; exact h2 j u hu⟩
/-- l[:n]. -/
theorem LA.take {w : World} {S : Nat → Prop} {l : List V} {A : Option Addr} (n : Nat) (h : LA w S l A) : LA w S (l.take n) A := by
  rcases h with rfl | ⟨ad, h1, h2⟩
  · exact .inl (by simp)
  · exact .inr ⟨ad, h1, h2.take n⟩
/-- l[n:]. -/
theorem LA.drop {w : World} {S : Nat → Prop} {l : List V} {ad : Addr} (n : Nat) (h : LA w S l (some ad)) : LA w S (l.drop n) (some (ad.add (n * 4))) := by
  rcases h with rfl | ⟨ad', h1, h2⟩
  · exact .inl (by simp)
  · injection h1 with h1
    subst h1
    exact .inr ⟨_, rfl, LC.move (by have := h2.drop n; simpa using this)⟩
end Go.Proofs.YtaeldfnihocljaaDoor

/- Vectors as trees, and how they lie in memory. -/
set_option linter.unusedVariables false
namespace Go.Proofs.YtaeldfnihocljaaDoor
open Go.RowKit

/-- A node: a leaf's items, or a branch's nodes. -/
inductive N where
  | leaf (l : List V)
  | branch (ks : List N)
mutual
def N.items : N → List V
  | .leaf l => l
  | .branch ks => N.flat ks
def N.flat : List N → List V
  | [] => []
  | k :: ks => N.items k ++ N.flat ks
end
instance : Inhabited N := ⟨.leaf []⟩
def kidAt (ks : List N) (i : Nat) : N := ks.getD i (.leaf [])
theorem kidAt_get {l : List N} {i : Nat} (h : i < l.length) : l[i]? = some (kidAt l i) := by
  simp [kidAt, List.getD_eq_getElem?_getD, List.getElem?_eq_getElem h]
theorem kidAt_mem {l : List N} {i : Nat} (h : i < l.length) : kidAt l i ∈ l := List.mem_of_getElem? (kidAt_get h)
theorem kidAt_drop {l : List N} {i : Nat} (h : i < l.length) : l.drop i = kidAt l i :: l.drop (i + 1) := by
  rw [List.drop_eq_getElem_cons h]
  congr 1
  have := kidAt_get h
  rw [List.getElem?_eq_getElem h] at this
  exact Option.some.inj this
theorem kidAt_take {l : List N} {i : Nat} (h : i < l.length) : l.take (i + 1) = l.take i ++ [kidAt l i] := by
  rw [List.take_succ_eq_append_getElem h]
  congr 2
  have := kidAt_get h
  rw [List.getElem?_eq_getElem h] at this
  exact Option.some.inj this
theorem flat_append : ∀ (a b : List N), N.flat (a ++ b) = N.flat a ++ N.flat b
  | [], b => by simp [N.flat]
  | k :: a, b => by simp [N.flat, flat_append a b]
theorem flat_one (k : N) : N.flat [k] = N.items k := by simp [N.flat]
/-- How many items are up to node i, it with them. -/
def uptoN (ks : List N) (i : Nat) : Nat := (N.flat (ks.take (i + 1))).length
/-- How many are ahead of node i. -/
def aheadN (ks : List N) (i : Nat) : Nat := (N.flat (ks.take i)).length
theorem uptoN_eq {ks : List N} {i : Nat} (h : i < ks.length) : uptoN ks i = aheadN ks i + (N.items (kidAt ks i)).length := by
  unfold uptoN aheadN
  rw [kidAt_take h, flat_append, flat_one, List.length_append]
theorem aheadN_succ (ks : List N) (i : Nat) : aheadN ks (i + 1) = uptoN ks i := rfl
theorem aheadN_zero (ks : List N) : aheadN ks 0 = 0 := by simp [aheadN, N.flat]
theorem aheadN_all (ks : List N) : aheadN ks ks.length = (N.flat ks).length := by unfold aheadN; rw [List.take_length]

/-- No node is empty, none has more than 32 places. -/
def N.Ok : N → Prop
  | .leaf l => l ≠ [] ∧ l.length ≤ 32
  | .branch ks => ks ≠ [] ∧ ks.length ≤ 32 ∧ ∀ k, k ∈ ks → N.Ok k
theorem N.Ok.leaf {l : List V} (h : N.Ok (.leaf l)) : l ≠ [] ∧ l.length ≤ 32 := by simpa only [N.Ok] using h
theorem N.Ok.branch {ks : List N} (h : N.Ok (.branch ks)) : ks ≠ [] ∧ ks.length ≤ 32 ∧ ∀ k, k ∈ ks → N.Ok k := by rw [N.Ok] at h; exact h
theorem N.Ok.mk {ks : List N} (h0 : ks ≠ []) (h1 : ks.length ≤ 32) (h2 : ∀ k, k ∈ ks → N.Ok k) : N.Ok (.branch ks) := by rw [N.Ok]; exact ⟨h0, h1, h2⟩
theorem N.Ok.mkleaf {l : List V} (h0 : l ≠ []) (h1 : l.length ≤ 32) : N.Ok (.leaf l) := by rw [N.Ok]; exact ⟨h0, h1⟩

/-! ### Memory -/
mutual
def IsN (w : World) (S : Nat → Prop) : N → Value → Prop
  | .leaf l, v => ∃ A cap, v = .iface 87 (.slice A l.length cap) ∧ l.length ≤ cap ∧ LA w S l A
  | .branch ks, v => ∃ b A cA B cB, v = .iface 84 (.pointer (some ⟨b, 0, none⟩)) ∧ S b ∧ w.cell? ⟨b, 0, none⟩ = some (.slice (some A) ks.length cA) ∧ ks.length ≤ cA ∧
      w.cell? ⟨b, 1, none⟩ = some (.slice (some B) ks.length cB) ∧ ks.length ≤ cB ∧ KC w S ks A 0 ∧ ∀ i, i < ks.length → S B.block ∧ w.cell? (B.add i) = some (.int .i64 (uptoN ks i))
def KC (w : World) (S : Nat → Prop) : List N → Addr → Nat → Prop
  | [], _, _ => True
  | k :: ks, ad, n => S ad.block ∧ (∃ u, IsN w S k u ∧ w.cell? (ad.add n) = some u) ∧ KC w S ks ad (n + 1)
end
theorem IsN.leaf_eq {w : World} {S : Nat → Prop} {l : List V} {v : Value} (h : IsN w S (.leaf l) v) : ∃ A cap, v = .iface 87 (.slice A l.length cap) ∧ l.length ≤ cap ∧ LA w S l A := by simpa only [IsN] using h
theorem IsN.leaf_mk {w : World} {S : Nat → Prop} {l : List V} {A : Option Addr} {cap : Nat} (h1 : l.length ≤ cap) (h : LA w S l A) : IsN w S (.leaf l) (.iface 87 (.slice A l.length cap)) := by
  simp only [IsN]
  exact ⟨A, cap, rfl, h1, h⟩
/-- What a branch's pointer leads to. -/
def IsB (w : World) (S : Nat → Prop) (ks : List N) (b : Nat) : Prop := ∃ A cA B cB, S b ∧ w.cell? ⟨b, 0, none⟩ = some (.slice (some A) ks.length cA) ∧ ks.length ≤ cA ∧
      w.cell? ⟨b, 1, none⟩ = some (.slice (some B) ks.length cB) ∧ ks.length ≤ cB ∧ KC w S ks A 0 ∧ ∀ i, i < ks.length → S B.block ∧ w.cell? (B.add i) = some (.int .i64 (uptoN ks i))
theorem IsN.branch_eq {w : World} {S : Nat → Prop} {ks : List N} {v : Value} (h : IsN w S (.branch ks) v) : ∃ b, v = .iface 84 (.pointer (some ⟨b, 0, none⟩)) ∧ IsB w S ks b := by
  simp only [IsN] at h
  obtain ⟨b, A, cA, B, cB, h1, h2⟩ := h
  exact ⟨b, h1, A, cA, B, cB, h2⟩
theorem IsN.branch_mk {w : World} {S : Nat → Prop} {ks : List N} {b : Nat} (h : IsB w S ks b) : IsN w S (.branch ks) (.iface 84 (.pointer (some ⟨b, 0, none⟩))) := by
  simp only [IsN]
  obtain ⟨A, cA, B, cB, h2⟩ := h
  exact ⟨b, A, cA, B, cB, rfl, h2⟩
mutual
theorem IsN.keep {w w' : World} {S S' : Nat → Prop} (hk : Keeps w S w' S') : ∀ {k : N} {v : Value}, IsN w S k v → IsN w' S' k v
  | .leaf l, v, h => by
    obtain ⟨A, cap, rfl, h1, h2⟩ := h.leaf_eq
    exact IsN.leaf_mk h1 (h2.keep hk)
  | .branch ks, v, h => by
    obtain ⟨b, rfl, A, cA, B, cB, hs, h0, h1, h2, h3, h4, h6⟩ := h.branch_eq
    refine IsN.branch_mk ⟨A, cA, B, cB, (hk.cell (a := ⟨b, 0, none⟩) hs h0).1, (hk.cell (a := ⟨b, 0, none⟩) hs h0).2, h1, (hk.cell (a := ⟨b, 1, none⟩) hs h2).2, h3, KC.keep hk h4, fun i hi => ?_⟩
    have := hk.cell (a := B.add i) (by rw [addr_add_block]; exact (h6 i hi).1) (h6 i hi).2
    rw [addr_add_block] at this
    exact this
theorem KC.keep {w w' : World} {S S' : Nat → Prop} (hk : Keeps w S w' S') : ∀ {ks : List N} {ad : Addr} {n : Nat}, KC w S ks ad n → KC w' S' ks ad n
  | [], _, _, _ => by simp only [KC]
  | k :: ks, ad, n, h => by
    simp only [KC] at h ⊢
    obtain ⟨h1, ⟨u, h2, h3⟩, h4⟩ := h
    have hc := hk.cell (a := ad.add n) (by rw [addr_add_block]; exact h1) h3
    refine ⟨by rw [addr_add_block] at hc; exact hc.1, ⟨u, IsN.keep hk h2, hc.2⟩, KC.keep hk h4⟩
end
theorem IsN.below {w w' : World} {S : Nat → Prop} (hk : Below w.heap.size w w') {k : N} {v : Value} (h : IsN w S k v) : IsN w' S k v := h.keep (Keeps.below hk)
theorem IsB.keep {w w' : World} {S S' : Nat → Prop} (hk : Keeps w S w' S') {ks : List N} {b : Nat} (h : IsB w S ks b) : IsB w' S' ks b := by
  have h1 := (IsN.branch_mk h).keep hk
  obtain ⟨b', e, h2⟩ := h1.branch_eq
  injection e with _ e
  injection e with e
  injection e with e
  injection e with e
  rw [e]
  exact h2
theorem IsB.below {w w' : World} {S : Nat → Prop} (hk : Below w.heap.size w w') {ks : List N} {b : Nat} (h : IsB w S ks b) : IsB w' S ks b := h.keep (Keeps.below hk)
theorem KC.at {w : World} {S : Nat → Prop} : ∀ {ks : List N} {ad : Addr} {n : Nat}, KC w S ks ad n → ∀ i, i < ks.length → S ad.block ∧ ∃ u, IsN w S (kidAt ks i) u ∧ w.cell? (ad.add (n + i)) = some u
  | [], _, _, _, i, hi => by simp at hi
  | k :: ks, ad, n, h, i, hi => by
    simp only [KC] at h
    obtain ⟨h1, ⟨u, h2, h3⟩, h4⟩ := h
    cases i with
    | zero => exact ⟨h1, u, h2, h3⟩
    | succ i =>
      obtain ⟨h5, u', h6, h7⟩ := KC.at h4 i (by simpa using hi)
      exact ⟨h5, u', h6, by rwa [show n + (i + 1) = n + 1 + i by omega]⟩

/-- Cells that stand for nodes. -/
def CsN (w : World) (S : Nat → Prop) : List N → List Value → Prop
  | [], c => c = []
  | k :: ks, c => ∃ u b, c = u :: b ∧ IsN w S k u ∧ CsN w S ks b
theorem CsN.keep {w w' : World} {S S' : Nat → Prop} (hk : Keeps w S w' S') : ∀ {l : List N} {c : List Value}, CsN w S l c → CsN w' S' l c
  | [], _, h => h
  | x :: xs, c, ⟨a, b, e, h1, h2⟩ => ⟨a, b, e, h1.keep hk, CsN.keep hk h2⟩
theorem CsN.length {w : World} {S : Nat → Prop} : ∀ {l : List N} {c : List Value}, CsN w S l c → c.length = l.length
  | [], _, h => by cases h; rfl
  | x :: xs, c, ⟨a, b, e, h1, h2⟩ => by rw [e, List.length_cons, CsN.length h2, List.length_cons]
theorem CsN.append {w : World} {S : Nat → Prop} {m : List N} {d : List Value} : ∀ {l : List N} {c : List Value}, CsN w S l c → CsN w S m d → CsN w S (l ++ m) (c ++ d)
  | [], _, h, hx => by cases h; exact hx
  | y :: ys, c, ⟨a, b, e, h1, h2⟩, hx => ⟨a, b ++ d, by rw [e, List.cons_append], h1, CsN.append h2 hx⟩
theorem CsN.take {w : World} {S : Nat → Prop} : ∀ {l : List N} {c : List Value} (n : Nat), CsN w S l c → CsN w S (l.take n) (c.take n)
  | [], _, n, h => by cases h; simp [CsN]
  | y :: ys, c, 0, ⟨a, b, e, h1, h2⟩ => by simp [CsN]
  | y :: ys, c, n + 1, ⟨a, b, e, h1, h2⟩ => by subst e; exact ⟨a, b.take n, by simp, h1, CsN.take n h2⟩
theorem CsN.set {w : World} {S : Nat → Prop} {k : N} {u : Value} (hk : IsN w S k u) : ∀ {l : List N} {c : List Value} (n : Nat), CsN w S l c → CsN w S (l.set n k) (c.set n u)
  | [], _, n, h => by cases h; simp [CsN]
  | y :: ys, c, 0, ⟨a, b, e, h1, h2⟩ => by subst e; exact ⟨u, b, rfl, hk, h2⟩
  | y :: ys, c, n + 1, ⟨a, b, e, h1, h2⟩ => by subst e; exact ⟨a, b.set n u, rfl, h1, CsN.set hk n h2⟩
theorem IsN.one {w : World} {S : Nat → Prop} {k : N} {u : Value} (h : IsN w S k u) : u.oneCell' = true := by
  cases k with
  | leaf l => obtain ⟨A, cap, rfl, _⟩ := h.leaf_eq; rfl
  | branch ks => obtain ⟨b, rfl, _⟩ := h.branch_eq; rfl
theorem CsN.one {w : World} {S : Nat → Prop} : ∀ {l : List N} {c : List Value}, CsN w S l c → ∀ u ∈ c, u.oneCell' = true
  | [], _, h, u, hu => by cases h; cases hu
  | x :: xs, c, ⟨a, b, e, h1, h2⟩, u, hu => by
    subst e
    rcases List.mem_cons.1 hu with rfl | hu
    · exact h1.one
    · exact CsN.one h2 u hu
theorem CsN.kc {w : World} {S : Nat → Prop} {ad : Addr} (hs : S ad.block) : ∀ {l : List N} {c : List Value} {n : Nat}, CsN w S l c → (∀ j u, c[j]? = some u → w.cell? (ad.add (n + j)) = some u) → KC w S l ad n
  | [], _, _, _, _ => by simp only [KC]
  | x :: xs, c, n, ⟨a, b, e, h1, h2⟩, h => by
    simp only [KC]
    subst e
    refine ⟨hs, ⟨a, h1, by have := h 0 a rfl; simpa using this⟩, CsN.kc hs h2 fun j u hu => ?_⟩
    rw [show n + 1 + j = n + (j + 1) by omega]
    exact h _ u (by simpa using hu)
theorem KC.cs {w : World} {S : Nat → Prop} : ∀ {l : List N} {ad : Addr} {n : Nat}, KC w S l ad n → ∃ c, CsN w S l c ∧ ∀ j u, c[j]? = some u → w.cell? (ad.add (n + j)) = some u
  | [], _, _, _ => ⟨[], rfl, fun j u h => by simp at h⟩
  | x :: xs, ad, n, h => by
    simp only [KC] at h
    obtain ⟨h1, ⟨a, h2, h3⟩, h4⟩ := h
    obtain ⟨b, h5, h6⟩ := KC.cs h4
    refine ⟨a :: b, ⟨a, b, rfl, h2, h5⟩, fun j u hu => ?_⟩
    cases j with
    | zero => simp at hu; subst hu; exact h3
    | succ j =>
      have := h6 j u (by simpa using hu)
      rwa [show n + 1 + j = n + (j + 1) by omega] at this

theorem KC.take {w : World} {S : Nat → Prop} : ∀ {l : List N} {ad : Addr} {m : Nat} (n : Nat), KC w S l ad m → KC w S (l.take n) ad m
  | [], _, _, n, h => by simpa using h
  | x :: xs, ad, m, 0, h => by simp only [List.take_zero, KC]
  | x :: xs, ad, m, n + 1, h => by
    simp only [KC, List.take_succ_cons] at h ⊢
    exact ⟨h.1, h.2.1, KC.take n h.2.2⟩
theorem KC.drop {w : World} {S : Nat → Prop} : ∀ {l : List N} {ad : Addr} {m : Nat} (n : Nat), KC w S l ad m → KC w S (l.drop n) ad (m + n)
  | [], _, _, n, h => by simp only [List.drop_nil, KC]
  | x :: xs, ad, m, 0, h => by simpa using h
  | x :: xs, ad, m, n + 1, h => by
    simp only [KC, List.drop_succ_cons] at h ⊢
    have := KC.drop n h.2.2
    rwa [show m + 1 + n = m + (n + 1) by omega] at this
theorem KC.move {w : World} {S : Nat → Prop} {p : Nat} : ∀ {l : List N} {ad : Addr} {m : Nat}, KC w S l ad (p + m) → KC w S l (ad.add p) m
  | [], _, _, _ => by simp only [KC]
  | x :: xs, ad, m, h => by
    simp only [KC] at h ⊢
    refine ⟨by rw [addr_add_block]; exact h.1, ?_, KC.move (by rw [← Nat.add_assoc]; exact h.2.2)⟩
    obtain ⟨u, h1, h2⟩ := h.2.1
    exact ⟨u, h1, by rw [addr_add_add]; exact h2⟩
/-- A slice of nodes. -/
def IsK (w : World) (S : Nat → Prop) (ks : List N) (v : Value) : Prop := ∃ A cap, v = .slice A ks.length cap ∧ ks.length ≤ cap ∧ (ks = [] ∨ ∃ ad, A = some ad ∧ KC w S ks ad 0)
theorem IsK.keep {w w' : World} {S S' : Nat → Prop} (hk : Keeps w S w' S') {ks : List N} {v : Value} (h : IsK w S ks v) : IsK w' S' ks v := by
  obtain ⟨A, cap, h1, h2, h3⟩ := h
  refine ⟨A, cap, h1, h2, ?_⟩
  rcases h3 with h3 | ⟨ad, h3, h4⟩
  · exact .inl h3
  · exact .inr ⟨ad, h3, h4.keep hk⟩
/-- A slice of nodes of the call's own. -/
def OwnN (w : World) (base : Nat) (S : Nat → Prop) (ks : List N) (v : Value) : Prop := ∃ xs, w.ownsRow base 81 1 v ks.length xs ∧ CsN w (fun b => S b ∧ some b ≠ v.ownBlock) ks xs
theorem OwnN.nil (w : World) (base : Nat) (S : Nat → Prop) : OwnN w base S [] (.slice none 0 0) := ⟨[], World.ownsRow_nil _ _ _ _, rfl⟩
theorem OwnN.keep {w w' : World} {base : Nat} {S S' : Nat → Prop} {l : List N} {v : Value} (h : OwnN w base S l v) (hk : Keeps w S w' S') (ho : ∀ k, v.ownBlock = some k → w'.heap[k]? = w.heap[k]?) : OwnN w' base S' l v := by
  obtain ⟨xs, ⟨h1, h2⟩, h3⟩ := h
  refine ⟨xs, ⟨h1, ?_⟩, h3.keep fun b hb ⟨hs, hne⟩ => ⟨⟨(hk b hb hs).1, hne⟩, (hk b hb hs).2⟩⟩
  rcases h2 with h2 | ⟨g, cap, cur, rfl, hg, hh, r⟩
  · exact .inl h2
  · exact .inr ⟨g, cap, cur, rfl, hg, by rw [ho g rfl]; exact hh, r⟩
theorem OwnN.own_lt {w : World} {base : Nat} {S : Nat → Prop} {l : List N} {v : Value} (h : OwnN w base S l v) (k : Nat) (hk : v.ownBlock = some k) : base ≤ k ∧ k < w.heap.size := by
  obtain ⟨xs, h, _⟩ := h
  exact h.lt k hk
theorem OwnN.below {w w' : World} {base : Nat} {S : Nat → Prop} {l : List N} {v : Value} (h : OwnN w base S l v) (hb : Below w.heap.size w w') : OwnN w' base S l v :=
  h.keep (Keeps.below hb) fun k hk => hb.block k (h.own_lt k hk).2
theorem OwnN.form {w : World} {base : Nat} {S : Nat → Prop} {l : List N} {v : Value} (h : OwnN w base S l v) : ∃ A cap, v = .slice A l.length cap ∧ l.length ≤ cap := by
  obtain ⟨xs, ⟨_, h⟩, _⟩ := h
  rcases h with ⟨rfl, h⟩ | ⟨g, cap, cur, rfl, _, _, h, _⟩
  · exact ⟨none, 0, by rw [h], by omega⟩
  · exact ⟨_, cap, rfl, h⟩
theorem OwnN.is {w : World} {base : Nat} {S S' : Nat → Prop} {l : List N} {v : Value} (h : OwnN w base S l v) (hs : ∀ b, S b → S' b) (hb : ∀ b, base ≤ b → S' b) : IsK w S' l v := by
  obtain ⟨xs, h1, h2⟩ := h
  have h2' : CsN w S' l xs := h2.keep (Keeps.weak fun b h => hs b h.1)
  obtain ⟨h3, h4⟩ := h1
  rcases h4 with ⟨rfl, h4⟩ | ⟨g, cap, cur, rfl, hg, hh, hc, _, _, ht⟩
  · obtain rfl : l = [] := List.eq_nil_of_length_eq_zero h4
    exact ⟨none, 0, rfl, by simp, .inl rfl⟩
  · refine ⟨_, cap, rfl, hc, .inr ⟨_, rfl, CsN.kc (hb g hg) h2' fun j u hu => ?_⟩⟩
    rw [plus0, Nat.zero_add]
    have h5 : cur.toList[j]? = some u := by
      rw [← ht] at hu
      rw [List.getElem?_take] at hu
      split at hu
      · exact hu
      · cases hu
    simp only [World.cell?, hh]
    simpa using h5
/-- A node stored into it. -/
theorem OwnN.store {w : World} {base : Nat} {S : Nat → Prop} {l : List N} {v : Value} (h : OwnN w base S l v) {i : Nat} (hi : i < l.length) {k : N} {u : Value} (hk : IsN w (fun b => S b ∧ some b ≠ v.ownBlock) k u) :
    ∃ g cap, v = .slice (some ⟨g, 0, none⟩) l.length cap ∧ base ≤ g ∧ g < w.heap.size ∧ (w.cell? ⟨g, i, none⟩).isSome = true ∧ w.frozen? ⟨g, i, none⟩ = false ∧ OwnN (w.setCell ⟨g, i, none⟩ u) base S (l.set i k) v := by
  obtain ⟨xs, ⟨h1, h2⟩, h3⟩ := h
  rcases h2 with ⟨rfl, h2⟩ | ⟨g, cap, cur, rfl, hg, hh, hc, hm, hs, ht⟩
  · omega
  · have hlt := (Array.getElem?_eq_some_iff.1 hh).1
    refine ⟨g, cap, rfl, hg, hlt, ?_, free4 hh i, xs.set i u, ⟨?_, .inr ⟨g, cap, cur.setIfInBounds i u, ?_, hg, blockset hh i u, ?_, hm, by simpa using hs, ?_⟩⟩, ?_⟩
    · simp only [World.cell?, hh]
      have : i < cur.size := by omega
      simp [this]
    · simpa using h1
    · simp
    · simpa using hc
    · rw [← ht]
      simp [List.take_set]
    · have hK : Keeps w (fun b => S b ∧ some b ≠ (Value.slice (some ⟨g, 0, none⟩) l.length cap).ownBlock) (w.setCell ⟨g, i, none⟩ u) (fun b => S b ∧ some b ≠ (Value.slice (some ⟨g, 0, none⟩) l.length cap).ownBlock) := Keeps.set (fun h => h.2 rfl) u
      exact (CsN.set hk i h3).keep hK
end Go.Proofs.YtaeldfnihocljaaDoor

/- Copies of values in memory of their own. -/
set_option linter.unusedVariables false
set_option linter.unusedSimpArgs false
namespace Go.Proofs.YtaeldfnihocljaaDoor
open Go.RowKit
attribute [local go_sem] lt_succ_of

theorem infoV : (Tryd.prog.info? 31).map (fun i => (i.zero, i.size, i.bytes)) = some (some (.agg #[.int .i64 0, .int .i64 0, .string ⟨#[]⟩, .slice none 0 0]), 4, 56) := by kernel_rfl
/-- The cells that make lays. -/
def zs (n : Nat) : List Value := (madeCells #[.int .i64 0, .int .i64 0, .string ⟨#[]⟩, .slice none 0 0] (n * 4)).toList
theorem zs_length (n : Nat) : (zs n).length = n * 4 := by unfold zs; rw [Array.length_toList, size_madeCells]
theorem make_run (n : Nat) (hn : n ≤ 4294967296) (W : World) :
    (Instr.makeSlice 22 (.int .i64 (n : Int)) (.int .i64 (n : Int))).run Tryd.prog W = .ok (.slice (some ⟨W.heap.size, 0, none⟩) n n) (W.alloc (.cells (zs n).toArray 31)) := by
  obtain ⟨i, hi, hz0, hz1, hz2⟩ := info_parts infoV
  have h := run_make (P := Tryd.prog) W 22 31 i _ Tryd.underlying22 hi hz0 .i64 .i64 (n : Int) (n : Int) (by omega) (by omega) (by rw [hz2]; omega) (by omega)
  rw [h, hz1]
  simp only [Int.toNat_natCast, zs, Value.cells, Array.toArray_toList]
theorem VC.cells {w : World} {S : Nat → Prop} {x : V} {c : List Value} (h : VC w S x c) : ∃ A cap, c = [.int .i64 x.kind, .int .i64 x.num, .string x.text, .slice A x.items.length cap] := by
  obtain ⟨_, A, cap, h, _⟩ := h.eq
  exact ⟨A, cap, h⟩

/-- Copies: of values whose size is below n. -/
def OwnAt (n : Nat) : Prop := ∀ (x : V), V.size x < n → ∀ (vx : Value) (w : World) (S : Nat → Prop) (hx : IsV w S x vx),
    Calls Tryd.prog 48 #[vx] w fun e w' => ∃ v, e = .returned v ∧ IsV w' (fun b => w.heap.size ≤ b) x v ∧ Below w.heap.size w w'
set_option maxHeartbeats 1000000 in
set_option maxRecDepth 100000 in
theorem owns_step (n : Nat) (ih : OwnAt n) (l : List V) (hn : ∀ x ∈ l, V.size x < n) (vl : Value) (w : World) (S : Nat → Prop) (hl : IsS w S l vl) :
    Calls Tryd.prog 44 #[vl] w fun e w' => ∃ v, e = .returned v ∧ IsS w' (fun b => w.heap.size ≤ b) l v ∧ Below w.heap.size w w' := by
  obtain ⟨A, ca, rfl, hca, hla, hA⟩ := hl
  have IH := Lib.hid ih
  have HN := Lib.hid hn
  clear ih hn
  by_cases h0 : l.length = 0
  · obtain rfl : l = [] := List.eq_nil_of_length_eq_zero h0
    clear IH HN
    simp only [List.length_nil]
    go_enter Tryd.func44, Tryd.ntmps44
    go_wp2_with fail
    go_ret
    exact ⟨_, rfl, ⟨none, 0, rfl, by simp, by simp, .inl rfl⟩, Below.refl _ _⟩
  · have h1 : ((l.length : Int) == 0) = false := by simpa using h0
    have hmk := make_run l.length hla
    obtain ⟨w1, hw1, hB1, hsz, hb0⟩ : ∃ w1, w.alloc (.cells (zs l.length).toArray 31) = w1 ∧ Below w.heap.size w w1 ∧ w.heap.size < w1.heap.size ∧ w1.heap[w.heap.size]? = some (.cells (zs l.length).toArray 31 (0, 0)) :=
      ⟨_, rfl, (Below.refl _ _).alloc (Nat.le_refl _) _, by simp, heap_alloc_new w _⟩
    go_enter Tryd.func44, Tryd.ntmps44
    go_wp2_with fail
    have hw1 := Lib.hid hw1
    have H0 := Lib.hid h0
    clear h0 h1 hmk
    go_loopw [14] (fun v wr => ∃ (i : Nat) (p q : List Value), v = .int .i64 i ∧ i ≤ l.length ∧ Hid (wr.heap[w.heap.size]? = some (.cells (p ++ q).toArray 31 (0, 0))) ∧ Hid (CsL wr (fun b => w.heap.size < b) (l.take i) p) ∧ Hid (p.length = i * 4) ∧ Hid (q.length = (l.length - i) * 4) ∧ Below w.heap.size w wr) (fun v _ => l.length - (intOf v).toNat)
    case atStart => exact ⟨0, [], zs l.length, rfl, by omega, Lib.hid (by simpa using hb0), Lib.hid (by rw [List.take_zero]; rfl), Lib.hid rfl, Lib.hid (by rw [zs_length]; omega), hB1⟩
    case round =>
      obtain ⟨i, p, q, rfl, hi, hblk, hcs, hp, hq, hf⟩ := hrel
      have hA' := hA.below hf
      clear hA
      by_cases hlt : i < l.length
      · obtain ⟨ad, A1, cap1, rfl, hla', hbd, f0, f1, f2, f3, hcap, hLA⟩ := hA'.at i hlt
        have hX := IsV.mk hbd hcap hLA
        have HK := Lib.hid fun (w' : World) (hb' : Below wr.heap.size wr w') => IH.out _ (HN.out _ (itemAt_mem hlt)) _ w' S (hX.below hb')
        obtain ⟨a, b, c, d, r, rfl, hr⟩ := split4 hq.out (by omega)
        have hpl := plus0 w.heap.size
        go_wp2_with (go_at_call 48; refine (HK.out _ ((Below.refl _ _).alloc (Nat.le_refl _) _)).mono ?_; rintro e w3 ⟨v, rfl, hv, hb3⟩; obtain ⟨hbv, A2, cap2, rfl, hc2, hLA2⟩ := hv.eq; have hb4 := below_then ((Below.refl _ _).alloc (Nat.le_refl _) _) (by simp) hb3; have hk3 := Lib.hid (blockB hb4 hblk.out); obtain ⟨g0, g1, g2, g3⟩ := cells4 hk3.out hp.out; have hfz := free4 hk3.out)
        go_roundw
        case rel =>
          have hsz' := hf.size
          refine ⟨i + 1, p ++ [.int .i64 (itemAt l i).kind, .int .i64 (itemAt l i).num, .string (itemAt l i).text, .slice A2 (itemAt l i).items.length cap2], r, by go_num, by omega, Lib.hid ?_, Lib.hid ?_, Lib.hid ?_, Lib.hid ?_, ?_⟩
          · have := block4set hk3.out hp.out (.int .i64 (itemAt l i).kind) (.int .i64 (itemAt l i).num) (.string (itemAt l i).text) (.slice A2 (itemAt l i).items.length cap2)
            simpa using this
          · rw [itemAt_take hlt]
            have hns : ∀ j, ¬ (fun b => w.heap.size < b) (⟨w.heap.size, j, none⟩ : Addr).block := fun j h => absurd h (Nat.lt_irrefl _)
            have hK : Keeps w3 (fun b => w.heap.size < b) _ _ := (((Keeps.set (hns (i * 4)) (.int .i64 (itemAt l i).kind)).trans (Keeps.set (hns (i * 4 + 1)) (.int .i64 (itemAt l i).num))).trans (Keeps.set (hns (i * 4 + 2)) (.string (itemAt l i).text))).trans (Keeps.set (hns (i * 4 + 3)) (.slice A2 (itemAt l i).items.length cap2))
            refine CsL.snoc ((hcs.out.keep (Keeps.below hb4)).keep hK) ?_
            exact VC.mk hbv hc2 (hLA2.keep ((Keeps.weak fun b (h : (wr.alloc _).heap.size ≤ b) => show w.heap.size < b by rw [World.size_alloc] at h; omega).trans hK))
          · simp [hp.out]; omega
          · rw [hr]
            congr 1
          · exact (((( below_then hf hf.size hb4).setCell (Nat.le_refl _) _).setCell (Nat.le_refl _) _).setCell (Nat.le_refl _) _).setCell (Nat.le_refl _) _
        case measure => simp [intOf]; omega
      · have he : i = l.length := by omega
        subst he
        have H : LA wr (fun b => w.heap.size ≤ b) l (some ⟨w.heap.size, 0, none⟩) := by
          have h1 := hcs.out.keep (Keeps.weak (S' := fun b => w.heap.size ≤ b) fun b h => Nat.le_of_lt h)
          rw [List.take_length] at h1
          exact h1.la_more hblk.out (Nat.le_refl _)
        have H := Lib.hid H
        go_wp2_with fail
        go_ret
        exact ⟨_, rfl, ⟨_, _, rfl, Nat.le_refl _, hla, H.out⟩, hf⟩
set_option maxRecDepth 100000 in
theorem own_step (n : Nat) (ih : OwnAt n) : OwnAt (n + 1) := by
  intro x hn vx w S hx
  obtain ⟨hbx, A, ca, rfl, hca, hA⟩ := hx.eq
  have hO : ∀ w', Below w.heap.size w w' → Calls Tryd.prog 44 #[.slice A x.items.length ca] w' fun e w'' => ∃ v, e = .returned v ∧ IsS w'' (fun b => w'.heap.size ≤ b) x.items v ∧ Below w'.heap.size w' w'' :=
    fun w' hb => owns_step n ih x.items (fun y hy => by have := V.size_items hy; omega) _ w' S (IsV.items hbx hca (hA.below hb))
  have HO := Lib.hid hO
  clear hO ih hx hA
  obtain ⟨w1, hw1, hB1, hsz, hb0, hb1⟩ := boxes2 w (.int .i64 x.kind) (.int .i64 x.num) (.string x.text) (.slice A x.items.length ca) (.int .i64 0) (.int .i64 0) (.string ⟨#[]⟩) (.slice none 0 0) 31
  obtain ⟨a0, a1, a2, a3⟩ := block4 hb0
  obtain ⟨e0, e1, e2, e3⟩ := block4 hb1
  have HB0 := Lib.hid hb0
  have HB1 := Lib.hid hb1
  clear hb0 hb1
  go_enter Tryd.func48, Tryd.ntmps48
  go_wp2_with (go_at_call 44; refine (HO.out _ hB1).mono ?_; rintro e w2 ⟨v, rfl, hv, hb2⟩; obtain ⟨A2, cap2, rfl, hc2, hl2, hLA2⟩ := hv; have a0' := cellB hb2 a0; have a1' := cellB hb2 a1; have a2' := cellB hb2 a2; have a3' := cellB hb2 a3; have e0' := cellB hb2 e0; have e1' := cellB hb2 e1; have e2' := cellB hb2 e2; have e3' := cellB hb2 e3; have fz0 := free4 (blockB hb2 HB0.out); have fz1 := free4 (blockB hb2 HB1.out); clear a0 a1 a2 a3 e0 e1 e2 e3)
  refine bodyPost_ret (v := .agg #[.int .i64 x.kind, .int .i64 x.num, .string x.text, .slice A2 x.items.length cap2]) (by simp [results, Tryd.results48, go_sem, e0', e1', e2', e3']) rfl ⟨_, rfl, ?_, ?_⟩
  · have hn : ∀ b, b < w1.heap.size → ¬ (fun b => w1.heap.size ≤ b) b := fun b h (h' : w1.heap.size ≤ b) => by omega
    refine IsV.mk hbx hc2 ((LA.keep (S := fun b => w1.heap.size ≤ b) (S' := fun b => w1.heap.size ≤ b) ?_ hLA2).keep (Keeps.weak fun b (h : w1.heap.size ≤ b) => show w.heap.size ≤ b by omega))
    repeat refine Keeps.set_after ?_ (hn _ (by simp; omega)) _
    exact Keeps.refl _ _
  · repeat refine Below.setCell ?_ (by simp) _
    exact below_then hB1 hB1.size hb2
theorem own_all : ∀ n, OwnAt n
  | 0 => fun x h => absurd h (Nat.not_lt_zero _)
  | n + 1 => own_step n (own_all n)
/-- A value in memory of its own. -/
theorem own_calls (x : V) (vx : Value) (w : World) (S : Nat → Prop) (hx : IsV w S x vx) :
    Calls Tryd.prog 48 #[vx] w fun e w' => ∃ v, e = .returned v ∧ IsV w' (fun b => w.heap.size ≤ b) x v ∧ Below w.heap.size w w' := own_all _ x (Nat.lt_succ_self _) vx w S hx
theorem owns_calls (l : List V) (vl : Value) (w : World) (S : Nat → Prop) (hl : IsS w S l vl) :
    Calls Tryd.prog 44 #[vl] w fun e w' => ∃ v, e = .returned v ∧ IsS w' (fun b => w.heap.size ≤ b) l v ∧ Below w.heap.size w w' :=
  owns_step _ (own_all (V.sizes l + 1)) l (fun x hx => Nat.lt_succ_of_le (V.sizes_mem hx)) vl w S hl
end Go.Proofs.YtaeldfnihocljaaDoor

/- append to a slice of values of the call's own. -/
set_option linter.unusedVariables false
set_option linter.unusedSimpArgs false
namespace Go.Proofs.YtaeldfnihocljaaDoor
open Go.RowKit

/-- A slice of the call's own, in a block from base on; its items lie in blocks of S, none of them its own. -/
def OwnL (w : World) (base : Nat) (S : Nat → Prop) (l : List V) (v : Value) : Prop := ∃ xs, w.ownsRow base 31 4 v l.length xs ∧ CsL w (fun b => S b ∧ some b ≠ v.ownBlock) l xs
theorem OwnL.nil (w : World) (base : Nat) (S : Nat → Prop) : OwnL w base S [] (.slice none 0 0) := ⟨[], World.ownsRow_nil _ _ _ _, rfl⟩
theorem OwnL.keep {w w' : World} {base : Nat} {S S' : Nat → Prop} {l : List V} {v : Value} (h : OwnL w base S l v) (hk : Keeps w S w' S') (ho : ∀ k, v.ownBlock = some k → w'.heap[k]? = w.heap[k]?) : OwnL w' base S' l v := by
  obtain ⟨xs, ⟨h1, h2⟩, h3⟩ := h
  refine ⟨xs, ⟨h1, ?_⟩, h3.keep fun b hb ⟨hs, hne⟩ => ⟨⟨(hk b hb hs).1, hne⟩, (hk b hb hs).2⟩⟩
  rcases h2 with h2 | ⟨g, cap, cur, rfl, hg, hh, r⟩
  · exact .inl h2
  · exact .inr ⟨g, cap, cur, rfl, hg, by rw [ho g rfl]; exact hh, r⟩
theorem OwnL.own_lt {w : World} {base : Nat} {S : Nat → Prop} {l : List V} {v : Value} (h : OwnL w base S l v) (k : Nat) (hk : v.ownBlock = some k) : base ≤ k ∧ k < w.heap.size := by
  obtain ⟨xs, h, _⟩ := h
  exact h.lt k hk
theorem OwnL.below {w w' : World} {base : Nat} {S : Nat → Prop} {l : List V} {v : Value} (h : OwnL w base S l v) (hb : Below w.heap.size w w') : OwnL w' base S l v :=
  h.keep (Keeps.below hb) fun k hk => hb.block k (h.own_lt k hk).2
theorem OwnL.alloc {w : World} {base : Nat} {S : Nat → Prop} {l : List V} {v : Value} (h : OwnL w base S l v) (o : Obj) : OwnL (w.alloc o) base S l v := h.below ((Below.refl _ _).alloc (Nat.le_refl _) _)
theorem OwnL.set {w : World} {base : Nat} {S : Nat → Prop} {l : List V} {v : Value} (h : OwnL w base S l v) {p : Addr} (hp : ¬ S p.block) (hne : ∀ k, v.ownBlock = some k → k ≠ p.block) (u : Value) : OwnL (w.setCell p u) base S l v :=
  h.keep (Keeps.set hp u) fun k hk => Below.heap_setCell _ _ _ _ (hne k hk)
theorem OwnL.form {w : World} {base : Nat} {S : Nat → Prop} {l : List V} {v : Value} (h : OwnL w base S l v) : ∃ A cap, v = .slice A l.length cap ∧ l.length ≤ cap := by
  obtain ⟨xs, ⟨_, h⟩, _⟩ := h
  rcases h with ⟨rfl, h⟩ | ⟨g, cap, cur, rfl, _, _, h, _⟩
  · exact ⟨none, 0, by rw [h], by omega⟩
  · exact ⟨_, cap, rfl, h⟩
/-- It is a slice of values. -/
theorem OwnL.is {w : World} {base : Nat} {S S' : Nat → Prop} {l : List V} {v : Value} (h : OwnL w base S l v) (hs : ∀ b, S b → S' b) (hb : ∀ b, base ≤ b → S' b) (hl : l.length ≤ 4294967296) : IsS w S' l v := by
  obtain ⟨xs, h1, h2⟩ := h
  have h2' : CsL w S' l xs := h2.keep (Keeps.weak fun b h => hs b h.1)
  obtain ⟨h3, h4⟩ := h1
  rcases h4 with ⟨rfl, h4⟩ | ⟨g, cap, cur, rfl, hg, hh, hc, _, _, ht⟩
  · obtain rfl : l = [] := List.eq_nil_of_length_eq_zero h4
    exact ⟨none, 0, rfl, by simp, by simp, .inl rfl⟩
  · refine ⟨_, cap, rfl, hc, hl, .inr ⟨_, rfl, CsL.lc (hb g hg) h2' fun j u hu => ?_⟩⟩
    rw [plus0, Nat.zero_add]
    have h5 : cur.toList[j]? = some u := by
      rw [← ht] at hu
      rw [List.getElem?_take] at hu
      split at hu
      · exact hu
      · cases hu
    simp only [World.cell?, hh]
    simpa using h5

section
variable {ops : Array Oper} {rest : List Oper} {o : Oper} {a : Act} {Q : Exit → Act → World → Prop}
theorem own_after {W w1 : World} {base : Nat} {S : Nat → Prop} {l m : List V} {v v1 : Value} {xs ys : List Value} (h1 : CsL W (fun b => S b ∧ some b ≠ v.ownBlock) l xs) (h2 : CsL W (fun b => S b ∧ some b ≠ v.ownBlock) m ys)
    (hg : W.grownBy w1 v.ownBlock) (hat : v1.ownBlock = v.ownBlock ∨ v1.ownBlock = some W.heap.size) (hown : w1.ownsRow base 31 4 v1 (l.length + m.length) (xs ++ ys)) : OwnL w1 base S (l ++ m) v1 := by
  refine ⟨xs ++ ys, by rw [List.length_append]; exact hown, (h1.append h2).keep fun b hb ⟨hs, hne⟩ => ⟨⟨hs, ?_⟩, hg.block b hb hne⟩⟩
  rcases hat with hat | hat
  · rw [hat]; exact hne
  · rw [hat]
    intro e
    injection e with e
    omega
/-- append(v, x), x in the box that has just been made. -/
theorem append_one {W : World} (base : Nat) (S : Nat → Prop) (hgd : o.guard = none) (s x : Operand) (ho : o.op = .call { callee := .builtin .append, args := #[s, x], argTypes := #[22, 22] })
    (v : Value) (l : List V) (y : V) (c0 c1 c2 c3 : Value) (hs : a.eval s = v) (hx : a.eval x = .slice (some ⟨W.heap.size, 0, none⟩) 1 1) (HO : OwnL W base S l v) (hy : VC W (fun b => S b ∧ some b ≠ v.ownBlock) y [c0, c1, c2, c3])
    (hbase : base ≤ W.heap.size) (hl : l.length ≤ 4294967296)
    (h : ∀ v1 w1, OwnL w1 base S (l ++ [y]) v1 → W.grownBy w1 v.ownBlock → wpList Tryd.prog ops Q rest (a.put o.dst v1) w1) :
    wpList Tryd.prog ops Q (o :: rest) a (W.alloc (.cells #[c0, c1, c2, c3] 31)) := by
  obtain ⟨i, hi, hz0, hz1, hz2⟩ := info_parts infoV
  obtain ⟨xs, hown, hcs⟩ := HO
  refine wpList_append_own_at (W.alloc (.cells #[c0, c1, c2, c3] 31)) hgd s x 22 ho base 31 i _ 4 56 Tryd.underlying22 hi hz0 hz1 hz2 rfl (by decide) v l.length xs hs (hown.alloc _) ⟨W.heap.size, 0, none⟩ 1 1 [c0, c1, c2, c3] hx rfl
    (World.news_of_block (cs := #[c0, c1, c2, c3]) (heap_alloc_new W _)) hy.one (by simp only [maxLen]; omega) (by omega) (by simp; omega) ?_
  intro v1 w1 hown1 hg _ hat
  have hg' : W.grownBy w1 v.ownBlock := World.grownBy.trans (World.grownBy_alloc W _ _) hg
  refine h v1 w1 ?_ hg'
  have hk : Keeps W (fun b => S b ∧ some b ≠ v.ownBlock) (W.alloc (.cells #[c0, c1, c2, c3] 31)) (fun b => S b ∧ some b ≠ v.ownBlock) := Keeps.alloc _
  exact own_after (hcs.keep hk) (m := [y]) ⟨_, [], by simp, hy.keep hk, rfl⟩ hg hat hown1
/-- append(v, m...), m a slice of values. -/
theorem append_many {W : World} (base : Nat) (S : Nat → Prop) (hgd : o.guard = none) (s x : Operand) (ho : o.op = .call { callee := .builtin .append, args := #[s, x], argTypes := #[22, 22] })
    (v : Value) (l m : List V) (A : Option Addr) (cap : Nat) (hs : a.eval s = v) (hx : a.eval x = .slice A m.length cap) (HO : OwnL W base S l v) (hm : LA W (fun b => S b ∧ some b ≠ v.ownBlock) m A)
    (hbase : base ≤ W.heap.size) (hl : l.length + m.length ≤ 4294967296)
    (h : ∀ v1 w1, OwnL w1 base S (l ++ m) v1 → W.grownBy w1 v.ownBlock → wpList Tryd.prog ops Q rest (a.put o.dst v1) w1) :
    wpList Tryd.prog ops Q (o :: rest) a W := by
  obtain ⟨i, hi, hz0, hz1, hz2⟩ := info_parts infoV
  obtain ⟨xs, hown, hcs⟩ := HO
  rcases hm with rfl | ⟨ad, rfl, hm⟩
  · have hrun : (Builtin.append_ #[22, 22] o.type #[v, .slice A 0 cap]).run Tryd.prog W = .ok v W := by
      rcases hown.2 with ⟨rfl, hn⟩ | ⟨g, cap', cur, rfl, _, _, hnc, _⟩
      · cases A <;> simp [Builtin.append_, run_underlying Tryd.underlying22, sizeOf, typeInfo, hi, Builtin.lenOf, Builtin.firstCells, loadCells, loadCellsFrom]
      · cases A <;> simp [Builtin.append_, run_underlying Tryd.underlying22, sizeOf, typeInfo, hi, Builtin.lenOf, Builtin.firstCells, hnc, storeCells, loadCells, loadCellsFrom]
    refine wpList_plain hgd fun K hK => ?_
    unfold Oper.wp execOp
    simp only [ho, resolve, invoke, builtin, Sem.run_bind, Sem.run_pure, Result.andThen_ok, List.map_toArray, List.map_cons, List.map_nil, hs, hx, List.length_nil, hrun]
    exact hK _ _ (h v W (by rw [List.append_nil]; exact ⟨xs, hown, hcs⟩) (World.grownBy.refl W _))
  · obtain ⟨ys, hys, hcell⟩ := LC.cs hm
    refine wpList_append_own_at W hgd s x 22 ho base 31 i _ 4 56 Tryd.underlying22 hi hz0 hz1 hz2 rfl (by decide) v l.length xs hs hown ad m.length cap ys hx hys.length
      (fun j u hu => by simpa using hcell j u hu) hys.one (by simp only [maxLen]; omega) (by omega) hbase ?_
    intro v1 w1 hown1 hg _ hat
    exact h v1 w1 (own_after hcs hys hg hat hown1) hg
end
end Go.Proofs.YtaeldfnihocljaaDoor

/- append to slices of numbers, of nodes, of a leaf's values. -/
set_option linter.unusedVariables false
set_option linter.unusedSimpArgs false
namespace Go.Proofs.YtaeldfnihocljaaDoor
open Go.RowKit

theorem infoI : (Tryd.prog.info? 3).map (fun i => (i.zero, i.size, i.bytes)) = some (some (.int .i64 0), 1, 8) := by kernel_rfl
theorem infoN : (Tryd.prog.info? 81).map (fun i => (i.zero, i.size, i.bytes)) = some (some .nilIface, 1, 16) := by kernel_rfl
/-- A slice of numbers of the call's own. -/
def OwnI (w : World) (base : Nat) (l : List Nat) (v : Value) : Prop := w.ownsRow base 3 1 v l.length (l.map fun n => Value.int .i64 ((n : Nat) : Int))
theorem OwnI.nil (w : World) (base : Nat) : OwnI w base [] (.slice none 0 0) := World.ownsRow_nil _ _ _ _
theorem OwnI.own_lt {w : World} {base : Nat} {l : List Nat} {v : Value} (h : OwnI w base l v) (k : Nat) (hk : v.ownBlock = some k) : base ≤ k ∧ k < w.heap.size := World.ownsRow.lt h k hk
theorem OwnI.keep {w w' : World} {base : Nat} {l : List Nat} {v : Value} (h : OwnI w base l v) (ho : ∀ k, v.ownBlock = some k → w'.heap[k]? = w.heap[k]?) : OwnI w' base l v := by
  obtain ⟨h1, h2⟩ := h
  refine ⟨h1, ?_⟩
  rcases h2 with h2 | ⟨g, cap, cur, rfl, hg, hh, r⟩
  · exact .inl h2
  · exact .inr ⟨g, cap, cur, rfl, hg, by rw [ho g rfl]; exact hh, r⟩
theorem OwnI.below {w w' : World} {base : Nat} {l : List Nat} {v : Value} (h : OwnI w base l v) (hb : Below w.heap.size w w') : OwnI w' base l v := h.keep fun k hk => hb.block k (h.own_lt k hk).2
theorem OwnI.form {w : World} {base : Nat} {l : List Nat} {v : Value} (h : OwnI w base l v) : ∃ A cap, v = .slice A l.length cap ∧ l.length ≤ cap := by
  obtain ⟨_, h⟩ := h
  rcases h with ⟨rfl, h⟩ | ⟨g, cap, cur, rfl, _, _, h, _⟩
  · exact ⟨none, 0, by rw [h], by omega⟩
  · exact ⟨_, cap, rfl, h⟩
/-- The numbers in it. -/
theorem OwnI.at {w : World} {base : Nat} {l : List Nat} {v : Value} (h : OwnI w base l v) (hl : 0 < l.length) : ∃ g cap, v = .slice (some ⟨g, 0, none⟩) l.length cap ∧ l.length ≤ cap ∧ base ≤ g ∧ ∀ i, i < l.length → w.cell? ((⟨g, 0, none⟩ : Addr).add i) = some (.int .i64 (l.getD i 0 : Nat)) := by
  obtain ⟨g1, h2⟩ := h
  rcases h2 with ⟨rfl, h2⟩ | ⟨g, cap, cur, rfl, hg, hh, hc, r⟩
  · omega
  · refine ⟨g, cap, rfl, hc, hg, fun i hi => ?_⟩
    refine World.ownsRow.cells (h := (⟨g1, .inr ⟨g, cap, cur, rfl, hg, hh, hc, r⟩⟩ : w.ownsRow base 3 1 _ l.length _)) rfl i _ ?_
    simp [List.getD_eq_getElem?_getD, List.getElem?_eq_getElem hi]

section
variable {ops : Array Oper} {rest : List Oper} {o : Oper} {a : Act} {Q : Exit → Act → World → Prop}
/-- append(v, n), n in the box that has just been made. -/
theorem appendI_one {W : World} (base : Nat) (hgd : o.guard = none) (s x : Operand) (ho : o.op = .call { callee := .builtin .append, args := #[s, x], argTypes := #[91, 91] })
    (v : Value) (l : List Nat) (n : Nat) (z : Int) (hz : z = (n : Int)) (hs : a.eval s = v) (hx : a.eval x = .slice (some ⟨W.heap.size, 0, none⟩) 1 1) (HO : OwnI W base l v)
    (hbase : base ≤ W.heap.size) (hl : l.length ≤ 4294967296)
    (h : ∀ v1 w1, OwnI w1 base (l ++ [n]) v1 → W.grownBy w1 v.ownBlock → wpList Tryd.prog ops Q rest (a.put o.dst v1) w1) :
    wpList Tryd.prog ops Q (o :: rest) a (W.alloc (.cells #[.int .i64 z] 3)) := by
  subst hz
  obtain ⟨i, hi, hz0, hz1, hz2⟩ := info_parts infoI
  refine wpList_append_own_at (W.alloc (.cells #[.int .i64 (n : Int)] 3)) hgd s x 91 ho base 3 i _ 1 8 Tryd.underlying91 hi hz0 hz1 hz2 rfl (by decide) v l.length _ hs (World.ownsRow.alloc HO _) ⟨W.heap.size, 0, none⟩ 1 1 [.int .i64 (n : Int)] hx rfl
    (cell_one_new _ _ _) (by simp [Value.oneCell']) (by simp only [maxLen]; omega) (by omega) (by simp; omega) ?_
  intro v1 w1 hown1 hg _ hat
  refine h v1 w1 ?_ (World.grownBy.trans (World.grownBy_alloc W _ _) hg)
  unfold OwnI
  rw [List.length_append, List.map_append]
  exact hown1
theorem ownN_after {W w1 : World} {base : Nat} {S : Nat → Prop} {l m : List N} {v v1 : Value} {xs ys : List Value} (h1 : CsN W (fun b => S b ∧ some b ≠ v.ownBlock) l xs) (h2 : CsN W (fun b => S b ∧ some b ≠ v.ownBlock) m ys)
    (hg : W.grownBy w1 v.ownBlock) (hat : v1.ownBlock = v.ownBlock ∨ v1.ownBlock = some W.heap.size) (hown : w1.ownsRow base 81 1 v1 (l.length + m.length) (xs ++ ys)) : OwnN w1 base S (l ++ m) v1 := by
  refine ⟨xs ++ ys, by rw [List.length_append]; exact hown, (h1.append h2).keep fun b hb ⟨hs, hne⟩ => ⟨⟨hs, ?_⟩, hg.block b hb hne⟩⟩
  rcases hat with hat | hat
  · rw [hat]; exact hne
  · rw [hat]
    intro e
    injection e with e
    omega
/-- append(v, k), k in the box that has just been made. -/
theorem appendN_one {W : World} (base : Nat) (S : Nat → Prop) (hgd : o.guard = none) (s x : Operand) (ho : o.op = .call { callee := .builtin .append, args := #[s, x], argTypes := #[90, 90] })
    (v : Value) (l : List N) (k : N) (u : Value) (hs : a.eval s = v) (hx : a.eval x = .slice (some ⟨W.heap.size, 0, none⟩) 1 1) (HO : OwnN W base S l v) (hu : IsN W (fun b => S b ∧ some b ≠ v.ownBlock) k u)
    (hbase : base ≤ W.heap.size) (hl : l.length ≤ 4294967296)
    (h : ∀ v1 w1, OwnN w1 base S (l ++ [k]) v1 → W.grownBy w1 v.ownBlock → (v1.ownBlock = v.ownBlock ∨ v1.ownBlock = some W.heap.size ∨ v1.ownBlock = some (W.heap.size + 1)) → wpList Tryd.prog ops Q rest (a.put o.dst v1) w1) :
    wpList Tryd.prog ops Q (o :: rest) a (W.alloc (.cells #[u] 81)) := by
  obtain ⟨i, hi, hz0, hz1, hz2⟩ := info_parts infoN
  obtain ⟨xs, hown, hcs⟩ := HO
  refine wpList_append_own_at (W.alloc (.cells #[u] 81)) hgd s x 90 ho base 81 i _ 1 16 Tryd.underlying90 hi hz0 hz1 hz2 rfl (by decide) v l.length xs hs (hown.alloc _) ⟨W.heap.size, 0, none⟩ 1 1 [u] hx rfl
    (cell_one_new _ _ _) (by simp [hu.one]) (by simp only [maxLen]; omega) (by omega) (by simp; omega) ?_
  intro v1 w1 hown1 hg _ hat
  refine h v1 w1 ?_ (World.grownBy.trans (World.grownBy_alloc W _ _) hg) (by simpa using hat.imp id Or.inr)
  have hk : Keeps W (fun b => S b ∧ some b ≠ v.ownBlock) (W.alloc (.cells #[u] 81)) (fun b => S b ∧ some b ≠ v.ownBlock) := Keeps.alloc _
  exact ownN_after (hcs.keep hk) (m := [k]) ⟨_, [], rfl, hu.keep hk, rfl⟩ hg hat hown1
/-- append([]node(nil), m...), m not empty. -/
theorem appendN_copy {W : World} (S : Nat → Prop) (hgd : o.guard = none) (s x : Operand) (ho : o.op = .call { callee := .builtin .append, args := #[s, x], argTypes := #[90, 90] })
    (m : List N) (ad : Addr) (cap : Nat) (hs : a.eval s = .slice none 0 0) (hx : a.eval x = .slice (some ad) m.length cap) (hm : KC W S m ad 0)
    (hl : m.length ≤ 4294967296)
    (h : ∀ v1 w1, OwnN w1 W.heap.size S m v1 → W.grownBy w1 none → wpList Tryd.prog ops Q rest (a.put o.dst v1) w1) :
    wpList Tryd.prog ops Q (o :: rest) a W := by
  obtain ⟨i, hi, hz0, hz1, hz2⟩ := info_parts infoN
  obtain ⟨ys, hys, hcell⟩ := KC.cs hm
  refine wpList_append_own_at W hgd s x 90 ho W.heap.size 81 i _ 1 16 Tryd.underlying90 hi hz0 hz1 hz2 rfl (by decide) (.slice none 0 0) 0 [] hs (World.ownsRow_nil _ _ _ _) ad m.length cap ys hx (by rw [hys.length]; omega)
      (fun j u hu => by simpa using hcell j u hu) hys.one (by simp only [maxLen]; omega) (by omega) (Nat.le_refl _) ?_
  intro v1 w1 hown1 hg _ hat
  exact h v1 w1 (ownN_after (W := W) (l := []) (v := .slice none 0 0) (xs := []) rfl (hys.keep (Keeps.weak fun b hb => ⟨hb, by simp [Value.ownBlock]⟩)) hg hat hown1) hg
/-- append(ks[:n:n], k), k in the box that has just been made: a new array. -/
theorem appendN_grow {W : World} (S : Nat → Prop) (hgd : o.guard = none) (s x : Operand) (ho : o.op = .call { callee := .builtin .append, args := #[s, x], argTypes := #[90, 90] })
    (m : List N) (ad : Addr) (k : N) (u : Value) (hs : a.eval s = .slice (some ad) m.length m.length) (hx : a.eval x = .slice (some ⟨W.heap.size, 0, none⟩) 1 1) (hm : KC W S m ad 0) (hu : IsN W S k u)
    (hl : m.length ≤ 4294967296)
    (h : ∀ v1 w1, OwnN w1 W.heap.size S (m ++ [k]) v1 → W.grownBy w1 none → wpList Tryd.prog ops Q rest (a.put o.dst v1) w1) :
    wpList Tryd.prog ops Q (o :: rest) a (W.alloc (.cells #[u] 81)) := by
  obtain ⟨i, hi, hz0, hz1, hz2⟩ := info_parts infoN
  have hm' : KC (W.alloc (.cells #[u] 81)) (fun b => S b ∧ b < W.heap.size) m ad 0 := hm.keep fun b hb hs => ⟨⟨hs, hb⟩, Below.heap_alloc _ _ _ hb⟩
  have hu' : IsN (W.alloc (.cells #[u] 81)) (fun b => S b ∧ b < W.heap.size) k u := hu.keep fun b hb hs => ⟨⟨hs, hb⟩, Below.heap_alloc _ _ _ hb⟩
  obtain ⟨ys, hys, hcell⟩ := KC.cs hm'
  have hold : ∀ b, some ad = some b → ∀ j t, ys[j]? = some t → (W.alloc (.cells #[u] 81)).cell? (b.add j) = some t := by
    intro b e j t hu
    have e' := Option.some.inj e
    rw [← e']
    have := hcell j t hu
    rwa [Nat.zero_add] at this
  refine wpList_append_grows (W.alloc (.cells #[u] 81)) hgd s x 90 ho 81 i _ 1 16 Tryd.underlying90 hi hz0 hz1 hz2 rfl (by decide) (some ad) m.length m.length ys hs (by simp) (by rw [hys.length]; omega)
      hold ⟨W.heap.size, 0, none⟩ 1 1 [u] hx rfl (cell_one_new _ _ _) (by simp [hu.one]) (by omega) (by simp only [maxLen]; omega) (by omega) ?_
  intro v1 w1 hown1 hg
  have hsz : W.heap.size < (W.alloc (.cells #[u] 81)).heap.size := by simp
  have hb := World.ownsRow.lt hown1
  have hK : Keeps (W.alloc (.cells #[u] 81)) (fun b => S b ∧ b < W.heap.size) w1 (fun b => S b ∧ some b ≠ v1.ownBlock) := fun b hb1 ⟨hs, hlt⟩ => ⟨⟨hs, fun e => by have := (hb b e.symm).1; omega⟩, hg.block b hb1 (by simp)⟩
  refine h v1 w1 ⟨ys ++ [u], ?_, (hys.keep hK).append ⟨u, [], rfl, hu'.keep hK, rfl⟩⟩ (World.grownBy.trans (World.grownBy_alloc W _ _) hg)
  rw [List.length_append]
  obtain ⟨h1, h2⟩ := hown1
  refine ⟨h1, ?_⟩
  rcases h2 with h2 | ⟨g, cap, cur, h2, h3, h4⟩
  · exact .inl h2
  · exact .inr ⟨g, cap, cur, h2, by omega, h4⟩
/-- append(leaf(nil), m...), m not empty. -/
theorem appendF_copy {W : World} (S : Nat → Prop) (hgd : o.guard = none) (s x : Operand) (ho : o.op = .call { callee := .builtin .append, args := #[s, x], argTypes := #[87, 87] })
    (m : List V) (ad : Addr) (cap : Nat) (hs : a.eval s = .slice none 0 0) (hx : a.eval x = .slice (some ad) m.length cap) (hm : LC W S m ad 0)
    (hl : m.length ≤ 4294967296)
    (h : ∀ v1 w1, OwnL w1 W.heap.size S m v1 → W.grownBy w1 none → wpList Tryd.prog ops Q rest (a.put o.dst v1) w1) :
    wpList Tryd.prog ops Q (o :: rest) a W := by
  obtain ⟨i, hi, hz0, hz1, hz2⟩ := info_parts infoV
  obtain ⟨ys, hys, hcell⟩ := LC.cs hm
  refine wpList_append_own_at W hgd s x 87 ho W.heap.size 31 i _ 4 56 Tryd.underlying87 hi hz0 hz1 hz2 rfl (by decide) (.slice none 0 0) 0 [] hs (World.ownsRow_nil _ _ _ _) ad m.length cap ys hx hys.length
      (fun j u hu => by simpa using hcell j u hu) hys.one (by simp only [maxLen]; omega) (by omega) (Nat.le_refl _) ?_
  intro v1 w1 hown1 hg _ hat
  exact h v1 w1 (own_after (W := W) (l := []) (v := .slice none 0 0) (xs := []) rfl (hys.keep (Keeps.weak fun b hb => ⟨hb, by simp [Value.ownBlock]⟩)) hg hat hown1) hg
/-- append(l[:n:n], x), x in the box that has just been made: a new array. -/
theorem appendF_grow {W : World} (S : Nat → Prop) (hgd : o.guard = none) (s x : Operand) (ho : o.op = .call { callee := .builtin .append, args := #[s, x], argTypes := #[87, 87] })
    (m : List V) (ad : Addr) (y : V) (c0 c1 c2 c3 : Value) (hs : a.eval s = .slice (some ad) m.length m.length) (hx : a.eval x = .slice (some ⟨W.heap.size, 0, none⟩) 1 1) (hm : LC W S m ad 0) (hy : VC W S y [c0, c1, c2, c3])
    (hl : m.length ≤ 4294967296)
    (h : ∀ v1 w1, OwnL w1 W.heap.size S (m ++ [y]) v1 → W.grownBy w1 none → wpList Tryd.prog ops Q rest (a.put o.dst v1) w1) :
    wpList Tryd.prog ops Q (o :: rest) a (W.alloc (.cells #[c0, c1, c2, c3] 31)) := by
  obtain ⟨i, hi, hz0, hz1, hz2⟩ := info_parts infoV
  have hm' : LC (W.alloc (.cells #[c0, c1, c2, c3] 31)) (fun b => S b ∧ b < W.heap.size) m ad 0 := hm.keep fun b hb hs => ⟨⟨hs, hb⟩, Below.heap_alloc _ _ _ hb⟩
  have hy' : VC (W.alloc (.cells #[c0, c1, c2, c3] 31)) (fun b => S b ∧ b < W.heap.size) y [c0, c1, c2, c3] := hy.keep fun b hb hs => ⟨⟨hs, hb⟩, Below.heap_alloc _ _ _ hb⟩
  obtain ⟨ys, hys, hcell⟩ := LC.cs hm'
  have hold : ∀ b, some ad = some b → ∀ j t, ys[j]? = some t → (W.alloc (.cells #[c0, c1, c2, c3] 31)).cell? (b.add j) = some t := by
    intro b e j t hu
    have e' := Option.some.inj e
    rw [← e']
    have := hcell j t hu
    rwa [Nat.zero_add] at this
  refine wpList_append_grows (W.alloc (.cells #[c0, c1, c2, c3] 31)) hgd s x 87 ho 31 i _ 4 56 Tryd.underlying87 hi hz0 hz1 hz2 rfl (by decide) (some ad) m.length m.length ys hs (by simp) hys.length
      hold ⟨W.heap.size, 0, none⟩ 1 1 [c0, c1, c2, c3] hx rfl (World.news_of_block (cs := #[c0, c1, c2, c3]) (heap_alloc_new W _)) hy.one (by omega) (by simp only [maxLen]; omega) (by omega) ?_
  intro v1 w1 hown1 hg
  have hsz : W.heap.size < (W.alloc (.cells #[c0, c1, c2, c3] 31)).heap.size := by simp
  have hb := World.ownsRow.lt hown1
  have hK : Keeps (W.alloc (.cells #[c0, c1, c2, c3] 31)) (fun b => S b ∧ b < W.heap.size) w1 (fun b => S b ∧ some b ≠ v1.ownBlock) := fun b hb1 ⟨hs, hlt⟩ => ⟨⟨hs, fun e => by have := (hb b e.symm).1; omega⟩, hg.block b hb1 (by simp)⟩
  refine h v1 w1 ⟨ys ++ [c0, c1, c2, c3], ?_, (hys.keep hK).append ⟨_, [], by simp, hy'.keep hK, rfl⟩⟩ (World.grownBy.trans (World.grownBy_alloc W _ _) hg)
  rw [List.length_append]
  obtain ⟨h1, h2⟩ := hown1
  refine ⟨h1, ?_⟩
  rcases h2 with h2 | ⟨g, cap, cur, h2, h3, h4⟩
  · exact .inl h2
  · exact .inr ⟨g, cap, cur, h2, by omega, h4⟩
end
end Go.Proofs.YtaeldfnihocljaaDoor

/- Dense trees, and vectors in memory. -/
set_option linter.unusedVariables false
namespace Go.Proofs.YtaeldfnihocljaaDoor
open Go.RowKit

/-- A full tree of a height. -/
def Pf : Nat → N → Prop
  | 0, _ => False
  | 1, n => ∃ l : List V, n = .leaf l ∧ l.length = 32
  | h + 2, n => ∃ ks, n = .branch ks ∧ ks.length = 32 ∧ ∀ k, k ∈ ks → Pf (h + 1) k
/-- A dense tree: every node but the last ones is full. -/
def Dn : Nat → N → Prop
  | 0, _ => False
  | 1, n => ∃ l : List V, n = .leaf l ∧ l ≠ [] ∧ l.length ≤ 32
  | h + 2, n => ∃ ks k, n = .branch (ks ++ [k]) ∧ ks.length < 32 ∧ (∀ x, x ∈ ks → Pf (h + 1) x) ∧ Dn (h + 1) k
theorem Pf.dn : ∀ {h : Nat} {n : N}, Pf h n → Dn h n
  | 0, _, h => h
  | 1, _, h => by
    obtain ⟨l, rfl, hl⟩ := h
    exact ⟨l, rfl, by intro e; subst e; simp at hl, by omega⟩
  | h + 2, _, hp => by
    obtain ⟨ks, rfl, hl, hk⟩ := hp
    have hne : ks ≠ [] := by intro e; subst e; simp at hl
    refine ⟨ks.dropLast, ks.getLast hne, by rw [List.dropLast_concat_getLast], by simp; omega, fun x hx => hk x (List.dropLast_subset _ hx), Pf.dn (hk _ (List.getLast_mem hne))⟩
theorem Dn.ok : ∀ {h : Nat} {n : N}, Dn h n → N.Ok n
  | 0, _, h => h.elim
  | 1, _, h => by
    obtain ⟨l, rfl, h1, h2⟩ := h
    exact N.Ok.mkleaf h1 h2
  | h + 2, _, hd => by
    obtain ⟨ks, k, rfl, hl, hk, hd⟩ := hd
    refine N.Ok.mk (by simp) (by simp; omega) fun x hx => ?_
    rcases List.mem_append.1 hx with hx | hx
    · exact Dn.ok (hk x hx).dn
    · rw [List.mem_singleton] at hx
      subst hx
      exact Dn.ok hd
theorem flat_length_all {c : Nat} : ∀ {ks : List N}, (∀ k, k ∈ ks → (N.items k).length = c) → (N.flat ks).length = ks.length * c
  | [], _ => by simp [N.flat]
  | k :: ks, h => by
    rw [N.flat, List.length_append, h k (by simp), flat_length_all fun x hx => h x (List.mem_cons_of_mem _ hx), List.length_cons, Nat.succ_mul]
    omega
theorem Pf.length : ∀ {h : Nat} {n : N}, Pf h n → (N.items n).length = 32 ^ h
  | 0, _, h => h.elim
  | 1, _, h => by
    obtain ⟨l, rfl, hl⟩ := h
    simpa [N.items] using hl
  | h + 2, _, hp => by
    obtain ⟨ks, rfl, hl, hk⟩ := hp
    rw [N.items, flat_length_all fun k hk' => Pf.length (hk k hk'), hl, Nat.pow_succ (m := h + 1), Nat.mul_comm]
theorem Dn.pos : ∀ {h : Nat} {n : N}, Dn h n → 0 < (N.items n).length
  | 0, _, h => h.elim
  | 1, _, h => by
    obtain ⟨l, rfl, h1, h2⟩ := h
    simp only [N.items]
    exact List.length_pos_iff.2 h1
  | h + 2, _, hd => by
    obtain ⟨ks, k, rfl, hl, hk, hd⟩ := hd
    have := Dn.pos hd
    rw [N.items, flat_append, flat_one, List.length_append]
    omega
/-- A level of nodes. -/
def Lv (h : Nat) (ks : List N) : Prop := ∃ js k, ks = js ++ [k] ∧ (∀ x, x ∈ js → Pf h x) ∧ Dn h k
theorem Lv.ok {h : Nat} {ks : List N} (hl : Lv h ks) : ∀ k, k ∈ ks → N.Ok k := by
  obtain ⟨js, k, rfl, h1, h2⟩ := hl
  intro x hx
  rcases List.mem_append.1 hx with hx | hx
  · exact (h1 x hx).dn.ok
  · rw [List.mem_singleton] at hx
    subst hx
    exact h2.ok
theorem Lv.ne {h : Nat} {ks : List N} (hl : Lv h ks) : ks ≠ [] := by
  obtain ⟨js, k, rfl, h1, h2⟩ := hl
  simp
/-- A part of a level. -/
theorem Lv.take {h : Nat} {ks : List N} (hl : Lv h ks) {n : Nat} (hn : n < ks.length) : ∀ k, k ∈ ks.take n → Pf h k := by
  obtain ⟨js, k, rfl, h1, h2⟩ := hl
  intro x hx
  rw [List.take_append_of_le_length (by simp at hn; omega)] at hx
  exact h1 x (List.mem_of_mem_take hx)
theorem Lv.drop {h : Nat} {ks : List N} (hl : Lv h ks) {n : Nat} (hn : n < ks.length) : Lv h (ks.drop n) := by
  obtain ⟨js, k, rfl, h1, h2⟩ := hl
  rw [List.drop_append_of_le_length (by simp at hn; omega)]
  exact ⟨_, k, rfl, fun x hx => h1 x (List.mem_of_mem_drop hx), h2⟩
theorem Lv.dn {h : Nat} {ks : List N} (hl : Lv (h + 1) ks) (hn : ks.length ≤ 32) : Dn (h + 2) (.branch ks) := by
  obtain ⟨js, k, rfl, h1, h2⟩ := hl
  exact ⟨js, k, rfl, by simp at hn; omega, h1, h2⟩
theorem Dn.lv {h : Nat} {ks : List N} (hd : Dn (h + 2) (.branch ks)) : Lv (h + 1) ks ∧ ks.length ≤ 32 := by
  obtain ⟨js, k, e, h1, h2, h3⟩ := hd
  injection e with e
  subst e
  exact ⟨⟨js, k, rfl, h2, h3⟩, by simp; omega⟩
theorem Lv.snoc {h : Nat} {ks : List N} {k : N} (h1 : ∀ x, x ∈ ks → Pf h x) (h2 : Dn h k) : Lv h (ks ++ [k]) := ⟨ks, k, rfl, h1, h2⟩

/-- A vector in memory: its items, its height, its block. -/
def IsR (w : World) (S : Nat → Prop) (l : List V) (h : Nat) (b : Nat) : Prop :=
  S b ∧ w.cell? ⟨b, 1, none⟩ = some (.int .i64 (h : Int)) ∧ l.length ≤ 65536 ∧ ((l = [] ∧ h = 0 ∧ w.cell? ⟨b, 0, none⟩ = some .nilIface) ∨ ∃ n u, w.cell? ⟨b, 0, none⟩ = some u ∧ IsN w S n u ∧ N.items n = l ∧ Dn h n ∧ (h = 1 ∨ ∃ ks, n = .branch ks ∧ 2 ≤ ks.length))
theorem IsR.keep {w w' : World} {S S' : Nat → Prop} (hk : Keeps w S w' S') {l : List V} {h b : Nat} (hr : IsR w S l h b) : IsR w' S' l h b := by
  obtain ⟨h0, h1, hl, h2⟩ := hr
  have h1' := hk.cell (a := ⟨b, 1, none⟩) h0 h1
  refine ⟨h1'.1, h1'.2, hl, ?_⟩
  rcases h2 with ⟨h2, h3, h4⟩ | ⟨n, u, h2, h3, h4⟩
  · exact .inl ⟨h2, h3, (hk.cell (a := ⟨b, 0, none⟩) h0 h4).2⟩
  · exact .inr ⟨n, u, (hk.cell (a := ⟨b, 0, none⟩) h0 h2).2, h3.keep hk, h4⟩
theorem IsR.below {w w' : World} {S : Nat → Prop} (hk : Below w.heap.size w w') {l : List V} {h b : Nat} (hr : IsR w S l h b) : IsR w' S l h b := hr.keep (Keeps.below hk)
theorem IsR.at {w : World} {S : Nat → Prop} {l : List V} {h b : Nat} (hr : IsR w S l h b) : b < w.heap.size := World.block_lt_of_cell? w _ hr.2.1

/-- Blocks of S that are old, and new ones. -/
def Old (w : World) (S : Nat → Prop) : Nat → Prop := fun b => (S b ∧ b < w.heap.size) ∨ w.heap.size ≤ b
theorem old_keeps {w wr : World} {S : Nat → Prop} (hf : Below w.heap.size w wr) {v : Value} (hv : ∀ k, v.ownBlock = some k → w.heap.size ≤ k) : Keeps w (fun b => S b ∧ b < w.heap.size) wr (fun b => Old w S b ∧ some b ≠ v.ownBlock) := fun b hb ⟨hs, hlt⟩ =>
  ⟨⟨.inl ⟨hs, hlt⟩, fun e => by have := hv b e.symm; omega⟩, hf.block b hb⟩
theorem leaf_part {w : World} {T : Nat → Prop} {r : List V} {A : Option Addr} (h : LA w T r A) (n : Nat) (hn : n ≤ r.length) : IsN w T (.leaf (r.take n)) (.iface 87 (.slice A n n)) := by
  have h1 := IsN.leaf_mk (cap := n) (by rw [List.length_take]; omega) (h.take n)
  rwa [List.length_take, Nat.min_eq_left hn] at h1
/-- What over tells lies in old blocks or in new ones, none of them a slice's own. -/
theorem branch_own {w W w' : World} {S : Nat → Prop} {v : Value} {ks : List N} {b : Nat} (h : IsB w' (fun b => ((Old w S b ∧ some b ≠ v.ownBlock) ∧ b < W.heap.size) ∨ W.heap.size ≤ b) ks b) (hw : w.heap.size ≤ W.heap.size) (hv : ∀ k, v.ownBlock = some k → k < W.heap.size) : IsB w' (fun b => Old w S b ∧ some b ≠ v.ownBlock) ks b :=
  h.keep (Keeps.weak fun b hb => by
    rcases hb with hb | hb
    · exact hb.1
    · exact ⟨.inr (Nat.le_trans hw hb), fun e => by have := hv b e.symm; omega⟩)
theorem Lv.of_all {h : Nat} {ks : List N} (hk : ∀ k, k ∈ ks → Pf h k) (hne : ks ≠ []) : Lv h ks :=
  ⟨ks.dropLast, ks.getLast hne, (List.dropLast_concat_getLast hne).symm, fun x hx => hk x (List.dropLast_subset _ hx), (hk _ (List.getLast_mem hne)).dn⟩
theorem LA.drop_if {w : World} {S : Nat → Prop} {r : List V} {ad : Addr} (h : LA w S r (some ad)) (n m c : Nat) (hm : m = n * 4) (hn : 0 < m) (hc : r.length ≤ c) : LA w S (r.drop n) (if c = n then some ad else some ⟨ad.block, ad.off + m, none⟩) := by
  split
  · exact .inl (List.drop_eq_nil_of_le (by omega))
  · have := h.drop n
    have e : ad.add m = ⟨ad.block, ad.off + m, none⟩ := by
      unfold Addr.add
      rw [if_neg (by omega)]
    rw [← hm, e] at this
    exact this
theorem IsN.form {w : World} {S : Nat → Prop} {k : N} {u : Value} (h : IsN w S k u) : ∃ t x, u = .iface t x := by
  cases k with
  | leaf l => obtain ⟨A, cap, rfl, _⟩ := h.leaf_eq; exact ⟨_, _, rfl⟩
  | branch ks => obtain ⟨b, rfl, _⟩ := h.branch_eq; exact ⟨_, _, rfl⟩
/-- What a slice of nodes leads to. -/
def KA (w : World) (S : Nat → Prop) (ks : List N) (A : Option Addr) : Prop := ks = [] ∨ ∃ ad, A = some ad ∧ KC w S ks ad 0
theorem KA.keep {w w' : World} {S S' : Nat → Prop} (hk : Keeps w S w' S') {ks : List N} {A : Option Addr} (h : KA w S ks A) : KA w' S' ks A := by
  rcases h with h | ⟨ad, h1, h2⟩
  · exact .inl h
  · exact .inr ⟨ad, h1, h2.keep hk⟩
theorem KA.drop_if {w : World} {S : Nat → Prop} {r : List N} {ad : Addr} (h : KC w S r ad 0) (n c : Nat) (hn : 0 < n) (hc : r.length ≤ c) : KA w S (r.drop n) (if c = n then some ad else some ⟨ad.block, ad.off + n, none⟩) := by
  split
  · exact .inl (List.drop_eq_nil_of_le (by omega))
  · have := h.drop n
    have e : ad.add n = ⟨ad.block, ad.off + n, none⟩ := by
      unfold Addr.add
      rw [if_neg (by omega)]
    refine .inr ⟨_, rfl, ?_⟩
    rw [← e]
    exact KC.move (by simpa using this)
/-- Where a slice of the call's own has grown. -/
theorem grown_keeps {W w1 : World} {v v1 : Value} {S : Nat → Prop} (hg : W.grownBy w1 v.ownBlock) (hat : v1.ownBlock = v.ownBlock ∨ v1.ownBlock = some W.heap.size ∨ v1.ownBlock = some (W.heap.size + 1)) : Keeps W (fun b => S b ∧ some b ≠ v.ownBlock) w1 (fun b => S b ∧ some b ≠ v1.ownBlock) := fun b hb ⟨hs, hne⟩ => by
  refine ⟨⟨hs, ?_⟩, hg.block b hb hne⟩
  rcases hat with hat | hat | hat
  · rw [hat]; exact hne
  · rw [hat]
    intro e
    injection e with e
    omega
  · rw [hat]
    intro e
    injection e with e
    omega
/-- A new box for a value. -/
theorem box0 (w : World) (t : TypeId) (c0 c1 c2 c3 : Value) : ∃ w1, w.alloc (.cells #[c0, c1, c2, c3] t) = w1 ∧ Below w.heap.size w w1 ∧ w.heap.size + 1 = w1.heap.size ∧ w1.heap[w.heap.size]? = some (.cells #[c0, c1, c2, c3] t (0, 0)) :=
  ⟨_, rfl, (Below.refl _ _).alloc (Nat.le_refl _) _, by simp, heap_alloc_new w _⟩
end Go.Proofs.YtaeldfnihocljaaDoor

/- A node of a slice of the call's own. -/
set_option linter.unusedVariables false
namespace Go.Proofs.YtaeldfnihocljaaDoor
open Go.RowKit
theorem CsN.at {w : World} {S : Nat → Prop} : ∀ {l : List N} {c : List Value}, CsN w S l c → ∀ i, i < l.length → ∃ u, c[i]? = some u ∧ IsN w S (kidAt l i) u
  | [], _, _, i, hi => by simp at hi
  | x :: xs, c, ⟨a, b, e, h1, h2⟩, 0, _ => ⟨a, by rw [e]; rfl, h1⟩
  | x :: xs, c, ⟨a, b, e, h1, h2⟩, i + 1, hi => by
    obtain ⟨u, h3, h4⟩ := CsN.at h2 i (by simpa using hi)
    exact ⟨u, by rw [e]; simpa using h3, h4⟩
/-- A node of a slice of the call's own. -/
theorem OwnN.at {w : World} {base : Nat} {S : Nat → Prop} {l : List N} {v : Value} (h : OwnN w base S l v) {i : Nat} (hi : i < l.length) : ∃ g cap u, v = .slice (some ⟨g, 0, none⟩) l.length cap ∧ l.length ≤ cap ∧ base ≤ g ∧ g < w.heap.size ∧ w.cell? ⟨g, i, none⟩ = some u ∧ IsN w (fun b => S b ∧ some b ≠ v.ownBlock) (kidAt l i) u := by
  obtain ⟨xs, hown, h3⟩ := h
  obtain ⟨u, h4, h5⟩ := h3.at i hi
  have hlt := hown.lt
  obtain ⟨h1, h2⟩ := hown
  rcases h2 with ⟨rfl, h2⟩ | ⟨g, cap, cur, rfl, hg, hh, hc, r⟩
  · omega
  · refine ⟨g, cap, u, rfl, hc, hg, (hlt g rfl).2, ?_, h5⟩
    have := World.ownsRow.cells (h := (⟨h1, .inr ⟨g, cap, cur, rfl, hg, hh, hc, r⟩⟩ : w.ownsRow base 81 1 _ l.length xs)) rfl i u h4
    rwa [plus0] at this
theorem Dn.kid {h : Nat} {ks : List N} (hd : Dn (h + 2) (.branch ks)) (i : Nat) (hi : i < ks.length) : Dn (h + 1) (kidAt ks i) := by
  obtain ⟨js, k, e, h1, h2, h3⟩ := hd
  injection e with e
  have hm := kidAt_mem hi
  rw [e] at hm
  rcases List.mem_append.1 hm with hm | hm
  · rw [e]; exact (h2 _ hm).dn
  · rw [List.mem_singleton] at hm
    rw [e, hm]; exact h3
theorem itemAt_append_right {a b : List V} {i : Nat} : itemAt (a ++ b) (a.length + i) = itemAt b i := by
  unfold itemAt
  rw [List.getD_eq_getElem?_getD, List.getD_eq_getElem?_getD, List.getElem?_append_right (by omega), Nat.add_sub_cancel_left]
theorem itemAt_append_left {a b : List V} {i : Nat} (h : i < a.length) : itemAt (a ++ b) i = itemAt a i := by
  unfold itemAt
  simp [List.getD_eq_getElem?_getD, List.getElem?_append_left h]
theorem flat_split {ks : List N} {k : Nat} (hk : k < ks.length) : N.flat ks = N.flat (ks.take k) ++ (N.items (kidAt ks k) ++ N.flat (ks.drop (k + 1))) := by
  conv => lhs; rw [← List.take_append_drop k ks, kidAt_drop hk, flat_append, N.flat]
theorem itemAt_flat {ks : List N} {k j : Nat} (hk : k < ks.length) (hj : j < (N.items (kidAt ks k)).length) : itemAt (N.flat ks) (aheadN ks k + j) = itemAt (N.items (kidAt ks k)) j := by
  rw [flat_split hk]
  unfold aheadN
  rw [itemAt_append_right, itemAt_append_left hj]
theorem Dn.height {g : Nat} {ks : List N} (hd : Dn g (.branch ks)) : ∃ h, g = h + 2 := by
  match g, hd with
  | 1, hd => obtain ⟨l, e, _⟩ := hd; cases e
  | h + 2, _ => exact ⟨h, rfl⟩
end Go.Proofs.YtaeldfnihocljaaDoor

/- append that grows, as a step of a region that draws its order. -/
set_option linter.unusedVariables false
set_option linter.unusedSimpArgs false
namespace Go.Proofs.YtaeldfnihocljaaDoor
open Go.RowKit
section
variable {ops : Array Oper} {o : Oper} {a : Act} {Q : Exit → Act → World → Prop}
/-- append(ks[:n:n], k), k in the box that has just been made: a new array. -/
theorem appendN_grow_step {W : World} {K : Act → World → Prop} {E : Prop} (S : Nat → Prop) (hgd : o.guard = none) (s x : Operand) (ho : o.op = .call { callee := .builtin .append, args := #[s, x], argTypes := #[90, 90] })
    (m : List N) (ad : Addr) (k : N) (u : Value) (hs : a.eval s = .slice (some ad) m.length m.length) (hx : a.eval x = .slice (some ⟨W.heap.size, 0, none⟩) 1 1) (hm : KC W S m ad 0) (hu : IsN W S k u)
    (hl : m.length ≤ 4294967296)
    (h : ∀ v1 w1, OwnN w1 W.heap.size S (m ++ [k]) v1 → W.grownBy w1 none → K (a.put o.dst v1) w1) :
    if Region.wanted o (yielded ops a.tmps) = true then Oper.wp Tryd.prog o a (W.alloc (.cells #[u] 81)) K Q else E := by
  obtain ⟨i, hi, hz0, hz1, hz2⟩ := info_parts infoN
  have hm' : KC (W.alloc (.cells #[u] 81)) (fun b => S b ∧ b < W.heap.size) m ad 0 := hm.keep fun b hb hs => ⟨⟨hs, hb⟩, Below.heap_alloc _ _ _ hb⟩
  have hu' : IsN (W.alloc (.cells #[u] 81)) (fun b => S b ∧ b < W.heap.size) k u := hu.keep fun b hb hs => ⟨⟨hs, hb⟩, Below.heap_alloc _ _ _ hb⟩
  obtain ⟨ys, hys, hcell⟩ := KC.cs hm'
  have hold : ∀ b, some ad = some b → ∀ j t, ys[j]? = some t → (W.alloc (.cells #[u] 81)).cell? (b.add j) = some t := by
    intro b e j t hu
    have e' := Option.some.inj e
    rw [← e']
    have := hcell j t hu
    rwa [Nat.zero_add] at this
  refine step_append_grows hgd s x 90 ho 81 i _ 1 16 Tryd.underlying90 hi hz0 hz1 hz2 rfl (by decide) (some ad) m.length m.length ys hs (by simp) (by rw [hys.length]; omega)
      hold ⟨W.heap.size, 0, none⟩ 1 1 [u] hx rfl (cell_one_new _ _ _) (by simp [hu.one]) (by omega) (by simp only [maxLen]; omega) (by omega) ?_
  intro v1 w1 hown1 hg
  have hsz : W.heap.size < (W.alloc (.cells #[u] 81)).heap.size := by simp
  have hb := World.ownsRow.lt hown1
  have hK : Keeps (W.alloc (.cells #[u] 81)) (fun b => S b ∧ b < W.heap.size) w1 (fun b => S b ∧ some b ≠ v1.ownBlock) := fun b hb1 ⟨hs, hlt⟩ => ⟨⟨hs, fun e => by have := (hb b e.symm).1; omega⟩, hg.block b hb1 (by simp)⟩
  refine h v1 w1 ⟨ys ++ [u], ?_, (hys.keep hK).append ⟨u, [], rfl, hu'.keep hK, rfl⟩⟩ (World.grownBy.trans (World.grownBy_alloc W _ _) hg)
  rw [List.length_append]
  obtain ⟨h1, h2⟩ := hown1
  refine ⟨h1, ?_⟩
  rcases h2 with h2 | ⟨g, cap, cur, h2, h3, h4⟩
  · exact .inl h2
  · exact .inr ⟨g, cap, cur, h2, by omega, h4⟩
/-- append(l[:n:n], x), x in the box that has just been made: a new array. -/
theorem appendF_grow_step {W : World} {K : Act → World → Prop} {E : Prop} (S : Nat → Prop) (hgd : o.guard = none) (s x : Operand) (ho : o.op = .call { callee := .builtin .append, args := #[s, x], argTypes := #[87, 87] })
    (m : List V) (ad : Addr) (y : V) (c0 c1 c2 c3 : Value) (hs : a.eval s = .slice (some ad) m.length m.length) (hx : a.eval x = .slice (some ⟨W.heap.size, 0, none⟩) 1 1) (hm : LC W S m ad 0) (hy : VC W S y [c0, c1, c2, c3])
    (hl : m.length ≤ 4294967296)
    (h : ∀ v1 w1, OwnL w1 W.heap.size S (m ++ [y]) v1 → W.grownBy w1 none → K (a.put o.dst v1) w1) :
    if Region.wanted o (yielded ops a.tmps) = true then Oper.wp Tryd.prog o a (W.alloc (.cells #[c0, c1, c2, c3] 31)) K Q else E := by
  obtain ⟨i, hi, hz0, hz1, hz2⟩ := info_parts infoV
  have hm' : LC (W.alloc (.cells #[c0, c1, c2, c3] 31)) (fun b => S b ∧ b < W.heap.size) m ad 0 := hm.keep fun b hb hs => ⟨⟨hs, hb⟩, Below.heap_alloc _ _ _ hb⟩
  have hy' : VC (W.alloc (.cells #[c0, c1, c2, c3] 31)) (fun b => S b ∧ b < W.heap.size) y [c0, c1, c2, c3] := hy.keep fun b hb hs => ⟨⟨hs, hb⟩, Below.heap_alloc _ _ _ hb⟩
  obtain ⟨ys, hys, hcell⟩ := LC.cs hm'
  have hold : ∀ b, some ad = some b → ∀ j t, ys[j]? = some t → (W.alloc (.cells #[c0, c1, c2, c3] 31)).cell? (b.add j) = some t := by
    intro b e j t hu
    have e' := Option.some.inj e
    rw [← e']
    have := hcell j t hu
    rwa [Nat.zero_add] at this
  refine step_append_grows hgd s x 87 ho 31 i _ 4 56 Tryd.underlying87 hi hz0 hz1 hz2 rfl (by decide) (some ad) m.length m.length ys hs (by simp) hys.length
      hold ⟨W.heap.size, 0, none⟩ 1 1 [c0, c1, c2, c3] hx rfl (World.news_of_block (cs := #[c0, c1, c2, c3]) (heap_alloc_new W _)) hy.one (by omega) (by simp only [maxLen]; omega) (by omega) ?_
  intro v1 w1 hown1 hg
  have hsz : W.heap.size < (W.alloc (.cells #[c0, c1, c2, c3] 31)).heap.size := by simp
  have hb := World.ownsRow.lt hown1
  have hK : Keeps (W.alloc (.cells #[c0, c1, c2, c3] 31)) (fun b => S b ∧ b < W.heap.size) w1 (fun b => S b ∧ some b ≠ v1.ownBlock) := fun b hb1 ⟨hs, hlt⟩ => ⟨⟨hs, fun e => by have := (hb b e.symm).1; omega⟩, hg.block b hb1 (by simp)⟩
  refine h v1 w1 ⟨ys ++ [c0, c1, c2, c3], ?_, (hys.keep hK).append ⟨_, [], by simp, hy'.keep hK, rfl⟩⟩ (World.grownBy.trans (World.grownBy_alloc W _ _) hg)
  rw [List.length_append]
  obtain ⟨h1, h2⟩ := hown1
  refine ⟨h1, ?_⟩
  rcases h2 with h2 | ⟨g, cap, cur, h2, h3, h4⟩
  · exact .inl h2
  · exact .inr ⟨g, cap, cur, h2, by omega, h4⟩
end
end Go.Proofs.YtaeldfnihocljaaDoor

/- Steps as data, and how a slice of them lies in memory. -/
set_option linter.unusedVariables false
namespace Go.Proofs.YtaeldfnihocljaaDoor
open Go.RowKit

/-- A step: its kind, its place, its value. -/
structure St where
  kind : Int
  at_ : Int
  val : V
instance : Inhabited St := ⟨⟨0, 0, V.zero⟩⟩
structure St.Bd (x : St) : Prop where
  k0 : -9223372036854775808 ≤ x.kind
  k1 : x.kind ≤ 9223372036854775807
  a0 : -9223372036854775808 ≤ x.at_
  a1 : x.at_ ≤ 9223372036854775807
/-- The six cells of a step. -/
def SC (w : World) (S : Nat → Prop) (x : St) (c : List Value) : Prop := St.Bd x ∧ ∃ d, VC w S x.val d ∧ c = .int .i64 x.kind :: .int .i64 x.at_ :: d
theorem SC.keep {w w' : World} {S S' : Nat → Prop} (hk : Keeps w S w' S') {x : St} {c : List Value} (h : SC w S x c) : SC w' S' x c := by
  obtain ⟨h0, d, h1, h2⟩ := h
  exact ⟨h0, d, h1.keep hk, h2⟩
/-- Steps in an array, the first of them at ad. -/
def LT (w : World) (S : Nat → Prop) (l : List St) (ad : Addr) : Prop := ∀ i x, l[i]? = some x → S ad.block ∧ ∃ c, SC w S x c ∧ ∀ j u, c[j]? = some u → w.cell? (ad.add (i * 6 + j)) = some u
theorem LT.keep {w w' : World} {S S' : Nat → Prop} (hk : Keeps w S w' S') {l : List St} {ad : Addr} (h : LT w S l ad) : LT w' S' l ad := by
  intro i x hx
  obtain ⟨hs, c, h1, h2⟩ := h i x hx
  have h0 : 0 < c.length := by
    obtain ⟨_, d, _, rfl⟩ := h1
    simp
  have h3 := hk.cell (a := ad.add (i * 6 + 0)) (by rw [addr_add_block]; exact hs) (h2 0 _ (List.getElem?_eq_getElem h0))
  rw [addr_add_block] at h3
  refine ⟨h3.1, c, h1.keep hk, fun j u hu => ?_⟩
  exact (hk.cell (a := ad.add (i * 6 + j)) (by rw [addr_add_block]; exact hs) (h2 j u hu)).2
/-- A slice of steps. -/
def IsT (w : World) (S : Nat → Prop) (l : List St) (v : Value) : Prop := ∃ A cap, v = .slice A l.length cap ∧ l.length ≤ cap ∧ l.length ≤ 4294967296 ∧ (l = [] ∨ ∃ ad, A = some ad ∧ LT w S l ad)
theorem IsT.keep {w w' : World} {S S' : Nat → Prop} (hk : Keeps w S w' S') {l : List St} {v : Value} (h : IsT w S l v) : IsT w' S' l v := by
  obtain ⟨A, cap, h1, h2, h3, h4⟩ := h
  refine ⟨A, cap, h1, h2, h3, ?_⟩
  rcases h4 with h4 | ⟨ad, h4, h5⟩
  · exact .inl h4
  · exact .inr ⟨ad, h4, h5.keep hk⟩
theorem IsT.below {w w' : World} {S : Nat → Prop} (hk : Below w.heap.size w w') {l : List St} {v : Value} (h : IsT w S l v) : IsT w' S l v := h.keep (Keeps.below hk)
def stepAt (l : List St) (i : Nat) : St := l.getD i default
theorem stepAt_get {l : List St} {i : Nat} (h : i < l.length) : l[i]? = some (stepAt l i) := by
  simp [stepAt, List.getD_eq_getElem?_getD, List.getElem?_eq_getElem h]
/-- What the walk wants of a step in a slice: its six cells. -/
theorem IsT.at {w : World} {S : Nat → Prop} {l : List St} {A : Option Addr} {cap : Nat} (h : IsT w S l (.slice A l.length cap)) (i : Nat) (hi : i < l.length) :
    ∃ ad A' c', A = some ad ∧ (ad.add (i * 6)).block < w.heap.size ∧ St.Bd (stepAt l i) ∧ w.cell? (ad.add (i * 6)) = some (.int .i64 (stepAt l i).kind) ∧ w.cell? ⟨(ad.add (i * 6)).block, (ad.add (i * 6)).off + 1, none⟩ = some (.int .i64 (stepAt l i).at_) ∧
      w.cell? ⟨(ad.add (i * 6)).block, (ad.add (i * 6)).off + 2, none⟩ = some (.int .i64 (stepAt l i).val.kind) ∧ w.cell? ⟨(ad.add (i * 6)).block, (ad.add (i * 6)).off + 3, none⟩ = some (.int .i64 (stepAt l i).val.num) ∧
      w.cell? ⟨(ad.add (i * 6)).block, (ad.add (i * 6)).off + 4, none⟩ = some (.string (stepAt l i).val.text) ∧ w.cell? ⟨(ad.add (i * 6)).block, (ad.add (i * 6)).off + 5, none⟩ = some (.slice A' (stepAt l i).val.items.length c') ∧
      IsV w S (stepAt l i).val (.agg #[.int .i64 (stepAt l i).val.kind, .int .i64 (stepAt l i).val.num, .string (stepAt l i).val.text, .slice A' (stepAt l i).val.items.length c']) := by
  obtain ⟨A0, c0, e, _, _, h⟩ := h
  simp only [Value.slice.injEq, true_and] at e
  obtain ⟨rfl, rfl⟩ := e
  rcases h with rfl | ⟨ad, rfl, h⟩
  · simp at hi
  obtain ⟨hs, c, ⟨hb, d, hv, rfl⟩, hc⟩ := h i _ (stepAt_get hi)
  obtain ⟨hbd, A', cap', rfl, h1, h2⟩ := hv.eq
  have g0 := hc 0 _ rfl
  have g1 := hc 1 _ rfl
  have g2 := hc 2 _ rfl
  have g3 := hc 3 _ rfl
  have g4 := hc 4 _ rfl
  have g5 := hc 5 _ rfl
  rw [Nat.add_zero] at g0
  rw [addr_add_field _ _ _ (by omega)] at g1 g2 g3 g4 g5
  exact ⟨ad, A', cap', rfl, World.block_lt_of_cell? w _ g0, hb, g0, g1, g2, g3, g4, g5, IsV.mk hbd h1 h2⟩
end Go.Proofs.YtaeldfnihocljaaDoor
