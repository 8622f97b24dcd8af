/- What the proofs of this seat have in common: values as trees, and how they lie in memory. No program in sight. What the value layer computes, as plain functions on trees: order, right values. Arrays of the call's own: cells that stand for values, stores into them. Copies of values in memory of their own. append to a slice of values of the call's own. What changes when one thing is changed. -/
import Derived.WalkKit
import Derived.WalkSpells
import Derived.WalkLawsBesides
import Derived.Laws.AppendOwn
import Derived.Lib.Hide
import Derived.Lib.Bytealg
import Derived.Laws.MakeOwn
import Derived.Test.YtmnblgaefdahhaaGreatDoorProg
import Derived.Deep.QuietTactic
import Derived.BigQuiet
import Derived.StillTailTactics
import Derived.Maps.AppendAt
import Derived.Deep.AppendLies
/- What the proofs of this seat have in common: values as trees, and how they lie in memory. No program in sight. -/
set_option linter.unusedVariables false
namespace Go.Proofs.YtmnblgaefdahhaaGreatDoor
open Go.RowKit

theorem ret_i {a b : Int} (h : a = b) : Ending.returned (.int .i64 a) = .returned (.int .i64 b) := by rw [h]
theorem ret_b {a b : Bool} (h : a = b) : Ending.returned (.bool a) = .returned (.bool b) := by rw [h]

/-- A value: its kind, number, text, items. -/
inductive V where
  | mk (k n : Int) (t : ByteArray) (l : List V)
namespace V
def kind : V → Int | .mk k _ _ _ => k
def num : V → Int | .mk _ n _ _ => n
def text : V → ByteArray | .mk _ _ t _ => t
def items : V → List V | .mk _ _ _ l => l
theorem eta : ∀ x : V, V.mk x.kind x.num x.text x.items = x | .mk _ _ _ _ => rfl
/-- The zero value. -/
def zero : V := .mk 0 0 ⟨#[]⟩ []
end V
instance : Inhabited V := ⟨V.zero⟩

mutual
def V.size : V → Nat
  | .mk _ _ _ l => 1 + V.sizes l
def V.sizes : List V → Nat
  | [] => 0
  | x :: xs => V.size x + V.sizes xs
end
theorem V.sizes_mem {x : V} : ∀ {l : List V}, x ∈ l → V.size x ≤ V.sizes l
  | y :: l, h => by
    rcases List.mem_cons.1 h with rfl | h
    · simp only [V.sizes]; omega
    · have := V.sizes_mem h; simp only [V.sizes]; omega
theorem V.size_items {x y : V} (h : y ∈ x.items) : V.size y < V.size x := by
  cases x with
  | mk k n t l => have := V.sizes_mem h; simp only [V.size]; simp only [V.items] at this; omega
theorem V.size_pos (x : V) : 0 < V.size x := by cases x; simp only [V.size]; omega

/-- Induction: what holds of a value if it holds of its items. -/
theorem V.induct {p : V → Prop} (h : ∀ x : V, (∀ y, y ∈ x.items → p y) → p x) (x : V) : p x := by
  have key : ∀ n (x : V), V.size x < n → p x := by
    intro n
    induction n with
    | zero => intro x hx; omega
    | succ n ih => intro x hx; exact h x fun y hy => ih y (by have := V.size_items hy; omega)
  exact key _ x (Nat.lt_succ_self _)

/-- Bounds that every value in memory has. -/
structure V.Bd (x : V) : Prop where
  k0 : -9223372036854775808 ≤ x.kind
  k1 : x.kind ≤ 9223372036854775807
  n0 : -9223372036854775808 ≤ x.num
  n1 : x.num ≤ 9223372036854775807
  t1 : x.text.size ≤ 140737488355328
  l1 : x.items.length ≤ 4294967296

mutual
/-- The four cells of a value; what its items' slice leads to lies in blocks of S. -/
def VC (w : World) (S : Nat → Prop) : V → List Value → Prop
  | .mk k n t l, c => V.Bd (.mk k n t l) ∧ ∃ A cap, c = [.int .i64 k, .int .i64 n, .string t, .slice A l.length cap] ∧ l.length ≤ cap ∧ (l = [] ∨ ∃ ad, A = some ad ∧ LC w S l ad 0)
/-- Values one behind the other from cell n on. -/
def LC (w : World) (S : Nat → Prop) : List V → Addr → Nat → Prop
  | [], _, _ => True
  | x :: xs, ad, n => S ad.block ∧ (∃ c, VC w S x c ∧ ∀ j u, c[j]? = some u → w.cell? (ad.add (n + j)) = some u) ∧ LC w S xs ad (n + 4)
end
/-- What a slice of values leads to. -/
def LA (w : World) (S : Nat → Prop) (l : List V) (A : Option Addr) : Prop := l = [] ∨ ∃ ad, A = some ad ∧ LC w S l ad 0
/-- A value as an aggregate. -/
def IsV (w : World) (S : Nat → Prop) (x : V) (v : Value) : Prop := ∃ c, VC w S x c ∧ v = .agg c.toArray
/-- A slice of values. -/
def IsS (w : World) (S : Nat → Prop) (l : List V) (v : Value) : Prop := ∃ A cap, v = .slice A l.length cap ∧ l.length ≤ cap ∧ l.length ≤ 4294967296 ∧ LA w S l A

theorem VC.eq {w : World} {S : Nat → Prop} {x : V} {c : List Value} (h : VC w S x c) : V.Bd x ∧ ∃ A cap, c = [.int .i64 x.kind, .int .i64 x.num, .string x.text, .slice A x.items.length cap] ∧ x.items.length ≤ cap ∧ LA w S x.items A := by
  cases x with
  | mk k n t l =>
    simp only [VC] at h
    exact h
theorem VC.mk {w : World} {S : Nat → Prop} {x : V} {A : Option Addr} {cap : Nat} (hb : V.Bd x) (hc : x.items.length ≤ cap) (h : LA w S x.items A) : VC w S x [.int .i64 x.kind, .int .i64 x.num, .string x.text, .slice A x.items.length cap] := by
  cases x with
  | mk k n t l =>
    simp only [VC]
    exact ⟨hb, A, cap, rfl, hc, h⟩
theorem IsV.eq {w : World} {S : Nat → Prop} {x : V} {v : Value} (h : IsV w S x v) : V.Bd x ∧ ∃ A cap, v = .agg #[.int .i64 x.kind, .int .i64 x.num, .string x.text, .slice A x.items.length cap] ∧ x.items.length ≤ cap ∧ LA w S x.items A := by
  obtain ⟨c, hc, rfl⟩ := h
  obtain ⟨hb, A, cap, rfl, h1, h2⟩ := hc.eq
  exact ⟨hb, A, cap, rfl, h1, h2⟩
theorem IsV.mk {w : World} {S : Nat → Prop} {x : V} {A : Option Addr} {cap : Nat} (hb : V.Bd x) (hc : x.items.length ≤ cap) (h : LA w S x.items A) : IsV w S x (.agg #[.int .i64 x.kind, .int .i64 x.num, .string x.text, .slice A x.items.length cap]) :=
  ⟨_, VC.mk hb hc h, rfl⟩
theorem IsV.items {w : World} {S : Nat → Prop} {x : V} {A : Option Addr} {cap : Nat} (hb : V.Bd x) (hc : x.items.length ≤ cap) (h : LA w S x.items A) : IsS w S x.items (.slice A x.items.length cap) :=
  ⟨A, cap, rfl, hc, hb.l1, h⟩
theorem VC.length {w : World} {S : Nat → Prop} {x : V} {c : List Value} (h : VC w S x c) : c.length = 4 := by
  obtain ⟨_, A, cap, rfl, _⟩ := h.eq
  rfl
theorem VC.one {w : World} {S : Nat → Prop} {x : V} {c : List Value} (h : VC w S x c) : ∀ u ∈ c, u.oneCell' = true := by
  obtain ⟨_, A, cap, rfl, _⟩ := h.eq
  intro u hu
  simp only [List.mem_cons, List.not_mem_nil, or_false] at hu
  rcases hu with rfl | rfl | rfl | rfl <;> rfl

/-! ### Worlds that keep what is read -/
/-- Of the blocks of S that w has, w' has the same, and they are blocks of S'. -/
def Keeps (w : World) (S : Nat → Prop) (w' : World) (S' : Nat → Prop) : Prop := ∀ b, b < w.heap.size → S b → S' b ∧ w'.heap[b]? = w.heap[b]?
theorem Keeps.cell {w w' : World} {S S' : Nat → Prop} (h : Keeps w S w' S') {a : Addr} {v : Value} (hs : S a.block) (hc : w.cell? a = some v) : S' a.block ∧ w'.cell? a = some v := by
  obtain ⟨h1, h2⟩ := h a.block (World.block_lt_of_cell? w a hc) hs
  exact ⟨h1, (World.cell?_of_block (w := w) h2).trans hc⟩
theorem Keeps.refl (w : World) (S : Nat → Prop) : Keeps w S w S := fun _ _ h => ⟨h, rfl⟩
theorem Keeps.trans {w w1 w2 : World} {S S1 S2 : Nat → Prop} (h : Keeps w S w1 S1) (k : Keeps w1 S1 w2 S2) : Keeps w S w2 S2 := fun b hb hs => by
  obtain ⟨h1, h2⟩ := h b hb hs
  have hb1 : b < w1.heap.size := by
    rcases Nat.lt_or_ge b w1.heap.size with h' | h'
    · exact h'
    · rw [Array.getElem?_eq_none h', Array.getElem?_eq_getElem hb] at h2
      cases h2
  obtain ⟨k1, k2⟩ := k b hb1 h1
  exact ⟨k1, k2.trans h2⟩
theorem Keeps.below {w w' : World} {S : Nat → Prop} (h : Below w.heap.size w w') : Keeps w S w' S := fun b hb hs => ⟨hs, h.block b hb⟩
theorem Keeps.weak {w : World} {S S' : Nat → Prop} (h : ∀ b, S b → S' b) : Keeps w S w S' := fun b _ hs => ⟨h b hs, rfl⟩
theorem Keeps.below_to {w w' : World} {S S' : Nat → Prop} (h : Below w.heap.size w w') (hs : ∀ b, b < w.heap.size → S b → S' b) : Keeps w S w' S' := fun b hb h1 => ⟨hs b hb h1, h.block b hb⟩
theorem Keeps.set {w : World} {S : Nat → Prop} {p : Addr} (hp : ¬ S p.block) (u : Value) : Keeps w S (w.setCell p u) S := fun b _ hs => ⟨hs, Below.heap_setCell _ _ _ _ (fun e => hp (e ▸ hs))⟩
theorem Keeps.alloc {w : World} {S : Nat → Prop} (o : Obj) : Keeps w S (w.alloc o) S := fun b hb hs => ⟨hs, Below.heap_alloc _ _ _ hb⟩
theorem Keeps.drew {w : World} {S : Nat → Prop} : Keeps w S w.drew S := fun _ _ hs => ⟨hs, rfl⟩
theorem Keeps.drewN {w : World} {S : Nat → Prop} (n : Nat) : Keeps w S (w.drewN n) S := fun _ _ hs => ⟨hs, rfl⟩
theorem Keeps.grown {w w' : World} {S : Nat → Prop} {row : Option Nat} (h : w.grownBy w' row) (hr : ∀ k, row = some k → ¬ S k) : Keeps w S w' S := fun b hb hs => ⟨hs, h.block b hb (fun e => hr b e.symm hs)⟩

theorem Keeps.set_after {w w' : World} {S S' : Nat → Prop} (h : Keeps w S w' S') {p : Addr} (hp : ¬ S' p.block) (u : Value) : Keeps w S (w'.setCell p u) S' := h.trans (Keeps.set hp u)
theorem Keeps.alloc_after {w w' : World} {S S' : Nat → Prop} (h : Keeps w S w' S') (o : Obj) : Keeps w S (w'.alloc o) S' := h.trans (Keeps.alloc o)
theorem Keeps.drew_after {w w' : World} {S S' : Nat → Prop} (h : Keeps w S w' S') : Keeps w S w'.drew S' := h.trans Keeps.drew
theorem Keeps.below_after {w w' w2 : World} {S S' : Nat → Prop} (h : Keeps w S w' S') (hb : Below w'.heap.size w' w2) : Keeps w S w2 S' := h.trans (Keeps.below hb)

mutual
theorem VC.keep {w w' : World} {S S' : Nat → Prop} (hk : Keeps w S w' S') : ∀ {x : V} {c : List Value}, VC w S x c → VC w' S' x c
  | .mk k n t l, c, h => by
    simp only [VC] at h ⊢
    obtain ⟨hb, A, cap, hc, h1, h2⟩ := h
    refine ⟨hb, A, cap, hc, h1, ?_⟩
    rcases h2 with h2 | ⟨ad, h3, h4⟩
    · exact .inl h2
    · exact .inr ⟨ad, h3, LC.keep hk h4⟩
theorem LC.keep {w w' : World} {S S' : Nat → Prop} (hk : Keeps w S w' S') : ∀ {l : List V} {ad : Addr} {n : Nat}, LC w S l ad n → LC w' S' l ad n
  | [], _, _, _ => by simp only [LC]
  | x :: xs, ad, n, h => by
    simp only [LC] at h ⊢
    obtain ⟨h1, ⟨c, h2, h3⟩, h4⟩ := h
    have hl : 0 < c.length := by rw [h2.length]; omega
    have hs : (ad.add (n + 0)).block = ad.block := by unfold Addr.add; split <;> rfl
    refine ⟨(hk.cell (a := ad.add (n + 0)) (by rw [hs]; exact h1) (h3 0 _ (List.getElem?_eq_getElem hl))).1 |> fun h => by rwa [hs] at h, ⟨c, VC.keep hk h2, fun j u hu => ?_⟩, LC.keep hk h4⟩
    have hs' : (ad.add (n + j)).block = ad.block := by unfold Addr.add; split <;> rfl
    exact (hk.cell (by rw [hs']; exact h1) (h3 j u hu)).2
end
theorem LA.keep {w w' : World} {S S' : Nat → Prop} (hk : Keeps w S w' S') {l : List V} {A : Option Addr} (h : LA w S l A) : LA w' S' l A := by
  rcases h with h | ⟨ad, h1, h2⟩
  · exact .inl h
  · exact .inr ⟨ad, h1, h2.keep hk⟩
theorem IsV.keep {w w' : World} {S S' : Nat → Prop} (hk : Keeps w S w' S') {x : V} {v : Value} (h : IsV w S x v) : IsV w' S' x v := by
  obtain ⟨c, h1, h2⟩ := h
  exact ⟨c, h1.keep hk, h2⟩
theorem IsS.keep {w w' : World} {S S' : Nat → Prop} (hk : Keeps w S w' S') {l : List V} {v : Value} (h : IsS w S l v) : IsS w' S' l v := by
  obtain ⟨A, cap, h1, h2, h3, h4⟩ := h
  exact ⟨A, cap, h1, h2, h3, h4.keep hk⟩
theorem IsV.below {w w' : World} {S : Nat → Prop} (hk : Below w.heap.size w w') {x : V} {v : Value} (h : IsV w S x v) : IsV w' S x v := h.keep (Keeps.below hk)
theorem IsS.below {w w' : World} {S : Nat → Prop} (hk : Below w.heap.size w w') {l : List V} {v : Value} (h : IsS w S l v) : IsS w' S l v := h.keep (Keeps.below hk)
theorem LA.below {w w' : World} {S : Nat → Prop} (hk : Below w.heap.size w w') {l : List V} {A : Option Addr} (h : LA w S l A) : LA w' S l A := h.keep (Keeps.below hk)
theorem addr_add_block (ad : Addr) (n : Nat) : (ad.add n).block = ad.block := by unfold Addr.add; split <;> rfl
theorem addr_add_add (ad : Addr) (m n : Nat) : (ad.add m).add n = ad.add (m + n) := by
  unfold Addr.add
  by_cases h1 : m = 0 <;> by_cases h2 : n = 0 <;> simp [h1, h2, Nat.add_assoc]
theorem addr_add_field (ad : Addr) (m j : Nat) (hj : 0 < j) : ad.add (m + j) = ⟨(ad.add m).block, (ad.add m).off + j, none⟩ := by
  unfold Addr.add
  by_cases hm : m = 0
  · subst hm
    simp [Nat.ne_of_gt hj]
  · simp [hm, Nat.add_assoc]

theorem cellB {w w' : World} (h : Below w.heap.size w w') {a : Addr} {v : Value} (hc : w.cell? a = some v) : w'.cell? a = some v := (h.cell (World.block_lt_of_cell? w a hc)).trans hc
theorem below_undrew {w w' : World} (h : Below w.drew.heap.size w.drew w') : Below w.heap.size w w' := (Below.refl _ _).drew.trans h
theorem below_undrewN {w w' : World} {n : Nat} (h : Below (w.drewN n).heap.size (w.drewN n) w') : Below w.heap.size w w' := ⟨h.os, h.tape, h.output, h.size, h.block⟩
/-- First w to w1, then w1 to w2. -/
theorem below_then {n : Nat} {w w1 w2 : World} (h : Below n w w1) (hn : n ≤ w1.heap.size) (k : Below w1.heap.size w1 w2) : Below n w w2 := h.trans (k.mono hn)
theorem blockB {w w' : World} (h : Below w.heap.size w w') {b : Nat} {o : Obj} (hc : w.heap[b]? = some o) : w'.heap[b]? = some o := (h.block b (Array.getElem?_eq_some_iff.1 hc).1).trans hc
/-- Two arguments' boxes: the world behind them, what its cells hold. -/
theorem boxes2 (w : World) (c0 c1 c2 c3 d0 d1 d2 d3 : Value) (t : TypeId) : ∃ w1, (w.alloc (.cells #[c0, c1, c2, c3] t)).alloc (.cells #[d0, d1, d2, d3] t) = w1 ∧ Below w.heap.size w w1 ∧ w.heap.size + 1 < w1.heap.size ∧
    w1.heap[w.heap.size]? = some (.cells #[c0, c1, c2, c3] t (0, 0)) ∧ w1.heap[w.heap.size + 1]? = some (.cells #[d0, d1, d2, d3] t (0, 0)) := by
  refine ⟨_, rfl, ((Below.refl _ _).alloc (Nat.le_refl _) _).alloc (by simp) _, by simp, ?_, ?_⟩
  · rw [Below.heap_alloc _ _ _ (by simp)]
    exact heap_alloc_new w _
  · have := heap_alloc_new (w.alloc (.cells #[c0, c1, c2, c3] t)) (.cells #[d0, d1, d2, d3] t)
    simpa using this
/-- One argument's box. -/
theorem box1 (w : World) (c0 c1 c2 c3 : Value) (t : TypeId) : ∃ w1, w.alloc (.cells #[c0, c1, c2, c3] t) = w1 ∧ Below w.heap.size w w1 ∧ w.heap.size < w1.heap.size ∧ w1.heap[w.heap.size]? = some (.cells #[c0, c1, c2, c3] t (0, 0)) :=
  ⟨_, rfl, (Below.refl _ _).alloc (Nat.le_refl _) _, by simp, heap_alloc_new w _⟩
theorem block4 {w : World} {b : Nat} {c0 c1 c2 c3 : Value} {t : TypeId} (h : w.heap[b]? = some (.cells #[c0, c1, c2, c3] t (0, 0))) :
    w.cell? ⟨b, 0, none⟩ = some c0 ∧ w.cell? ⟨b, 1, none⟩ = some c1 ∧ w.cell? ⟨b, 2, none⟩ = some c2 ∧ w.cell? ⟨b, 3, none⟩ = some c3 := by
  simp [World.cell?, h]

theorem lt_succ_of (a n : Nat) (h : a < n) : (a < n + 1) = True := eq_true (Nat.lt_succ_of_lt h)

/-! ### One of the values of a slice -/
theorem LC.at {w : World} {S : Nat → Prop} : ∀ {l : List V} {ad : Addr} {n : Nat}, LC w S l ad n → ∀ (i : Nat) (x : V), l[i]? = some x → S ad.block ∧ ∃ c, VC w S x c ∧ ∀ j u, c[j]? = some u → w.cell? (ad.add (n + i * 4 + j)) = some u
  | [], _, _, _, i, x, hx => by simp at hx
  | y :: ys, ad, n, h, i, x, hx => by
    simp only [LC] at h
    obtain ⟨h1, ⟨c, h2, h3⟩, h4⟩ := h
    cases i with
    | zero =>
      simp only [List.getElem?_cons_zero, Option.some.injEq] at hx
      subst hx
      exact ⟨h1, c, h2, by simpa using h3⟩
    | succ i =>
      simp only [List.getElem?_cons_succ] at hx
      obtain ⟨h5, c', h6, h7⟩ := LC.at h4 i x hx
      refine ⟨h5, c', h6, fun j u hu => ?_⟩
      have := h7 j u hu
      rwa [show n + (i + 1) * 4 + j = n + 4 + i * 4 + j by omega]
/-- The item at a place (a plain name, which simp leaves alone). -/
def itemAt (l : List V) (i : Nat) : V := l.getD i V.zero
theorem itemAt_get {l : List V} {i : Nat} (h : i < l.length) : l[i]? = some (itemAt l i) := by
  simp [itemAt, List.getD_eq_getElem?_getD, List.getElem?_eq_getElem h]
theorem itemAt_mem {l : List V} {i : Nat} (h : i < l.length) : itemAt l i ∈ l := List.mem_of_getElem? (itemAt_get h)
theorem itemAt_drop {l : List V} {i : Nat} (h : i < l.length) : l.drop i = itemAt l i :: l.drop (i + 1) := by
  rw [List.drop_eq_getElem_cons h]
  congr 1
  have := itemAt_get h
  rw [List.getElem?_eq_getElem h] at this
  exact Option.some.inj this
theorem itemAt_take {l : List V} {i : Nat} (h : i < l.length) : l.take (i + 1) = l.take i ++ [itemAt l i] := by
  rw [List.take_succ_eq_append_getElem h]
  congr 2
  have := itemAt_get h
  rw [List.getElem?_eq_getElem h] at this
  exact Option.some.inj this
/-- What the walk wants of a slice's item: its four cells, as the walk spells them. -/
theorem LA.at {w : World} {S : Nat → Prop} {l : List V} {A : Option Addr} (h : LA w S l A) (i : Nat) (hi : i < l.length) :
    ∃ ad A' cap, A = some ad ∧ (ad.add (i * 4)).block < w.heap.size ∧ V.Bd (itemAt l i) ∧ w.cell? (ad.add (i * 4)) = some (.int .i64 (itemAt l i).kind) ∧ w.cell? ⟨(ad.add (i * 4)).block, (ad.add (i * 4)).off + 1, none⟩ = some (.int .i64 (itemAt l i).num) ∧
      w.cell? ⟨(ad.add (i * 4)).block, (ad.add (i * 4)).off + 2, none⟩ = some (.string (itemAt l i).text) ∧ w.cell? ⟨(ad.add (i * 4)).block, (ad.add (i * 4)).off + 3, none⟩ = some (.slice A' (itemAt l i).items.length cap) ∧
      (itemAt l i).items.length ≤ cap ∧ LA w S (itemAt l i).items A' := by
  rcases h with rfl | ⟨ad, rfl, h⟩
  · exact absurd hi (by simp)
  · obtain ⟨hs, c, hv, hc⟩ := LC.at h i _ (itemAt_get hi)
    obtain ⟨hb, A', cap, rfl, h1, h2⟩ := hv.eq
    refine ⟨ad, A', cap, rfl, World.block_lt_of_cell? w _ (u := .int .i64 (itemAt l i).kind) ?_, hb, ?_, ?_, ?_, ?_, h1, h2⟩
    · have := hc 0 _ rfl; simpa using this
    · have := hc 0 _ rfl; simpa using this
    · rw [← addr_add_field _ _ 1 (by omega)]; have := hc 1 _ rfl; simpa using this
    · rw [← addr_add_field _ _ 2 (by omega)]; have := hc 2 _ rfl; simpa using this
    · rw [← addr_add_field _ _ 3 (by omega)]; have := hc 3 _ rfl; simpa using this
end Go.Proofs.YtmnblgaefdahhaaGreatDoor

/- What the value layer computes, as plain functions on trees: order, right values. -/
set_option linter.unusedVariables false
namespace Go.Proofs.YtmnblgaefdahhaaGreatDoor
open Go.RowKit

def sgn (a b : Int) : Int := if a < b then -1 else if b < a then 1 else 0
def cmpB (a b : ByteArray) : Int := Lib.compareBytes a.data.toList b.data.toList
mutual
def cmpV : V → V → Int
  | .mk k n t l, .mk k' n' t' l' => if k = k' then (if k = 1 ∨ k = 2 then sgn n n' else if k = 3 then cmpB t t' else if k = 4 ∨ k = 5 ∨ k = 6 then cmpL l l' else 0) else sgn k k'
def cmpL : List V → List V → Int
  | [], [] => 0
  | [], _ :: _ => -1
  | _ :: _, [] => 1
  | x :: xs, y :: ys => if cmpV x y = 0 then cmpL xs ys else cmpV x y
end
theorem cmpV_eq (x y : V) : cmpV x y = if x.kind = y.kind then (if x.kind = 1 ∨ x.kind = 2 then sgn x.num y.num else if x.kind = 3 then cmpB x.text y.text else if x.kind = 4 ∨ x.kind = 5 ∨ x.kind = 6 then cmpL x.items y.items else 0) else sgn x.kind y.kind := by
  cases x; cases y; rw [cmpV]; rfl
theorem cmpL_nil (ys : List V) : cmpL [] ys = if ys.length = 0 then 0 else -1 := by cases ys <;> simp [cmpL]
theorem cmpL_nil_right (x : V) (xs : List V) : cmpL (x :: xs) [] = 1 := by simp [cmpL]
theorem cmpL_cons (x y : V) (xs ys : List V) : cmpL (x :: xs) (y :: ys) = if cmpV x y = 0 then cmpL xs ys else cmpV x y := by simp only [cmpL]
/-- From place i on, both long enough. -/
theorem cmpL_drop {a b : List V} {i : Nat} (ha : i < a.length) (hb : i < b.length) : cmpL (a.drop i) (b.drop i) = if cmpV (itemAt a i) (itemAt b i) = 0 then cmpL (a.drop (i + 1)) (b.drop (i + 1)) else cmpV (itemAt a i) (itemAt b i) := by
  rw [itemAt_drop ha, itemAt_drop hb, cmpL_cons]
theorem cmpL_drop_end {a b : List V} {i : Nat} (ha : a.length ≤ i) (hb : i ≤ b.length) : cmpL (a.drop i) (b.drop i) = if b.length = i then 0 else -1 := by
  rw [List.drop_eq_nil_of_le ha, cmpL_nil, List.length_drop]
  by_cases h : b.length = i
  · rw [if_pos (by omega), if_pos h]
  · rw [if_neg (by omega), if_neg h]
theorem cmpL_drop_more {a b : List V} {i : Nat} (ha : i < a.length) (hb : b.length ≤ i) : cmpL (a.drop i) (b.drop i) = 1 := by
  rw [itemAt_drop ha, List.drop_eq_nil_of_le hb, cmpL_nil_right]
theorem compareBytes_less : ∀ (a b : List UInt8), Lib.compareBytes a b = if Op.bytesLess a b = true then -1 else if (a == b) = true then 0 else 1
  | [], [] => by simp [Lib.compareBytes, Op.bytesLess]
  | [], _ :: _ => by simp [Lib.compareBytes, Op.bytesLess]
  | _ :: _, [] => by simp [Lib.compareBytes, Op.bytesLess]
  | x :: a, y :: b => by
    have ih := compareBytes_less a b
    unfold Lib.compareBytes Op.bytesLess
    by_cases h : x < y
    · simp [h]
    · by_cases h' : y < x
      · have hne : ¬ x = y := fun e => by subst e; exact UInt8.lt_irrefl _ h'
        simp [h, h', hne]
      · have he : x = y := UInt8.le_antisymm (UInt8.not_lt.1 h') (UInt8.not_lt.1 h)
        subst he
        rw [if_neg h, if_neg h, ih]
        simp [h]
theorem cmpB_less (a b : ByteArray) : cmpB a b = if Op.bytesLess a.toList b.toList = true then -1 else if (a.toList == b.toList) = true then 0 else 1 := by
  unfold cmpB
  rw [Lib.toList_data, Lib.toList_data]
  exact compareBytes_less _ _
end Go.Proofs.YtmnblgaefdahhaaGreatDoor

/- Arrays of the call's own: cells that stand for values, stores into them. -/
set_option linter.unusedVariables false
namespace Go.Proofs.YtmnblgaefdahhaaGreatDoor
open Go.RowKit

/-- Cells that stand for values, four each. -/
def CsL (w : World) (S : Nat → Prop) : List V → List Value → Prop
  | [], c => c = []
  | x :: xs, c => ∃ a b, c = a ++ b ∧ VC w S x a ∧ CsL w S xs b
theorem CsL.keep {w w' : World} {S S' : Nat → Prop} (hk : Keeps w S w' S') : ∀ {l : List V} {c : List Value}, CsL w S l c → CsL w' S' l c
  | [], _, h => h
  | x :: xs, c, ⟨a, b, e, h1, h2⟩ => ⟨a, b, e, h1.keep hk, CsL.keep hk h2⟩
theorem CsL.length {w : World} {S : Nat → Prop} : ∀ {l : List V} {c : List Value}, CsL w S l c → c.length = l.length * 4
  | [], _, h => by cases h; rfl
  | x :: xs, c, ⟨a, b, e, h1, h2⟩ => by rw [e, List.length_append, h1.length, CsL.length h2, List.length_cons]; omega
theorem CsL.snoc {w : World} {S : Nat → Prop} {x : V} {a : List Value} : ∀ {l : List V} {c : List Value}, CsL w S l c → VC w S x a → CsL w S (l ++ [x]) (c ++ a)
  | [], _, h, hx => by cases h; exact ⟨a, [], by simp, hx, rfl⟩
  | y :: ys, c, ⟨d, b, e, h1, h2⟩, hx => ⟨d, b ++ a, by rw [e, List.append_assoc], h1, CsL.snoc h2 hx⟩
theorem CsL.append {w : World} {S : Nat → Prop} {m : List V} {d : List Value} : ∀ {l : List V} {c : List Value}, CsL w S l c → CsL w S m d → CsL w S (l ++ m) (c ++ d)
  | [], _, h, hx => by cases h; exact hx
  | y :: ys, c, ⟨a, b, e, h1, h2⟩, hx => ⟨a, b ++ d, by rw [e, List.append_assoc], h1, CsL.append h2 hx⟩
theorem CsL.one {w : World} {S : Nat → Prop} : ∀ {l : List V} {c : List Value}, CsL w S l c → ∀ u ∈ c, u.oneCell' = true
  | [], _, h, u, hu => by cases h; cases hu
  | x :: xs, c, ⟨a, b, e, h1, h2⟩, u, hu => by
    rw [e, List.mem_append] at hu
    rcases hu with hu | hu
    · exact h1.one u hu
    · exact CsL.one h2 u hu
/-- What stands in cells is a slice's. -/
theorem CsL.lc {w : World} {S : Nat → Prop} {ad : Addr} (hs : S ad.block) : ∀ {l : List V} {c : List Value} {n : Nat}, CsL w S l c → (∀ j u, c[j]? = some u → w.cell? (ad.add (n + j)) = some u) → LC w S l ad n
  | [], _, _, _, _ => by simp only [LC]
  | x :: xs, c, n, ⟨a, b, e, h1, h2⟩, h => by
    simp only [LC]
    subst e
    have hl := h1.length
    refine ⟨hs, ⟨a, h1, fun j u hu => h j u ?_⟩, CsL.lc hs h2 fun j u hu => ?_⟩
    · rw [List.getElem?_append_left (by rw [List.getElem?_eq_some_iff] at hu; exact hu.1)]
      exact hu
    · rw [show n + 4 + j = n + (a.length + j) by omega]
      refine h _ u ?_
      rw [List.getElem?_append_right (by omega), Nat.add_sub_cancel_left]
      exact hu
/-- And the other way round. -/
theorem LC.cs {w : World} {S : Nat → Prop} : ∀ {l : List V} {ad : Addr} {n : Nat}, LC w S l ad n → ∃ c, CsL w S l c ∧ ∀ j u, c[j]? = some u → w.cell? (ad.add (n + j)) = some u
  | [], _, _, _ => ⟨[], rfl, fun j u h => by simp at h⟩
  | x :: xs, ad, n, h => by
    simp only [LC] at h
    obtain ⟨h1, ⟨a, h2, h3⟩, h4⟩ := h
    obtain ⟨b, h5, h6⟩ := LC.cs h4
    refine ⟨a ++ b, ⟨a, b, rfl, h2, h5⟩, fun j u hu => ?_⟩
    have hl := h2.length
    rcases Nat.lt_or_ge j a.length with hj | hj
    · rw [List.getElem?_append_left hj] at hu
      exact h3 j u hu
    · rw [List.getElem?_append_right hj] at hu
      have := h6 _ u hu
      rwa [show n + 4 + (j - a.length) = n + j by omega] at this
theorem plus0 (g j : Nat) : (⟨g, 0, none⟩ : Addr).add j = ⟨g, j, none⟩ := by unfold Addr.add; split <;> simp_all
theorem block_cells {w : World} {B : Nat} {c : List Value} {t : TypeId} {fz : Nat × Nat} (h : w.heap[B]? = some (.cells c.toArray t fz)) : ∀ j u, c[j]? = some u → w.cell? ((⟨B, 0, none⟩ : Addr).add (0 + j)) = some u := by
  intro j u hu
  rw [plus0, Nat.zero_add]
  simp [World.cell?, h, hu]
theorem CsL.la {w : World} {S : Nat → Prop} {B : Nat} {l : List V} {c : List Value} {t : TypeId} {fz : Nat × Nat} (h : CsL w S l c) (hB : w.heap[B]? = some (.cells c.toArray t fz)) (hs : S B) : LA w S l (some ⟨B, 0, none⟩) :=
  .inr ⟨_, rfl, CsL.lc hs h (block_cells hB)⟩
/-- The block is longer than what is told of it. -/
theorem CsL.la_more {w : World} {S : Nat → Prop} {B : Nat} {l : List V} {c d : List Value} {t : TypeId} {fz : Nat × Nat} (h : CsL w S l c) (hB : w.heap[B]? = some (.cells (c ++ d).toArray t fz)) (hs : S B) : LA w S l (some ⟨B, 0, none⟩) :=
  .inr ⟨_, rfl, CsL.lc hs h fun j u hu => block_cells hB j u (by rw [List.getElem?_append_left (by rw [List.getElem?_eq_some_iff] at hu; exact hu.1)]; exact hu)⟩

/-! ### Four stores -/
theorem blockset {w : World} {g : Nat} {t : TypeId} {cs : Array Value} (h : w.heap[g]? = some (.cells cs t (0, 0))) (i : Nat) (u : Value) : (w.setCell ⟨g, i, none⟩ u).heap[g]? = some (.cells (cs.setIfInBounds i u) t (0, 0)) := by
  simp [World.setCell, Array.getElem?_modify, h]
theorem blockother {w : World} {g : Nat} {o : Obj} (h : w.heap[g]? = some o) {p : Addr} (hp : g ≠ p.block) (u : Value) : (w.setCell p u).heap[g]? = some o := (Below.heap_setCell w p u g hp).trans h
theorem set4 (p r : List Value) (a b c d a' b' c' d' : Value) {n : Nat} (hn : p.length = n) : (((((p ++ a :: b :: c :: d :: r).toArray.setIfInBounds n a').setIfInBounds (n + 1) b').setIfInBounds (n + 2) c').setIfInBounds (n + 3) d') = (p ++ a' :: b' :: c' :: d' :: r).toArray := by
  subst hn
  simp
theorem block4set {w : World} {g : Nat} {t : TypeId} {p r : List Value} {a b c d : Value} (h : w.heap[g]? = some (.cells (p ++ a :: b :: c :: d :: r).toArray t (0, 0))) {n : Nat} (hn : p.length = n) (a' b' c' d' : Value) :
    ((((w.setCell ⟨g, n, none⟩ a').setCell ⟨g, n + 1, none⟩ b').setCell ⟨g, n + 2, none⟩ c').setCell ⟨g, n + 3, none⟩ d').heap[g]? = some (.cells (p ++ a' :: b' :: c' :: d' :: r).toArray t (0, 0)) := by
  have := blockset (blockset (blockset (blockset h n a') (n + 1) b') (n + 2) c') (n + 3) d'
  rw [this, set4 p r a b c d a' b' c' d' hn]
theorem cells4 {w : World} {g : Nat} {t : TypeId} {p r : List Value} {a b c d : Value} (h : w.heap[g]? = some (.cells (p ++ a :: b :: c :: d :: r).toArray t (0, 0))) {n : Nat} (hn : p.length = n) :
    w.cell? ⟨g, n, none⟩ = some a ∧ w.cell? ⟨g, n + 1, none⟩ = some b ∧ w.cell? ⟨g, n + 2, none⟩ = some c ∧ w.cell? ⟨g, n + 3, none⟩ = some d := by
  subst hn
  simp [World.cell?, h]
theorem free4 {w : World} {g : Nat} {t : TypeId} {cs : Array Value} (h : w.heap[g]? = some (.cells cs t (0, 0))) (n : Nat) : w.frozen? ⟨g, n, none⟩ = false := by simp [World.frozen?, h]
theorem split4 {q : List Value} {n : Nat} (h : q.length = n * 4) (hn : 0 < n) : ∃ a b c d r, q = a :: b :: c :: d :: r ∧ r.length = (n - 1) * 4 := by
  match q, h with
  | a :: b :: c :: d :: r, h => exact ⟨a, b, c, d, r, rfl, by simp at h; omega⟩
  | [], h => simp at h; omega
  | [_], h => simp at h; omega
  | [_, _], h => simp at h; omega
  | [_, _, _], h => simp at h; omega
theorem cell_new2 (w : World) (c0 c1 : Value) (t : TypeId) : (w.alloc (.cells #[c0, c1] t)).cell? ⟨w.heap.size, 0, none⟩ = some c0 ∧ (w.alloc (.cells #[c0, c1] t)).cell? ⟨w.heap.size, 1, none⟩ = some c1 := by
  have h := heap_alloc_new w (.cells #[c0, c1] t)
  constructor <;> simp only [World.cell?, h] <;> rfl

/-! ### Parts of slices -/
def lenV : Value → Nat
  | .slice _ n _ => n
  | _ => 0
theorem LC.take {w : World} {S : Nat → Prop} : ∀ {l : List V} {ad : Addr} {m : Nat} (n : Nat), LC w S l ad m → LC w S (l.take n) ad m
  | [], _, _, n, h => by simpa using h
  | x :: xs, ad, m, 0, h => by simp only [List.take_zero, LC]
  | x :: xs, ad, m, n + 1, h => by
    simp only [LC, List.take_succ_cons] at h ⊢
    exact ⟨h.1, h.2.1, LC.take n h.2.2⟩
theorem LC.drop {w : World} {S : Nat → Prop} : ∀ {l : List V} {ad : Addr} {m : Nat} (n : Nat), LC w S l ad m → LC w S (l.drop n) ad (m + n * 4)
  | [], _, _, n, h => by simp only [List.drop_nil, LC]
  | x :: xs, ad, m, 0, h => by simpa using h
  | x :: xs, ad, m, n + 1, h => by
    simp only [LC, List.drop_succ_cons] at h ⊢
    have := LC.drop n h.2.2
    rwa [show m + 4 + n * 4 = m + (n + 1) * 4 by omega] at this
theorem LC.move {w : World} {S : Nat → Prop} {p : Nat} : ∀ {l : List V} {ad : Addr} {m : Nat}, LC w S l ad (p + m) → LC w S l (ad.add p) m
  | [], _, _, _ => by simp only [LC]
  | x :: xs, ad, m, h => by
    simp only [LC] at h ⊢
    refine ⟨by rw [addr_add_block]; exact h.1, ?_, LC.move (by rw [← Nat.add_assoc]; exact h.2.2)⟩
    obtain ⟨c, h1, h2⟩ := h.2.1
    exact ⟨c, h1, fun j u hu => by rw [addr_add_add, ← Nat.add_assoc]; exact h2 j u hu⟩
/-- l[:n]. -/
theorem LA.take {w : World} {S : Nat → Prop} {l : List V} {A : Option Addr} (n : Nat) (h : LA w S l A) : LA w S (l.take n) A := by
  rcases h with rfl | ⟨ad, h1, h2⟩
  · exact .inl (by simp)
  · exact .inr ⟨ad, h1, h2.take n⟩
/-- l[n:]. -/
theorem LA.drop {w : World} {S : Nat → Prop} {l : List V} {ad : Addr} (n : Nat) (h : LA w S l (some ad)) : LA w S (l.drop n) (some (ad.add (n * 4))) := by
  rcases h with rfl | ⟨ad', h1, h2⟩
  · exact .inl (by simp)
  · injection h1 with h1
    subst h1
    exact .inr ⟨_, rfl, LC.move (by have := h2.drop n; simpa using this)⟩
end Go.Proofs.YtmnblgaefdahhaaGreatDoor

/- Copies of values in memory of their own. -/
set_option linter.unusedVariables false
set_option linter.unusedSimpArgs false
namespace Go.Proofs.YtmnblgaefdahhaaGreatDoor
open Go.RowKit
attribute [local go_sem] lt_succ_of

theorem infoV : (Tryz.prog.info? 39).map (fun i => (i.zero, i.size, i.bytes)) = some (some (.agg #[.int .i64 0, .int .i64 0, .string ⟨#[]⟩, .slice none 0 0]), 4, 56) := by kernel_rfl
/-- The cells that make lays. -/
def zs (n : Nat) : List Value := (madeCells #[.int .i64 0, .int .i64 0, .string ⟨#[]⟩, .slice none 0 0] (n * 4)).toList
theorem zs_length (n : Nat) : (zs n).length = n * 4 := by unfold zs; rw [Array.length_toList, size_madeCells]
theorem make_run (n : Nat) (hn : n ≤ 4294967296) (W : World) :
    (Instr.makeSlice 22 (.int .i64 (n : Int)) (.int .i64 (n : Int))).run Tryz.prog W = .ok (.slice (some ⟨W.heap.size, 0, none⟩) n n) (W.alloc (.cells (zs n).toArray 39)) := by
  obtain ⟨i, hi, hz0, hz1, hz2⟩ := info_parts infoV
  have h := run_make (P := Tryz.prog) W 22 39 i _ Tryz.underlying22 hi hz0 .i64 .i64 (n : Int) (n : Int) (by omega) (by omega) (by rw [hz2]; omega) (by omega)
  rw [h, hz1]
  simp only [Int.toNat_natCast, zs, Value.cells, Array.toArray_toList]
theorem VC.cells {w : World} {S : Nat → Prop} {x : V} {c : List Value} (h : VC w S x c) : ∃ A cap, c = [.int .i64 x.kind, .int .i64 x.num, .string x.text, .slice A x.items.length cap] := by
  obtain ⟨_, A, cap, h, _⟩ := h.eq
  exact ⟨A, cap, h⟩

end Go.Proofs.YtmnblgaefdahhaaGreatDoor

/- append to a slice of values of the call's own. -/
set_option linter.unusedVariables false
set_option linter.unusedSimpArgs false
namespace Go.Proofs.YtmnblgaefdahhaaGreatDoor
open Go.RowKit

/-- A slice of the call's own, in a block from base on; its items lie in blocks of S, none of them its own. -/
def OwnL (w : World) (base : Nat) (S : Nat → Prop) (l : List V) (v : Value) : Prop := ∃ xs, w.ownsRow base 39 4 v l.length xs ∧ CsL w (fun b => S b ∧ some b ≠ v.ownBlock) l xs
theorem OwnL.nil (w : World) (base : Nat) (S : Nat → Prop) : OwnL w base S [] (.slice none 0 0) := ⟨[], World.ownsRow_nil _ _ _ _, rfl⟩
theorem OwnL.keep {w w' : World} {base : Nat} {S S' : Nat → Prop} {l : List V} {v : Value} (h : OwnL w base S l v) (hk : Keeps w S w' S') (ho : ∀ k, v.ownBlock = some k → w'.heap[k]? = w.heap[k]?) : OwnL w' base S' l v := by
  obtain ⟨xs, ⟨h1, h2⟩, h3⟩ := h
  refine ⟨xs, ⟨h1, ?_⟩, h3.keep fun b hb ⟨hs, hne⟩ => ⟨⟨(hk b hb hs).1, hne⟩, (hk b hb hs).2⟩⟩
  rcases h2 with h2 | ⟨g, cap, cur, rfl, hg, hh, r⟩
  · exact .inl h2
  · exact .inr ⟨g, cap, cur, rfl, hg, by rw [ho g rfl]; exact hh, r⟩
theorem OwnL.own_lt {w : World} {base : Nat} {S : Nat → Prop} {l : List V} {v : Value} (h : OwnL w base S l v) (k : Nat) (hk : v.ownBlock = some k) : base ≤ k ∧ k < w.heap.size := by
  obtain ⟨xs, h, _⟩ := h
  exact h.lt k hk
theorem OwnL.below {w w' : World} {base : Nat} {S : Nat → Prop} {l : List V} {v : Value} (h : OwnL w base S l v) (hb : Below w.heap.size w w') : OwnL w' base S l v :=
  h.keep (Keeps.below hb) fun k hk => hb.block k (h.own_lt k hk).2
theorem OwnL.alloc {w : World} {base : Nat} {S : Nat → Prop} {l : List V} {v : Value} (h : OwnL w base S l v) (o : Obj) : OwnL (w.alloc o) base S l v := h.below ((Below.refl _ _).alloc (Nat.le_refl _) _)
theorem OwnL.set {w : World} {base : Nat} {S : Nat → Prop} {l : List V} {v : Value} (h : OwnL w base S l v) {p : Addr} (hp : ¬ S p.block) (hne : ∀ k, v.ownBlock = some k → k ≠ p.block) (u : Value) : OwnL (w.setCell p u) base S l v :=
  h.keep (Keeps.set hp u) fun k hk => Below.heap_setCell _ _ _ _ (hne k hk)
theorem OwnL.form {w : World} {base : Nat} {S : Nat → Prop} {l : List V} {v : Value} (h : OwnL w base S l v) : ∃ A cap, v = .slice A l.length cap ∧ l.length ≤ cap := by
  obtain ⟨xs, ⟨_, h⟩, _⟩ := h
  rcases h with ⟨rfl, h⟩ | ⟨g, cap, cur, rfl, _, _, h, _⟩
  · exact ⟨none, 0, by rw [h], by omega⟩
  · exact ⟨_, cap, rfl, h⟩
/-- It is a slice of values. -/
theorem OwnL.is {w : World} {base : Nat} {S S' : Nat → Prop} {l : List V} {v : Value} (h : OwnL w base S l v) (hs : ∀ b, S b → S' b) (hb : ∀ b, base ≤ b → S' b) (hl : l.length ≤ 4294967296) : IsS w S' l v := by
  obtain ⟨xs, h1, h2⟩ := h
  have h2' : CsL w S' l xs := h2.keep (Keeps.weak fun b h => hs b h.1)
  obtain ⟨h3, h4⟩ := h1
  rcases h4 with ⟨rfl, h4⟩ | ⟨g, cap, cur, rfl, hg, hh, hc, _, _, ht⟩
  · obtain rfl : l = [] := List.eq_nil_of_length_eq_zero h4
    exact ⟨none, 0, rfl, by simp, by simp, .inl rfl⟩
  · refine ⟨_, cap, rfl, hc, hl, .inr ⟨_, rfl, CsL.lc (hb g hg) h2' fun j u hu => ?_⟩⟩
    rw [plus0, Nat.zero_add]
    have h5 : cur.toList[j]? = some u := by
      rw [← ht] at hu
      rw [List.getElem?_take] at hu
      split at hu
      · exact hu
      · cases hu
    simp only [World.cell?, hh]
    simpa using h5

section
variable {ops : Array Oper} {rest : List Oper} {o : Oper} {a : Act} {Q : Exit → Act → World → Prop}
theorem own_after {W w1 : World} {base : Nat} {S : Nat → Prop} {l m : List V} {v v1 : Value} {xs ys : List Value} (h1 : CsL W (fun b => S b ∧ some b ≠ v.ownBlock) l xs) (h2 : CsL W (fun b => S b ∧ some b ≠ v.ownBlock) m ys)
    (hg : W.grownBy w1 v.ownBlock) (hat : v1.ownBlock = v.ownBlock ∨ v1.ownBlock = some W.heap.size) (hown : w1.ownsRow base 39 4 v1 (l.length + m.length) (xs ++ ys)) : OwnL w1 base S (l ++ m) v1 := by
  refine ⟨xs ++ ys, by rw [List.length_append]; exact hown, (h1.append h2).keep fun b hb ⟨hs, hne⟩ => ⟨⟨hs, ?_⟩, hg.block b hb hne⟩⟩
  rcases hat with hat | hat
  · rw [hat]; exact hne
  · rw [hat]
    intro e
    injection e with e
    omega
/-- append(v, x), x in the box that has just been made. -/
theorem append_one {W : World} (base : Nat) (S : Nat → Prop) (hgd : o.guard = none) (s x : Operand) (ho : o.op = .call { callee := .builtin .append, args := #[s, x], argTypes := #[22, 22] })
    (v : Value) (l : List V) (y : V) (c0 c1 c2 c3 : Value) (hs : a.eval s = v) (hx : a.eval x = .slice (some ⟨W.heap.size, 0, none⟩) 1 1) (HO : OwnL W base S l v) (hy : VC W (fun b => S b ∧ some b ≠ v.ownBlock) y [c0, c1, c2, c3])
    (hbase : base ≤ W.heap.size) (hl : l.length ≤ 4294967296)
    (h : ∀ v1 w1, OwnL w1 base S (l ++ [y]) v1 → W.grownBy w1 v.ownBlock → wpList Tryz.prog ops Q rest (a.put o.dst v1) w1) :
    wpList Tryz.prog ops Q (o :: rest) a (W.alloc (.cells #[c0, c1, c2, c3] 39)) := by
  obtain ⟨i, hi, hz0, hz1, hz2⟩ := info_parts infoV
  obtain ⟨xs, hown, hcs⟩ := HO
  refine wpList_append_own_at (W.alloc (.cells #[c0, c1, c2, c3] 39)) hgd s x 22 ho base 39 i _ 4 56 Tryz.underlying22 hi hz0 hz1 hz2 rfl (by decide) v l.length xs hs (hown.alloc _) ⟨W.heap.size, 0, none⟩ 1 1 [c0, c1, c2, c3] hx rfl
    (World.news_of_block (cs := #[c0, c1, c2, c3]) (heap_alloc_new W _)) hy.one (by simp only [maxLen]; omega) (by omega) (by simp; omega) ?_
  intro v1 w1 hown1 hg _ hat
  have hg' : W.grownBy w1 v.ownBlock := World.grownBy.trans (World.grownBy_alloc W _ _) hg
  refine h v1 w1 ?_ hg'
  have hk : Keeps W (fun b => S b ∧ some b ≠ v.ownBlock) (W.alloc (.cells #[c0, c1, c2, c3] 39)) (fun b => S b ∧ some b ≠ v.ownBlock) := Keeps.alloc _
  exact own_after (hcs.keep hk) (m := [y]) ⟨_, [], by simp, hy.keep hk, rfl⟩ hg hat hown1
/-- append(v, m...), m a slice of values. -/
theorem append_many {W : World} (base : Nat) (S : Nat → Prop) (hgd : o.guard = none) (s x : Operand) (ho : o.op = .call { callee := .builtin .append, args := #[s, x], argTypes := #[22, 22] })
    (v : Value) (l m : List V) (A : Option Addr) (cap : Nat) (hs : a.eval s = v) (hx : a.eval x = .slice A m.length cap) (HO : OwnL W base S l v) (hm : LA W (fun b => S b ∧ some b ≠ v.ownBlock) m A)
    (hbase : base ≤ W.heap.size) (hl : l.length + m.length ≤ 4294967296)
    (h : ∀ v1 w1, OwnL w1 base S (l ++ m) v1 → W.grownBy w1 v.ownBlock → wpList Tryz.prog ops Q rest (a.put o.dst v1) w1) :
    wpList Tryz.prog ops Q (o :: rest) a W := by
  obtain ⟨i, hi, hz0, hz1, hz2⟩ := info_parts infoV
  obtain ⟨xs, hown, hcs⟩ := HO
  rcases hm with rfl | ⟨ad, rfl, hm⟩
  · have hrun : (Builtin.append_ #[22, 22] o.type #[v, .slice A 0 cap]).run Tryz.prog W = .ok v W := by
      rcases hown.2 with ⟨rfl, hn⟩ | ⟨g, cap', cur, rfl, _, _, hnc, _⟩
      · cases A <;> simp [Builtin.append_, run_underlying Tryz.underlying22, sizeOf, typeInfo, hi, Builtin.lenOf, Builtin.firstCells, loadCells, loadCellsFrom]
      · cases A <;> simp [Builtin.append_, run_underlying Tryz.underlying22, sizeOf, typeInfo, hi, Builtin.lenOf, Builtin.firstCells, hnc, storeCells, loadCells, loadCellsFrom]
    refine wpList_plain hgd fun K hK => ?_
    unfold Oper.wp execOp
    simp only [ho, resolve, invoke, builtin, Sem.run_bind, Sem.run_pure, Result.andThen_ok, List.map_toArray, List.map_cons, List.map_nil, hs, hx, List.length_nil, hrun]
    exact hK _ _ (h v W (by rw [List.append_nil]; exact ⟨xs, hown, hcs⟩) (World.grownBy.refl W _))
  · obtain ⟨ys, hys, hcell⟩ := LC.cs hm
    refine wpList_append_own_at W hgd s x 22 ho base 39 i _ 4 56 Tryz.underlying22 hi hz0 hz1 hz2 rfl (by decide) v l.length xs hs hown ad m.length cap ys hx hys.length
      (fun j u hu => by simpa using hcell j u hu) hys.one (by simp only [maxLen]; omega) (by omega) hbase ?_
    intro v1 w1 hown1 hg _ hat
    exact h v1 w1 (own_after hcs hys hg hat hown1) hg
end
end Go.Proofs.YtmnblgaefdahhaaGreatDoor

/- What changes when one thing is changed. -/
set_option linter.unusedVariables false
namespace Go.Proofs.YtmnblgaefdahhaaGreatDoor
open Go.RowKit

/-- Of the old blocks none but those of M has changed. -/
structure But (M : Nat → Prop) (w w' : World) : Prop where
  os : w'.os = w.os
  tape : w'.tape = w.tape
  output : w'.output = w.output
  size : w.heap.size ≤ w'.heap.size
  block : ∀ b, b < w.heap.size → ¬ M b → w'.heap[b]? = w.heap[b]?
theorem But.of {M : Nat → Prop} {w w' : World} (h : Below w.heap.size w w') : But M w w' := ⟨h.os, h.tape, h.output, h.size, fun b hb _ => h.block b hb⟩
theorem But.trans {M : Nat → Prop} {w w1 w2 : World} (h : But M w w1) (k : But M w1 w2) : But M w w2 := ⟨k.os.trans h.os, k.tape.trans h.tape, k.output.trans h.output, Nat.le_trans h.size k.size, fun b hb hm => (k.block b (Nat.lt_of_lt_of_le hb h.size) hm).trans (h.block b hb hm)⟩
theorem But.mono {M M' : Nat → Prop} {w w' : World} (h : But M w w') (hm : ∀ b, b < w.heap.size → M b → M' b) : But M' w w' := ⟨h.os, h.tape, h.output, h.size, fun b hb hn => h.block b hb fun e => hn (hm b hb e)⟩
theorem But.keeps {M : Nat → Prop} {S : Nat → Prop} {w w' : World} (h : But M w w') (hs : ∀ b, S b → ¬ M b) : Keeps w S w' S := fun b hb h1 => ⟨h1, h.block b hb (hs b h1)⟩
theorem But.below {M : Nat → Prop} {w w' : World} {n : Nat} (h : But M w w') (hn : n ≤ w.heap.size) (hm : ∀ b, M b → n ≤ b) : Below n w w' := ⟨h.os, h.tape, h.output, h.size, fun b hb => h.block b (Nat.lt_of_lt_of_le hb hn) fun e => by have := hm b e; omega⟩
theorem But.set {M : Nat → Prop} {w w' : World} (h : But M w w') {p : Addr} (hp : w.heap.size ≤ p.block ∨ M p.block) (u : Value) : But M w (w'.setCell p u) :=
  ⟨h.os, h.tape, h.output, by simp; exact h.size, fun b hb hm => by
    rw [Below.heap_setCell _ _ _ _ (fun e => by rcases hp with hp | hp; omega; exact hm (e ▸ hp))]
    exact h.block b hb hm⟩

end Go.Proofs.YtmnblgaefdahhaaGreatDoor
