/- What the proofs of this seat have in common: values as trees, and how they lie in memory. No program in sight. -/
import Derived.WalkKit
import Derived.WalkSpells
import Derived.WalkLawsBesides
import Derived.Laws.AppendOwn
import Derived.Lib.Hide
set_option linter.unusedVariables false
namespace Go.Proofs.YtaeldfnihocljaaDoor
open Go.RowKit

theorem ret_i {a b : Int} (h : a = b) : Ending.returned (.int .i64 a) = .returned (.int .i64 b) := by rw [h]
theorem ret_b {a b : Bool} (h : a = b) : Ending.returned (.bool a) = .returned (.bool b) := by rw [h]

/-- A value: its kind, number, text, items. -/
inductive V where
  | mk (k n : Int) (t : ByteArray) (l : List V)
namespace V
def kind : V → Int | .mk k _ _ _ => k
def num : V → Int | .mk _ n _ _ => n
def text : V → ByteArray | .mk _ _ t _ => t
def items : V → List V | .mk _ _ _ l => l
theorem eta : ∀ x : V, V.mk x.kind x.num x.text x.items = x | .mk _ _ _ _ => rfl
/-- The zero value. -/
def zero : V := .mk 0 0 ⟨#[]⟩ []
end V
instance : Inhabited V := ⟨V.zero⟩

mutual
def V.size : V → Nat
  | .mk _ _ _ l => 1 + V.sizes l
def V.sizes : List V → Nat
  | [] => 0
  | x :: xs => V.size x + V.sizes xs
end
theorem V.sizes_mem {x : V} : ∀ {l : List V}, x ∈ l → V.size x ≤ V.sizes l
  | y :: l, h => by
    rcases List.mem_cons.1 h with rfl | h
    · simp only [V.sizes]; omega
    · have := V.sizes_mem h; simp only [V.sizes]; omega
theorem V.size_items {x y : V} (h : y ∈ x.items) : V.size y < V.size x := by
  cases x with
  | mk k n t l => have := V.sizes_mem h; simp only [V.size]; simp only [V.items] at this; omega
theorem V.size_pos (x : V) : 0 < V.size x := by cases x; simp only [V.size]; omega

/-- Induction: what holds of a value if it holds of its items. -/
theorem V.induct {p : V → Prop} (h : ∀ x : V, (∀ y, y ∈ x.items → p y) → p x) (x : V) : p x := by
  have key : ∀ n (x : V), V.size x < n → p x := by
    intro n
    induction n with
    | zero => intro x hx; omega
    | succ n ih => intro x hx; exact h x fun y hy => ih y (by have := V.size_items hy; omega)
  exact key _ x (Nat.lt_succ_self _)

/-- Bounds that every value in memory has. -/
structure V.Bd (x : V) : Prop where
  k0 : -9223372036854775808 ≤ x.kind
  k1 : x.kind ≤ 9223372036854775807
  n0 : -9223372036854775808 ≤ x.num
  n1 : x.num ≤ 9223372036854775807
  t1 : x.text.size ≤ 140737488355328
  l1 : x.items.length ≤ 4294967296

mutual
/-- The four cells of a value; what its items' slice leads to lies in blocks of S. -/
def VC (w : World) (S : Nat → Prop) : V → List Value → Prop
  | .mk k n t l, c => V.Bd (.mk k n t l) ∧ ∃ A cap, c = [.int .i64 k, .int .i64 n, .string t, .slice A l.length cap] ∧ l.length ≤ cap ∧ (l = [] ∨ ∃ ad, A = some ad ∧ LC w S l ad 0)
/-- Values one behind the other from cell n on. -/
def LC (w : World) (S : Nat → Prop) : List V → Addr → Nat → Prop
  | [], _, _ => True
  | x :: xs, ad, n => S ad.block ∧ (∃ c, VC w S x c ∧ ∀ j u, c[j]? = some u → w.cell? (ad.add (n + j)) = some u) ∧ LC w S xs ad (n + 4)
end
/-- What a slice of values leads to. -/
def LA (w : World) (S : Nat → Prop) (l : List V) (A : Option Addr) : Prop := l = [] ∨ ∃ ad, A = some ad ∧ LC w S l ad 0
/-- A value as an aggregate. -/
def IsV (w : World) (S : Nat → Prop) (x : V) (v : Value) : Prop := ∃ c, VC w S x c ∧ v = .agg c.toArray
/-- A slice of values. -/
def IsS (w : World) (S : Nat → Prop) (l : List V) (v : Value) : Prop := ∃ A cap, v = .slice A l.length cap ∧ l.length ≤ cap ∧ l.length ≤ 4294967296 ∧ LA w S l A

theorem VC.eq {w : World} {S : Nat → Prop} {x : V} {c : List Value} (h : VC w S x c) : V.Bd x ∧ ∃ A cap, c = [.int .i64 x.kind, .int .i64 x.num, .string x.text, .slice A x.items.length cap] ∧ x.items.length ≤ cap ∧ LA w S x.items A := by
  cases x with
  | mk k n t l =>
    simp only [VC] at h
    exact h
theorem VC.mk {w : World} {S : Nat → Prop} {x : V} {A : Option Addr} {cap : Nat} (hb : V.Bd x) (hc : x.items.length ≤ cap) (h : LA w S x.items A) : VC w S x [.int .i64 x.kind, .int .i64 x.num, .string x.text, .slice A x.items.length cap] := by
  cases x with
  | mk k n t l =>
    simp only [VC]
    exact ⟨hb, A, cap, rfl, hc, h⟩
theorem IsV.eq {w : World} {S : Nat → Prop} {x : V} {v : Value} (h : IsV w S x v) : V.Bd x ∧ ∃ A cap, v = .agg #[.int .i64 x.kind, .int .i64 x.num, .string x.text, .slice A x.items.length cap] ∧ x.items.length ≤ cap ∧ LA w S x.items A := by
  obtain ⟨c, hc, rfl⟩ := h
  obtain ⟨hb, A, cap, rfl, h1, h2⟩ := hc.eq
  exact ⟨hb, A, cap, rfl, h1, h2⟩
theorem IsV.mk {w : World} {S : Nat → Prop} {x : V} {A : Option Addr} {cap : Nat} (hb : V.Bd x) (hc : x.items.length ≤ cap) (h : LA w S x.items A) : IsV w S x (.agg #[.int .i64 x.kind, .int .i64 x.num, .string x.text, .slice A x.items.length cap]) :=
  ⟨_, VC.mk hb hc h, rfl⟩
theorem IsV.items {w : World} {S : Nat → Prop} {x : V} {A : Option Addr} {cap : Nat} (hb : V.Bd x) (hc : x.items.length ≤ cap) (h : LA w S x.items A) : IsS w S x.items (.slice A x.items.length cap) :=
  ⟨A, cap, rfl, hc, hb.l1, h⟩
theorem VC.length {w : World} {S : Nat → Prop} {x : V} {c : List Value} (h : VC w S x c) : c.length = 4 := by
  obtain ⟨_, A, cap, rfl, _⟩ := h.eq
  rfl
theorem VC.one {w : World} {S : Nat → Prop} {x : V} {c : List Value} (h : VC w S x c) : ∀ u ∈ c, u.oneCell' = true := by
  obtain ⟨_, A, cap, rfl, _⟩ := h.eq
  intro u hu
  simp only [List.mem_cons, List.not_mem_nil, or_false] at hu
  rcases hu with rfl | rfl | rfl | rfl <;> rfl

/-! ### Worlds that keep what is read -/
/-- Of the blocks of S that w has, w' has the same, and they are blocks of S'. -/
def Keeps (w : World) (S : Nat → Prop) (w' : World) (S' : Nat → Prop) : Prop := ∀ b, b < w.heap.size → S b → S' b ∧ w'.heap[b]? = w.heap[b]?
theorem Keeps.cell {w w' : World} {S S' : Nat → Prop} (h : Keeps w S w' S') {a : Addr} {v : Value} (hs : S a.block) (hc : w.cell? a = some v) : S' a.block ∧ w'.cell? a = some v := by
  obtain ⟨h1, h2⟩ := h a.block (World.block_lt_of_cell? w a hc) hs
  exact ⟨h1, (World.cell?_of_block (w := w) h2).trans hc⟩
theorem Keeps.refl (w : World) (S : Nat → Prop) : Keeps w S w S := fun _ _ h => ⟨h, rfl⟩
theorem Keeps.trans {w w1 w2 : World} {S S1 S2 : Nat → Prop} (h : Keeps w S w1 S1) (k : Keeps w1 S1 w2 S2) : Keeps w S w2 S2 := fun b hb hs => by
  obtain ⟨h1, h2⟩ := h b hb hs
  have hb1 : b < w1.heap.size := by
    rcases Nat.lt_or_ge b w1.heap.size with h' | h'
    · exact h'
    · rw [Array.getElem?_eq_none h', Array.getElem?_eq_getElem hb] at h2
      cases h2
  obtain ⟨k1, k2⟩ := k b hb1 h1
  exact ⟨k1, k2.trans h2⟩
theorem Keeps.below {w w' : World} {S : Nat → Prop} (h : Below w.heap.size w w') : Keeps w S w' S := fun b hb hs => ⟨hs, h.block b hb⟩
theorem Keeps.weak {w : World} {S S' : Nat → Prop} (h : ∀ b, S b → S' b) : Keeps w S w S' := fun b _ hs => ⟨h b hs, rfl⟩
theorem Keeps.below_to {w w' : World} {S S' : Nat → Prop} (h : Below w.heap.size w w') (hs : ∀ b, b < w.heap.size → S b → S' b) : Keeps w S w' S' := fun b hb h1 => ⟨hs b hb h1, h.block b hb⟩
theorem Keeps.set {w : World} {S : Nat → Prop} {p : Addr} (hp : ¬ S p.block) (u : Value) : Keeps w S (w.setCell p u) S := fun b _ hs => ⟨hs, Below.heap_setCell _ _ _ _ (fun e => hp (e ▸ hs))⟩
theorem Keeps.alloc {w : World} {S : Nat → Prop} (o : Obj) : Keeps w S (w.alloc o) S := fun b hb hs => ⟨hs, Below.heap_alloc _ _ _ hb⟩
theorem Keeps.drew {w : World} {S : Nat → Prop} : Keeps w S w.drew S := fun _ _ hs => ⟨hs, rfl⟩
theorem Keeps.drewN {w : World} {S : Nat → Prop} (n : Nat) : Keeps w S (w.drewN n) S := fun _ _ hs => ⟨hs, rfl⟩
theorem Keeps.grown {w w' : World} {S : Nat → Prop} {row : Option Nat} (h : w.grownBy w' row) (hr : ∀ k, row = some k → ¬ S k) : Keeps w S w' S := fun b hb hs => ⟨hs, h.block b hb (fun e => hr b e.symm hs)⟩

theorem Keeps.set_after {w w' : World} {S S' : Nat → Prop} (h : Keeps w S w' S') {p : Addr} (hp : ¬ S' p.block) (u : Value) : Keeps w S (w'.setCell p u) S' := h.trans (Keeps.set hp u)
theorem Keeps.alloc_after {w w' : World} {S S' : Nat → Prop} (h : Keeps w S w' S') (o : Obj) : Keeps w S (w'.alloc o) S' := h.trans (Keeps.alloc o)
theorem Keeps.drew_after {w w' : World} {S S' : Nat → Prop} (h : Keeps w S w' S') : Keeps w S w'.drew S' := h.trans Keeps.drew
theorem Keeps.below_after {w w' w2 : World} {S S' : Nat → Prop} (h : Keeps w S w' S') (hb : Below w'.heap.size w' w2) : Keeps w S w2 S' := h.trans (Keeps.below hb)

mutual
theorem VC.keep {w w' : World} {S S' : Nat → Prop} (hk : Keeps w S w' S') : ∀ {x : V} {c : List Value}, VC w S x c → VC w' S' x c
  | .mk k n t l, c, h => by
    simp only [VC] at h ⊢
    obtain ⟨hb, A, cap, hc, h1, h2⟩ := h
    refine ⟨hb, A, cap, hc, h1, ?_⟩
    rcases h2 with h2 | ⟨ad, h3, h4⟩
    · exact .inl h2
    · exact .inr ⟨ad, h3, LC.keep hk h4⟩
theorem LC.keep {w w' : World} {S S' : Nat → Prop} (hk : Keeps w S w' S') : ∀ {l : List V} {ad : Addr} {n : Nat}, LC w S l ad n → LC w' S' l ad n
  | [], _, _, _ => by simp only [LC]
  | x :: xs, ad, n, h => by
    simp only [LC] at h ⊢
    obtain ⟨h1, ⟨c, h2, h3⟩, h4⟩ := h
    have hl : 0 < c.length := by rw [h2.length]; omega
    have hs : (ad.add (n + 0)).block = ad.block := by unfold Addr.add; split <;> rfl
    refine ⟨(hk.cell (a := ad.add (n + 0)) (by rw [hs]; exact h1) (h3 0 _ (List.getElem?_eq_getElem hl))).1 |> fun h => by rwa [hs] at h, ⟨c, VC.keep hk h2, fun j u hu => ?_⟩, LC.keep hk h4⟩
    have hs' : (ad.add (n + j)).block = ad.block := by unfold Addr.add; split <;> rfl
    exact (hk.cell (by rw [hs']; exact h1) (h3 j u hu)).2
end
theorem LA.keep {w w' : World} {S S' : Nat → Prop} (hk : Keeps w S w' S') {l : List V} {A : Option Addr} (h : LA w S l A) : LA w' S' l A := by
  rcases h with h | ⟨ad, h1, h2⟩
  · exact .inl h
  · exact .inr ⟨ad, h1, h2.keep hk⟩
theorem IsV.keep {w w' : World} {S S' : Nat → Prop} (hk : Keeps w S w' S') {x : V} {v : Value} (h : IsV w S x v) : IsV w' S' x v := by
  obtain ⟨c, h1, h2⟩ := h
  exact ⟨c, h1.keep hk, h2⟩
theorem IsS.keep {w w' : World} {S S' : Nat → Prop} (hk : Keeps w S w' S') {l : List V} {v : Value} (h : IsS w S l v) : IsS w' S' l v := by
  obtain ⟨A, cap, h1, h2, h3, h4⟩ := h
  exact ⟨A, cap, h1, h2, h3, h4.keep hk⟩
theorem IsV.below {w w' : World} {S : Nat → Prop} (hk : Below w.heap.size w w') {x : V} {v : Value} (h : IsV w S x v) : IsV w' S x v := h.keep (Keeps.below hk)
theorem IsS.below {w w' : World} {S : Nat → Prop} (hk : Below w.heap.size w w') {l : List V} {v : Value} (h : IsS w S l v) : IsS w' S l v := h.keep (Keeps.below hk)
theorem LA.below {w w' : World} {S : Nat → Prop} (hk : Below w.heap.size w w') {l : List V} {A : Option Addr} (h : LA w S l A) : LA w' S l A := h.keep (Keeps.below hk)
theorem addr_add_block (ad : Addr) (n : Nat) : (ad.add n).block = ad.block := by unfold Addr.add; split <;> rfl
theorem addr_add_add (ad : Addr) (m n : Nat) : (ad.add m).add n = ad.add (m + n) := by
  unfold Addr.add
  by_cases h1 : m = 0 <;> by_cases h2 : n = 0 <;> simp [h1, h2, Nat.add_assoc]
theorem addr_add_field (ad : Addr) (m j : Nat) (hj : 0 < j) : ad.add (m + j) = ⟨(ad.add m).block, (ad.add m).off + j, none⟩ := by
  unfold Addr.add
  by_cases hm : m = 0
  · subst hm
    simp [Nat.ne_of_gt hj]
  · simp [hm, Nat.add_assoc]

theorem cellB {w w' : World} (h : Below w.heap.size w w') {a : Addr} {v : Value} (hc : w.cell? a = some v) : w'.cell? a = some v := (h.cell (World.block_lt_of_cell? w a hc)).trans hc
theorem below_undrew {w w' : World} (h : Below w.drew.heap.size w.drew w') : Below w.heap.size w w' := (Below.refl _ _).drew.trans h
theorem below_undrewN {w w' : World} {n : Nat} (h : Below (w.drewN n).heap.size (w.drewN n) w') : Below w.heap.size w w' := ⟨h.os, h.tape, h.output, h.size, h.block⟩
/-- First w to w1, then w1 to w2. -/
theorem below_then {n : Nat} {w w1 w2 : World} (h : Below n w w1) (hn : n ≤ w1.heap.size) (k : Below w1.heap.size w1 w2) : Below n w w2 := h.trans (k.mono hn)
theorem blockB {w w' : World} (h : Below w.heap.size w w') {b : Nat} {o : Obj} (hc : w.heap[b]? = some o) : w'.heap[b]? = some o := (h.block b (Array.getElem?_eq_some_iff.1 hc).1).trans hc
/-- Two arguments' boxes: the world behind them, what its cells hold. -/
theorem boxes2 (w : World) (c0 c1 c2 c3 d0 d1 d2 d3 : Value) (t : TypeId) : ∃ w1, (w.alloc (.cells #[c0, c1, c2, c3] t)).alloc (.cells #[d0, d1, d2, d3] t) = w1 ∧ Below w.heap.size w w1 ∧ w.heap.size + 1 < w1.heap.size ∧
    w1.heap[w.heap.size]? = some (.cells #[c0, c1, c2, c3] t (0, 0)) ∧ w1.heap[w.heap.size + 1]? = some (.cells #[d0, d1, d2, d3] t (0, 0)) := by
  refine ⟨_, rfl, ((Below.refl _ _).alloc (Nat.le_refl _) _).alloc (by simp) _, by simp, ?_, ?_⟩
  · rw [Below.heap_alloc _ _ _ (by simp)]
    exact heap_alloc_new w _
  · have := heap_alloc_new (w.alloc (.cells #[c0, c1, c2, c3] t)) (.cells #[d0, d1, d2, d3] t)
    simpa using this
/-- One argument's box. -/
theorem box1 (w : World) (c0 c1 c2 c3 : Value) (t : TypeId) : ∃ w1, w.alloc (.cells #[c0, c1, c2, c3] t) = w1 ∧ Below w.heap.size w w1 ∧ w.heap.size < w1.heap.size ∧ w1.heap[w.heap.size]? = some (.cells #[c0, c1, c2, c3] t (0, 0)) :=
  ⟨_, rfl, (Below.refl _ _).alloc (Nat.le_refl _) _, by simp, heap_alloc_new w _⟩
theorem block4 {w : World} {b : Nat} {c0 c1 c2 c3 : Value} {t : TypeId} (h : w.heap[b]? = some (.cells #[c0, c1, c2, c3] t (0, 0))) :
    w.cell? ⟨b, 0, none⟩ = some c0 ∧ w.cell? ⟨b, 1, none⟩ = some c1 ∧ w.cell? ⟨b, 2, none⟩ = some c2 ∧ w.cell? ⟨b, 3, none⟩ = some c3 := by
  simp [World.cell?, h]

theorem lt_succ_of (a n : Nat) (h : a < n) : (a < n + 1) = True := eq_true (Nat.lt_succ_of_lt h)

/-! ### One of the values of a slice -/
theorem LC.at {w : World} {S : Nat → Prop} : ∀ {l : List V} {ad : Addr} {n : Nat}, LC w S l ad n → ∀ (i : Nat) (x : V), l[i]? = some x → S ad.block ∧ ∃ c, VC w S x c ∧ ∀ j u, c[j]? = some u → w.cell? (ad.add (n + i * 4 + j)) = some u
  | [], _, _, _, i, x, hx => by simp at hx
  | y :: ys, ad, n, h, i, x, hx => by
    simp only [LC] at h
    obtain ⟨h1, ⟨c, h2, h3⟩, h4⟩ := h
    cases i with
    | zero =>
      simp only [List.getElem?_cons_zero, Option.some.injEq] at hx
      subst hx
      exact ⟨h1, c, h2, by simpa using h3⟩
    | succ i =>
      simp only [List.getElem?_cons_succ] at hx
      obtain ⟨h5, c', h6, h7⟩ := LC.at h4 i x hx
      refine ⟨h5, c', h6, fun j u hu => ?_⟩
      have := h7 j u hu
      rwa [show n + (i + 1) * 4 + j = n + 4 + i * 4 + j by omega]
/-- The item at a place (a plain name, which simp leaves alone). -/
def itemAt (l : List V) (i : Nat) : V := l.getD i V.zero
theorem itemAt_get {l : List V} {i : Nat} (h : i < l.length) : l[i]? = some (itemAt l i) := by
  simp [itemAt, List.getD_eq_getElem?_getD, List.getElem?_eq_getElem h]
theorem itemAt_mem {l : List V} {i : Nat} (h : i < l.length) : itemAt l i ∈ l := List.mem_of_getElem? (itemAt_get h)
theorem itemAt_drop {l : List V} {i : Nat} (h : i < l.length) : l.drop i = itemAt l i :: l.drop (i + 1) := by
  rw [List.drop_eq_getElem_cons h]
  congr 1
  have := itemAt_get h
  rw [List.getElem?_eq_getElem h] at this
  exact Option.some.inj this
theorem itemAt_take {l : List V} {i : Nat} (h : i < l.length) : l.take (i + 1) = l.take i ++ [itemAt l i] := by
  rw [List.take_succ_eq_append_getElem h]
  congr 2
  have := itemAt_get h
  rw [List.getElem?_eq_getElem h] at this
  exact Option.some.inj this
/-- What the walk wants of a slice's item: its four cells, as the walk spells them. -/
theorem LA.at {w : World} {S : Nat → Prop} {l : List V} {A : Option Addr} (h : LA w S l A) (i : Nat) (hi : i < l.length) :
    ∃ ad A' cap, A = some ad ∧ (ad.add (i * 4)).block < w.heap.size ∧ V.Bd (itemAt l i) ∧ w.cell? (ad.add (i * 4)) = some (.int .i64 (itemAt l i).kind) ∧ w.cell? ⟨(ad.add (i * 4)).block, (ad.add (i * 4)).off + 1, none⟩ = some (.int .i64 (itemAt l i).num) ∧
      w.cell? ⟨(ad.add (i * 4)).block, (ad.add (i * 4)).off + 2, none⟩ = some (.string (itemAt l i).text) ∧ w.cell? ⟨(ad.add (i * 4)).block, (ad.add (i * 4)).off + 3, none⟩ = some (.slice A' (itemAt l i).items.length cap) ∧
      (itemAt l i).items.length ≤ cap ∧ LA w S (itemAt l i).items A' := by
  rcases h with rfl | ⟨ad, rfl, h⟩
  · exact absurd hi (by simp)
  · obtain ⟨hs, c, hv, hc⟩ := LC.at h i _ (itemAt_get hi)
    obtain ⟨hb, A', cap, rfl, h1, h2⟩ := hv.eq
    refine ⟨ad, A', cap, rfl, World.block_lt_of_cell? w _ (u := .int .i64 (itemAt l i).kind) ?_, hb, ?_, ?_, ?_, ?_, h1, h2⟩
    · have := hc 0 _ rfl; simpa using this
    · have := hc 0 _ rfl; simpa using this
    · rw [← addr_add_field _ _ 1 (by omega)]; have := hc 1 _ rfl; simpa using this
    · rw [← addr_add_field _ _ 2 (by omega)]; have := hc 2 _ rfl; simpa using this
    · rw [← addr_add_field _ _ 3 (by omega)]; have := hc 3 _ rfl; simpa using this
end Go.Proofs.YtaeldfnihocljaaDoor
