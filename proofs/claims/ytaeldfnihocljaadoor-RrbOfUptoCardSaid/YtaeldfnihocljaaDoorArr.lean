/- Arrays of the call's own: cells that stand for values, stores into them. -/
import Derived.Test.YtaeldfnihocljaaDoorCore
import Derived.Laws.MakeOwn
set_option linter.unusedVariables false
namespace Go.Proofs.YtaeldfnihocljaaDoor
open Go.RowKit

/-- Cells that stand for values, four each. -/
def CsL (w : World) (S : Nat → Prop) : List V → List Value → Prop
  | [], c => c = []
  | x :: xs, c => ∃ a b, c = a ++ b ∧ VC w S x a ∧ CsL w S xs b
theorem CsL.keep {w w' : World} {S S' : Nat → Prop} (hk : Keeps w S w' S') : ∀ {l : List V} {c : List Value}, CsL w S l c → CsL w' S' l c
  | [], _, h => h
  | x :: xs, c, ⟨a, b, e, h1, h2⟩ => ⟨a, b, e, h1.keep hk, CsL.keep hk h2⟩
theorem CsL.length {w : World} {S : Nat → Prop} : ∀ {l : List V} {c : List Value}, CsL w S l c → c.length = l.length * 4
  | [], _, h => by cases h; rfl
  | x :: xs, c, ⟨a, b, e, h1, h2⟩ => by rw [e, List.length_append, h1.length, CsL.length h2, List.length_cons]; omega
theorem CsL.snoc {w : World} {S : Nat → Prop} {x : V} {a : List Value} : ∀ {l : List V} {c : List Value}, CsL w S l c → VC w S x a → CsL w S (l ++ [x]) (c ++ a)
  | [], _, h, hx => by cases h; exact ⟨a, [], by simp, hx, rfl⟩
  | y :: ys, c, ⟨d, b, e, h1, h2⟩, hx => ⟨d, b ++ a, by rw [e, List.append_assoc], h1, CsL.snoc h2 hx⟩
theorem CsL.append {w : World} {S : Nat → Prop} {m : List V} {d : List Value} : ∀ {l : List V} {c : List Value}, CsL w S l c → CsL w S m d → CsL w S (l ++ m) (c ++ d)
  | [], _, h, hx => by cases h; exact hx
  | y :: ys, c, ⟨a, b, e, h1, h2⟩, hx => ⟨a, b ++ d, by rw [e, List.append_assoc], h1, CsL.append h2 hx⟩
theorem CsL.one {w : World} {S : Nat → Prop} : ∀ {l : List V} {c : List Value}, CsL w S l c → ∀ u ∈ c, u.oneCell' = true
  | [], _, h, u, hu => by cases h; cases hu
  | x :: xs, c, ⟨a, b, e, h1, h2⟩, u, hu => by
    rw [e, List.mem_append] at hu
    rcases hu with hu | hu
    · exact h1.one u hu
    · exact CsL.one h2 u hu
/-- What stands in cells is a slice's. -/
theorem CsL.lc {w : World} {S : Nat → Prop} {ad : Addr} (hs : S ad.block) : ∀ {l : List V} {c : List Value} {n : Nat}, CsL w S l c → (∀ j u, c[j]? = some u → w.cell? (ad.add (n + j)) = some u) → LC w S l ad n
  | [], _, _, _, _ => by simp only [LC]
  | x :: xs, c, n, ⟨a, b, e, h1, h2⟩, h => by
    simp only [LC]
    subst e
    have hl := h1.length
    refine ⟨hs, ⟨a, h1, fun j u hu => h j u ?_⟩, CsL.lc hs h2 fun j u hu => ?_⟩
    · rw [List.getElem?_append_left (by rw [List.getElem?_eq_some_iff] at hu; exact hu.1)]
      exact hu
    · rw [show n + 4 + j = n + (a.length + j) by omega]
      refine h _ u ?_
      rw [List.getElem?_append_right (by omega), Nat.add_sub_cancel_left]
      exact hu
/-- And the other way round. -/
theorem LC.cs {w : World} {S : Nat → Prop} : ∀ {l : List V} {ad : Addr} {n : Nat}, LC w S l ad n → ∃ c, CsL w S l c ∧ ∀ j u, c[j]? = some u → w.cell? (ad.add (n + j)) = some u
  | [], _, _, _ => ⟨[], rfl, fun j u h => by simp at h⟩
  | x :: xs, ad, n, h => by
    simp only [LC] at h
    obtain ⟨h1, ⟨a, h2, h3⟩, h4⟩ := h
    obtain ⟨b, h5, h6⟩ := LC.cs h4
    refine ⟨a ++ b, ⟨a, b, rfl, h2, h5⟩, fun j u hu => ?_⟩
    have hl := h2.length
    rcases Nat.lt_or_ge j a.length with hj | hj
    · rw [List.getElem?_append_left hj] at hu
      exact h3 j u hu
    · rw [List.getElem?_append_right hj] at hu
      have := h6 _ u hu
      rwa [show n + 4 + (j - a.length) = n + j by omega] at this
theorem plus0 (g j : Nat) : (⟨g, 0, none⟩ : Addr).add j = ⟨g, j, none⟩ := by unfold Addr.add; split <;> simp_all
theorem block_cells {w : World} {B : Nat} {c : List Value} {t : TypeId} {fz : Nat × Nat} (h : w.heap[B]? = some (.cells c.toArray t fz)) : ∀ j u, c[j]? = some u → w.cell? ((⟨B, 0, none⟩ : Addr).add (0 + j)) = some u := by
  intro j u hu
  rw [plus0, Nat.zero_add]
  simp [World.cell?, h, hu]
theorem CsL.la {w : World} {S : Nat → Prop} {B : Nat} {l : List V} {c : List Value} {t : TypeId} {fz : Nat × Nat} (h : CsL w S l c) (hB : w.heap[B]? = some (.cells c.toArray t fz)) (hs : S B) : LA w S l (some ⟨B, 0, none⟩) :=
  .inr ⟨_, rfl, CsL.lc hs h (block_cells hB)⟩
/-- The block is longer than what is told of it. -/
theorem CsL.la_more {w : World} {S : Nat → Prop} {B : Nat} {l : List V} {c d : List Value} {t : TypeId} {fz : Nat × Nat} (h : CsL w S l c) (hB : w.heap[B]? = some (.cells (c ++ d).toArray t fz)) (hs : S B) : LA w S l (some ⟨B, 0, none⟩) :=
  .inr ⟨_, rfl, CsL.lc hs h fun j u hu => block_cells hB j u (by rw [List.getElem?_append_left (by rw [List.getElem?_eq_some_iff] at hu; exact hu.1)]; exact hu)⟩

/-! ### Four stores -/
theorem blockset {w : World} {g : Nat} {t : TypeId} {cs : Array Value} (h : w.heap[g]? = some (.cells cs t (0, 0))) (i : Nat) (u : Value) : (w.setCell ⟨g, i, none⟩ u).heap[g]? = some (.cells (cs.setIfInBounds i u) t (0, 0)) := by
  simp [World.setCell, Array.getElem?_modify, h]
theorem blockother {w : World} {g : Nat} {o : Obj} (h : w.heap[g]? = some o) {p : Addr} (hp : g ≠ p.block) (u : Value) : (w.setCell p u).heap[g]? = some o := (Below.heap_setCell w p u g hp).trans h
theorem set4 (p r : List Value) (a b c d a' b' c' d' : Value) {n : Nat} (hn : p.length = n) : (((((p ++ a :: b :: c :: d :: r).toArray.setIfInBounds n a').setIfInBounds (n + 1) b').setIfInBounds (n + 2) c').setIfInBounds (n + 3) d') = (p ++ a' :: b' :: c' :: d' :: r).toArray := by
  subst hn
  simp
theorem block4set {w : World} {g : Nat} {t : TypeId} {p r : List Value} {a b c d : Value} (h : w.heap[g]? = some (.cells (p ++ a :: b :: c :: d :: r).toArray t (0, 0))) {n : Nat} (hn : p.length = n) (a' b' c' d' : Value) :
    ((((w.setCell ⟨g, n, none⟩ a').setCell ⟨g, n + 1, none⟩ b').setCell ⟨g, n + 2, none⟩ c').setCell ⟨g, n + 3, none⟩ d').heap[g]? = some (.cells (p ++ a' :: b' :: c' :: d' :: r).toArray t (0, 0)) := by
  have := blockset (blockset (blockset (blockset h n a') (n + 1) b') (n + 2) c') (n + 3) d'
  rw [this, set4 p r a b c d a' b' c' d' hn]
theorem cells4 {w : World} {g : Nat} {t : TypeId} {p r : List Value} {a b c d : Value} (h : w.heap[g]? = some (.cells (p ++ a :: b :: c :: d :: r).toArray t (0, 0))) {n : Nat} (hn : p.length = n) :
    w.cell? ⟨g, n, none⟩ = some a ∧ w.cell? ⟨g, n + 1, none⟩ = some b ∧ w.cell? ⟨g, n + 2, none⟩ = some c ∧ w.cell? ⟨g, n + 3, none⟩ = some d := by
  subst hn
  simp [World.cell?, h]
theorem free4 {w : World} {g : Nat} {t : TypeId} {cs : Array Value} (h : w.heap[g]? = some (.cells cs t (0, 0))) (n : Nat) : w.frozen? ⟨g, n, none⟩ = false := by simp [World.frozen?, h]
theorem split4 {q : List Value} {n : Nat} (h : q.length = n * 4) (hn : 0 < n) : ∃ a b c d r, q = a :: b :: c :: d :: r ∧ r.length = (n - 1) * 4 := by
  match q, h with
  | a :: b :: c :: d :: r, h => exact ⟨a, b, c, d, r, rfl, by simp at h; omega⟩
  | [], h => simp at h; omega
  | [_], h => simp at h; omega
  | [_, _], h => simp at h; omega
  | [_, _, _], h => simp at h; omega
theorem cell_new2 (w : World) (c0 c1 : Value) (t : TypeId) : (w.alloc (.cells #[c0, c1] t)).cell? ⟨w.heap.size, 0, none⟩ = some c0 ∧ (w.alloc (.cells #[c0, c1] t)).cell? ⟨w.heap.size, 1, none⟩ = some c1 := by
  have h := heap_alloc_new w (.cells #[c0, c1] t)
  constructor <;> simp only [World.cell?, h] <;> rfl

/-! ### Parts of slices -/
def lenV : Value → Nat
  | .slice _ n _ => n
  | _ => 0
theorem LC.take {w : World} {S : Nat → Prop} : ∀ {l : List V} {ad : Addr} {m : Nat} (n : Nat), LC w S l ad m → LC w S (l.take n) ad m
  | [], _, _, n, h => by simpa using h
  | x :: xs, ad, m, 0, h => by simp only [List.take_zero, LC]
  | x :: xs, ad, m, n + 1, h => by
    simp only [LC, List.take_succ_cons] at h ⊢
    exact ⟨h.1, h.2.1, LC.take n h.2.2⟩
theorem LC.drop {w : World} {S : Nat → Prop} : ∀ {l : List V} {ad : Addr} {m : Nat} (n : Nat), LC w S l ad m → LC w S (l.drop n) ad (m + n * 4)
  | [], _, _, n, h => by simp only [List.drop_nil, LC]
  | x :: xs, ad, m, 0, h => by simpa using h
  | x :: xs, ad, m, n + 1, h => by
    simp only [LC, List.drop_succ_cons] at h ⊢
    have := LC.drop n h.2.2
    rwa [show m + 4 + n * 4 = m + (n + 1) * 4 by omega] at this
theorem LC.move {w : World} {S : Nat → Prop} {p : Nat} : ∀ {l : List V} {ad : Addr} {m : Nat}, LC w S l ad (p + m) → LC w S l (ad.add p) m
  | [], _, _, _ => by simp only [LC]
  | x :: xs, ad, m, h => by
    simp only [LC] at h ⊢
    refine ⟨by rw [addr_add_block]; exact h.1, ?_, LC.move (by rw [← Nat.add_assoc]; exact h.2.2)⟩
    obtain ⟨c, h1, h2⟩ := h.2.1
    exact ⟨c, h1, fun j u hu => by rw [addr_add_add, ← Nat.add_assoc]; exact h2 j u hu⟩
/-- l[:n]. -/
theorem LA.take {w : World} {S : Nat → Prop} {l : List V} {A : Option Addr} (n : Nat) (h : LA w S l A) : LA w S (l.take n) A := by
  rcases h with rfl | ⟨ad, h1, h2⟩
  · exact .inl (by simp)
  · exact .inr ⟨ad, h1, h2.take n⟩
/-- l[n:]. -/
theorem LA.drop {w : World} {S : Nat → Prop} {l : List V} {ad : Addr} (n : Nat) (h : LA w S l (some ad)) : LA w S (l.drop n) (some (ad.add (n * 4))) := by
  rcases h with rfl | ⟨ad', h1, h2⟩
  · exact .inl (by simp)
  · injection h1 with h1
    subst h1
    exact .inr ⟨_, rfl, LC.move (by have := h2.drop n; simpa using this)⟩
end Go.Proofs.YtaeldfnihocljaaDoor
