/- Steps as data, and how a slice of them lies in memory. -/
import Derived.Test.YtjjbhnkplbjfeaaDoorCBase

set_option linter.unusedVariables false
namespace Go.Proofs.YtjjbhnkplbjfeaaDoor
open Go.RowKit

/-- A step: its kind, its place, its value. -/
structure St where
  kind : Int
  at_ : Int
  val : V
instance : Inhabited St := ⟨⟨0, 0, V.zero⟩⟩
structure St.Bd (x : St) : Prop where
  k0 : -9223372036854775808 ≤ x.kind
  k1 : x.kind ≤ 9223372036854775807
  a0 : -9223372036854775808 ≤ x.at_
  a1 : x.at_ ≤ 9223372036854775807
/-- The six cells of a step. -/
def SC (w : World) (S : Nat → Prop) (x : St) (c : List Value) : Prop := St.Bd x ∧ ∃ d, VC w S x.val d ∧ c = .int .i64 x.kind :: .int .i64 x.at_ :: d
theorem SC.keep {w w' : World} {S S' : Nat → Prop} (hk : Keeps w S w' S') {x : St} {c : List Value} (h : SC w S x c) : SC w' S' x c := by
  obtain ⟨h0, d, h1, h2⟩ := h
  exact ⟨h0, d, h1.keep hk, h2⟩
/-- Steps in an array, the first of them at ad. -/
def LT (w : World) (S : Nat → Prop) (l : List St) (ad : Addr) : Prop := ∀ i x, l[i]? = some x → S ad.block ∧ ∃ c, SC w S x c ∧ ∀ j u, c[j]? = some u → w.cell? (ad.add (i * 6 + j)) = some u
theorem LT.keep {w w' : World} {S S' : Nat → Prop} (hk : Keeps w S w' S') {l : List St} {ad : Addr} (h : LT w S l ad) : LT w' S' l ad := by
  intro i x hx
  obtain ⟨hs, c, h1, h2⟩ := h i x hx
  have h0 : 0 < c.length := by
    obtain ⟨_, d, _, rfl⟩ := h1
    simp
  have h3 := hk.cell (a := ad.add (i * 6 + 0)) (by rw [addr_add_block]; exact hs) (h2 0 _ (List.getElem?_eq_getElem h0))
  rw [addr_add_block] at h3
  refine ⟨h3.1, c, h1.keep hk, fun j u hu => ?_⟩
  exact (hk.cell (a := ad.add (i * 6 + j)) (by rw [addr_add_block]; exact hs) (h2 j u hu)).2
/-- A slice of steps. -/
def IsT (w : World) (S : Nat → Prop) (l : List St) (v : Value) : Prop := ∃ A cap, v = .slice A l.length cap ∧ l.length ≤ cap ∧ l.length ≤ 4294967296 ∧ (l = [] ∨ ∃ ad, A = some ad ∧ LT w S l ad)
theorem IsT.keep {w w' : World} {S S' : Nat → Prop} (hk : Keeps w S w' S') {l : List St} {v : Value} (h : IsT w S l v) : IsT w' S' l v := by
  obtain ⟨A, cap, h1, h2, h3, h4⟩ := h
  refine ⟨A, cap, h1, h2, h3, ?_⟩
  rcases h4 with h4 | ⟨ad, h4, h5⟩
  · exact .inl h4
  · exact .inr ⟨ad, h4, h5.keep hk⟩
theorem IsT.below {w w' : World} {S : Nat → Prop} (hk : Below w.heap.size w w') {l : List St} {v : Value} (h : IsT w S l v) : IsT w' S l v := h.keep (Keeps.below hk)
def stepAt (l : List St) (i : Nat) : St := l.getD i default
theorem stepAt_get {l : List St} {i : Nat} (h : i < l.length) : l[i]? = some (stepAt l i) := by
  simp [stepAt, List.getD_eq_getElem?_getD, List.getElem?_eq_getElem h]
/-- What the walk wants of a step in a slice: its six cells. -/
theorem IsT.at {w : World} {S : Nat → Prop} {l : List St} {A : Option Addr} {cap : Nat} (h : IsT w S l (.slice A l.length cap)) (i : Nat) (hi : i < l.length) :
    ∃ ad A' c', A = some ad ∧ (ad.add (i * 6)).block < w.heap.size ∧ St.Bd (stepAt l i) ∧ w.cell? (ad.add (i * 6)) = some (.int .i64 (stepAt l i).kind) ∧ w.cell? ⟨(ad.add (i * 6)).block, (ad.add (i * 6)).off + 1, none⟩ = some (.int .i64 (stepAt l i).at_) ∧
      w.cell? ⟨(ad.add (i * 6)).block, (ad.add (i * 6)).off + 2, none⟩ = some (.int .i64 (stepAt l i).val.kind) ∧ w.cell? ⟨(ad.add (i * 6)).block, (ad.add (i * 6)).off + 3, none⟩ = some (.int .i64 (stepAt l i).val.num) ∧
      w.cell? ⟨(ad.add (i * 6)).block, (ad.add (i * 6)).off + 4, none⟩ = some (.string (stepAt l i).val.text) ∧ w.cell? ⟨(ad.add (i * 6)).block, (ad.add (i * 6)).off + 5, none⟩ = some (.slice A' (stepAt l i).val.items.length c') ∧
      IsV w S (stepAt l i).val (.agg #[.int .i64 (stepAt l i).val.kind, .int .i64 (stepAt l i).val.num, .string (stepAt l i).val.text, .slice A' (stepAt l i).val.items.length c']) := by
  obtain ⟨A0, c0, e, _, _, h⟩ := h
  simp only [Value.slice.injEq, true_and] at e
  obtain ⟨rfl, rfl⟩ := e
  rcases h with rfl | ⟨ad, rfl, h⟩
  · simp at hi
  obtain ⟨hs, c, ⟨hb, d, hv, rfl⟩, hc⟩ := h i _ (stepAt_get hi)
  obtain ⟨hbd, A', cap', rfl, h1, h2⟩ := hv.eq
  have g0 := hc 0 _ rfl
  have g1 := hc 1 _ rfl
  have g2 := hc 2 _ rfl
  have g3 := hc 3 _ rfl
  have g4 := hc 4 _ rfl
  have g5 := hc 5 _ rfl
  rw [Nat.add_zero] at g0
  rw [addr_add_field _ _ _ (by omega)] at g1 g2 g3 g4 g5
  exact ⟨ad, A', cap', rfl, World.block_lt_of_cell? w _ g0, hb, g0, g1, g2, g3, g4, g5, IsV.mk hbd h1 h2⟩
end Go.Proofs.YtjjbhnkplbjfeaaDoor
