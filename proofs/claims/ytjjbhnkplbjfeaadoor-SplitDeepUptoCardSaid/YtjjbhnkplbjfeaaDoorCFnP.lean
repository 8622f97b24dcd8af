/- Plain answers; boxes. -/
import Derived.Test.YtjjbhnkplbjfeaaDoorCFnO
import Derived.Test.YtjjbhnkplbjfeaaDoorCValH

set_option linter.unusedVariables false
set_option linter.unusedSimpArgs false
namespace Go.Proofs.YtjjbhnkplbjfeaaDoor
open Go.RowKit
attribute [local go_sem] lt_succ_of

theorem CsL.split {w : World} {S : Nat → Prop} : ∀ {l : List V} {xs : List Value} (i : Nat), CsL w S l xs → i < l.length → ∃ p a b c d r, xs = p ++ a :: b :: c :: d :: r ∧ p.length = i * 4 ∧ CsL w S (l.take i) p ∧ CsL w S (l.drop (i + 1)) r
  | [], _, i, _, h => by simp at h
  | x :: l, xs, 0, ⟨y, z, e, h1, h2⟩, _ => by
    obtain ⟨A, cap, hy⟩ := h1.cells
    subst hy
    exact ⟨[], _, _, _, _, z, by rw [e]; rfl, rfl, by simp [CsL], by simpa using h2⟩
  | x :: l, xs, i + 1, ⟨y, z, e, h1, h2⟩, h => by
    obtain ⟨p, a, b, c, d, r, he, hp, h3, h4⟩ := CsL.split i h2 (by simpa using h)
    refine ⟨y ++ p, a, b, c, d, r, by rw [e, he, List.append_assoc], by rw [List.length_append, h1.length, hp]; omega, ?_, by simpa using h4⟩
    rw [List.take_succ_cons]
    exact ⟨y, p, rfl, h1, h3⟩
/-- A value stored into a slice of the call's own. -/
theorem OwnL.store {w : World} {base : Nat} {S : Nat → Prop} {l : List V} {v : Value} (h : OwnL w base S l v) {i : Nat} (hi : i < l.length) {y : V} {c0 c1 c2 c3 : Value} (hy : VC w (fun b => S b ∧ some b ≠ v.ownBlock) y [c0, c1, c2, c3]) :
    ∃ g cap, v = .slice (some ⟨g, 0, none⟩) l.length cap ∧ l.length ≤ cap ∧ base ≤ g ∧ g < w.heap.size ∧ (∃ a b c d, w.cell? ⟨g, i * 4, none⟩ = some a ∧ w.cell? ⟨g, i * 4 + 1, none⟩ = some b ∧ w.cell? ⟨g, i * 4 + 2, none⟩ = some c ∧ w.cell? ⟨g, i * 4 + 3, none⟩ = some d) ∧ (∀ n, w.frozen? ⟨g, n, none⟩ = false) ∧
      OwnL ((((w.setCell ⟨g, i * 4, none⟩ c0).setCell ⟨g, i * 4 + 1, none⟩ c1).setCell ⟨g, i * 4 + 2, none⟩ c2).setCell ⟨g, i * 4 + 3, none⟩ c3) base S (l.set i y) v := by
  obtain ⟨xs, ⟨h1, h2⟩, h3⟩ := h
  rcases h2 with ⟨rfl, h2⟩ | ⟨g, cap, cur, rfl, hg, hh, hc, hm, hs, ht⟩
  · omega
  · obtain ⟨p, a, b, c, d, r, he, hp, hl, hr⟩ := CsL.split i h3 hi
    obtain ⟨q, hq⟩ : ∃ q, cur = (p ++ a :: b :: c :: d :: (r ++ q)).toArray := by
      refine ⟨cur.toList.drop (l.length * 4), ?_⟩
      have h := List.take_append_drop (l.length * 4) cur.toList
      rw [ht, he] at h
      apply Array.toList_inj.1
      refine h.symm.trans ?_
      simp
    subst hq
    have hlt := (Array.getElem?_eq_some_iff.1 hh).1
    obtain ⟨g0, g1, g2, g3⟩ := cells4 hh hp
    refine ⟨g, cap, rfl, hc, hg, hlt, ⟨a, b, c, d, g0, g1, g2, g3⟩, free4 hh, p ++ c0 :: c1 :: c2 :: c3 :: r, ⟨?_, .inr ⟨g, cap, _, ?_, hg, block4set hh hp c0 c1 c2 c3, ?_, hm, ?_, ?_⟩⟩, ?_⟩
    · rw [List.length_set, ← h1, he]; simp
    · simp
    · simpa using hc
    · rw [← hs]; simp
    · rw [List.length_set, ← h1, he]
      rw [show (p ++ c0 :: c1 :: c2 :: c3 :: (r ++ q)).toArray.toList = (p ++ c0 :: c1 :: c2 :: c3 :: r) ++ q by simp]
      exact List.take_left' (by simp)
    · have hK : Keeps w (fun b => S b ∧ some b ≠ (Value.slice (some ⟨g, 0, none⟩) l.length cap).ownBlock) ((((w.setCell ⟨g, i * 4, none⟩ c0).setCell ⟨g, i * 4 + 1, none⟩ c1).setCell ⟨g, i * 4 + 2, none⟩ c2).setCell ⟨g, i * 4 + 3, none⟩ c3) (fun b => S b ∧ some b ≠ (Value.slice (some ⟨g, 0, none⟩) l.length cap).ownBlock) := by
        refine Keeps.set_after (Keeps.set_after (Keeps.set_after (Keeps.set ?_ c0) ?_ c1) ?_ c2) ?_ c3 <;> exact fun h => h.2 rfl
      have h5 : CsL w (fun b => S b ∧ some b ≠ (Value.slice (some ⟨g, 0, none⟩) l.length cap).ownBlock) (l.set i y) (p ++ c0 :: c1 :: c2 :: c3 :: r) := by
        rw [List.set_eq_take_append_cons_drop, if_pos hi]
        exact hl.append ⟨[c0, c1, c2, c3], r, rfl, hy, hr⟩
      exact h5.keep hK


def nthV (l : List V) (i : Int) : V × Int := if 0 ≤ i ∧ i < l.length then (itemAt l i.toNat, 0) else (V.zero, 5)
def setE (l : List V) (i : Int) (x : V) : Int := if rightB x = true then (if 0 ≤ i ∧ i < l.length then 0 else 5) else 3
def pushE (l : List V) (x : V) : Int := if rightB x = true then (if 65536 ≤ l.length then 2 else 0) else 3
theorem store_box {w : World} {b0 : Nat} {c0 c1 c2 c3 : Value} {t : TypeId} (h : w.heap[b0]? = some (.cells #[c0, c1, c2, c3] t (0, 0))) (d0 d1 d2 d3 : Value) :
    ∃ w5, (((w.setCell ⟨b0, 0, none⟩ d0).setCell ⟨b0, 1, none⟩ d1).setCell ⟨b0, 2, none⟩ d2).setCell ⟨b0, 3, none⟩ d3 = w5 ∧ w5.heap[b0]? = some (.cells #[d0, d1, d2, d3] t (0, 0)) ∧ w5.heap.size = w.heap.size ∧ (∀ b, b ≠ b0 → w5.heap[b]? = w.heap[b]?) ∧ ∀ B, B ≤ b0 → Below B w w5 := by
  refine ⟨_, rfl, ?_, by simp, fun b hb => ?_, fun B hB => ?_⟩
  · have h1 := blockset h 0 d0
    have h2 := blockset h1 1 d1
    have h3 := blockset h2 2 d2
    have h4 := blockset h3 3 d3
    simpa using h4
  · rw [Below.heap_setCell _ _ _ _ hb, Below.heap_setCell _ _ _ _ hb, Below.heap_setCell _ _ _ _ hb, Below.heap_setCell _ _ _ _ hb]
  · repeat refine Below.setCell ?_ hB _
    exact Below.refl _ _

def popX (l : List V) : V := (nthV l ((l.length : Int) - 1)).1
def popE (l : List V) : Int := if l.length = 0 then 6 else 0
theorem popX_last {l : List V} (h : 0 < l.length) : nthV l ((l.length : Int) - 1) = (popX l, 0) := by
  unfold popX nthV
  rw [if_pos (by omega)]
theorem store_box_drew {w : World} {b0 : Nat} {c0 c1 c2 c3 : Value} {t : TypeId} (h : w.heap[b0]? = some (.cells #[c0, c1, c2, c3] t (0, 0))) (d0 d1 d2 d3 : Value) :
    ∃ w5, ((((w.setCell ⟨b0, 0, none⟩ d0).setCell ⟨b0, 1, none⟩ d1).setCell ⟨b0, 2, none⟩ d2).setCell ⟨b0, 3, none⟩ d3).drew = w5 ∧ w5.heap[b0]? = some (.cells #[d0, d1, d2, d3] t (0, 0)) ∧ w5.heap.size = w.heap.size ∧ (∀ b, b ≠ b0 → w5.heap[b]? = w.heap[b]?) ∧ ∀ B, B ≤ b0 → Below B w w5 := by
  obtain ⟨w5, h1, h2, h3, h4, h5⟩ := store_box h d0 d1 d2 d3
  rw [h1]
  exact ⟨_, rfl, h2, h3, h4, fun B hB => (h5 B hB).drew⟩

end Go.Proofs.YtjjbhnkplbjfeaaDoor
