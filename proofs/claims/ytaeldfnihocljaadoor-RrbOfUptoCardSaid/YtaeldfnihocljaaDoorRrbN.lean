/- An item stored. -/
import Derived.Test.YtaeldfnihocljaaDoorRrbM
set_option linter.unusedVariables false
set_option linter.unusedSimpArgs false
namespace Go.Proofs.YtaeldfnihocljaaDoor
open Go.RowKit
attribute [local go_sem] lt_succ_of methLeaf methBranch asNone asSome asLeaf asBranch

theorem CsL.split {w : World} {S : Nat → Prop} : ∀ {l : List V} {xs : List Value} (i : Nat), CsL w S l xs → i < l.length → ∃ p a b c d r, xs = p ++ a :: b :: c :: d :: r ∧ p.length = i * 4 ∧ CsL w S (l.take i) p ∧ CsL w S (l.drop (i + 1)) r
  | [], _, i, _, h => by simp at h
  | x :: l, xs, 0, ⟨y, z, e, h1, h2⟩, _ => by
    obtain ⟨A, cap, hy⟩ := h1.cells
    subst hy
    exact ⟨[], _, _, _, _, z, by rw [e]; rfl, rfl, by simp [CsL], by simpa using h2⟩
  | x :: l, xs, i + 1, ⟨y, z, e, h1, h2⟩, h => by
    obtain ⟨p, a, b, c, d, r, he, hp, h3, h4⟩ := CsL.split i h2 (by simpa using h)
    refine ⟨y ++ p, a, b, c, d, r, by rw [e, he, List.append_assoc], by rw [List.length_append, h1.length, hp]; omega, ?_, by simpa using h4⟩
    rw [List.take_succ_cons]
    exact ⟨y, p, rfl, h1, h3⟩
/-- A value stored into a slice of the call's own. -/
theorem OwnL.store {w : World} {base : Nat} {S : Nat → Prop} {l : List V} {v : Value} (h : OwnL w base S l v) {i : Nat} (hi : i < l.length) {y : V} {c0 c1 c2 c3 : Value} (hy : VC w (fun b => S b ∧ some b ≠ v.ownBlock) y [c0, c1, c2, c3]) :
    ∃ g cap, v = .slice (some ⟨g, 0, none⟩) l.length cap ∧ l.length ≤ cap ∧ base ≤ g ∧ g < w.heap.size ∧ (∃ a b c d, w.cell? ⟨g, i * 4, none⟩ = some a ∧ w.cell? ⟨g, i * 4 + 1, none⟩ = some b ∧ w.cell? ⟨g, i * 4 + 2, none⟩ = some c ∧ w.cell? ⟨g, i * 4 + 3, none⟩ = some d) ∧ (∀ n, w.frozen? ⟨g, n, none⟩ = false) ∧
      OwnL ((((w.setCell ⟨g, i * 4, none⟩ c0).setCell ⟨g, i * 4 + 1, none⟩ c1).setCell ⟨g, i * 4 + 2, none⟩ c2).setCell ⟨g, i * 4 + 3, none⟩ c3) base S (l.set i y) v := by
  obtain ⟨xs, ⟨h1, h2⟩, h3⟩ := h
  rcases h2 with ⟨rfl, h2⟩ | ⟨g, cap, cur, rfl, hg, hh, hc, hm, hs, ht⟩
  · omega
  · obtain ⟨p, a, b, c, d, r, he, hp, hl, hr⟩ := CsL.split i h3 hi
    obtain ⟨q, hq⟩ : ∃ q, cur = (p ++ a :: b :: c :: d :: (r ++ q)).toArray := by
      refine ⟨cur.toList.drop (l.length * 4), ?_⟩
      have h := List.take_append_drop (l.length * 4) cur.toList
      rw [ht, he] at h
      apply Array.toList_inj.1
      refine h.symm.trans ?_
      simp
    subst hq
    have hlt := (Array.getElem?_eq_some_iff.1 hh).1
    obtain ⟨g0, g1, g2, g3⟩ := cells4 hh hp
    refine ⟨g, cap, rfl, hc, hg, hlt, ⟨a, b, c, d, g0, g1, g2, g3⟩, free4 hh, p ++ c0 :: c1 :: c2 :: c3 :: r, ⟨?_, .inr ⟨g, cap, _, ?_, hg, block4set hh hp c0 c1 c2 c3, ?_, hm, ?_, ?_⟩⟩, ?_⟩
    · rw [List.length_set, ← h1, he]; simp
    · simp
    · simpa using hc
    · rw [← hs]; simp
    · rw [List.length_set, ← h1, he]
      rw [show (p ++ c0 :: c1 :: c2 :: c3 :: (r ++ q)).toArray.toList = (p ++ c0 :: c1 :: c2 :: c3 :: r) ++ q by simp]
      exact List.take_left' (by simp)
    · have hK : Keeps w (fun b => S b ∧ some b ≠ (Value.slice (some ⟨g, 0, none⟩) l.length cap).ownBlock) ((((w.setCell ⟨g, i * 4, none⟩ c0).setCell ⟨g, i * 4 + 1, none⟩ c1).setCell ⟨g, i * 4 + 2, none⟩ c2).setCell ⟨g, i * 4 + 3, none⟩ c3) (fun b => S b ∧ some b ≠ (Value.slice (some ⟨g, 0, none⟩) l.length cap).ownBlock) := by
        refine Keeps.set_after (Keeps.set_after (Keeps.set_after (Keeps.set ?_ c0) ?_ c1) ?_ c2) ?_ c3 <;> exact fun h => h.2 rfl
      have h5 : CsL w (fun b => S b ∧ some b ≠ (Value.slice (some ⟨g, 0, none⟩) l.length cap).ownBlock) (l.set i y) (p ++ c0 :: c1 :: c2 :: c3 :: r) := by
        rw [List.set_eq_take_append_cons_drop, if_pos hi]
        exact hl.append ⟨[c0, c1, c2, c3], r, rfl, hy, hr⟩
      exact h5.keep hK
end Go.Proofs.YtaeldfnihocljaaDoor
