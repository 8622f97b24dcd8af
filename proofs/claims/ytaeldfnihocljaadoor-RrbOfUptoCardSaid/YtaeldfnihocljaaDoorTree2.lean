/- A node of a slice of the call's own. -/
import Derived.Test.YtaeldfnihocljaaDoorVec
set_option linter.unusedVariables false
namespace Go.Proofs.YtaeldfnihocljaaDoor
open Go.RowKit
theorem CsN.at {w : World} {S : Nat → Prop} : ∀ {l : List N} {c : List Value}, CsN w S l c → ∀ i, i < l.length → ∃ u, c[i]? = some u ∧ IsN w S (kidAt l i) u
  | [], _, _, i, hi => by simp at hi
  | x :: xs, c, ⟨a, b, e, h1, h2⟩, 0, _ => ⟨a, by rw [e]; rfl, h1⟩
  | x :: xs, c, ⟨a, b, e, h1, h2⟩, i + 1, hi => by
    obtain ⟨u, h3, h4⟩ := CsN.at h2 i (by simpa using hi)
    exact ⟨u, by rw [e]; simpa using h3, h4⟩
/-- A node of a slice of the call's own. -/
theorem OwnN.at {w : World} {base : Nat} {S : Nat → Prop} {l : List N} {v : Value} (h : OwnN w base S l v) {i : Nat} (hi : i < l.length) : ∃ g cap u, v = .slice (some ⟨g, 0, none⟩) l.length cap ∧ l.length ≤ cap ∧ base ≤ g ∧ g < w.heap.size ∧ w.cell? ⟨g, i, none⟩ = some u ∧ IsN w (fun b => S b ∧ some b ≠ v.ownBlock) (kidAt l i) u := by
  obtain ⟨xs, hown, h3⟩ := h
  obtain ⟨u, h4, h5⟩ := h3.at i hi
  have hlt := hown.lt
  obtain ⟨h1, h2⟩ := hown
  rcases h2 with ⟨rfl, h2⟩ | ⟨g, cap, cur, rfl, hg, hh, hc, r⟩
  · omega
  · refine ⟨g, cap, u, rfl, hc, hg, (hlt g rfl).2, ?_, h5⟩
    have := World.ownsRow.cells (h := (⟨h1, .inr ⟨g, cap, cur, rfl, hg, hh, hc, r⟩⟩ : w.ownsRow base 81 1 _ l.length xs)) rfl i u h4
    rwa [plus0] at this
theorem Dn.kid {h : Nat} {ks : List N} (hd : Dn (h + 2) (.branch ks)) (i : Nat) (hi : i < ks.length) : Dn (h + 1) (kidAt ks i) := by
  obtain ⟨js, k, e, h1, h2, h3⟩ := hd
  injection e with e
  have hm := kidAt_mem hi
  rw [e] at hm
  rcases List.mem_append.1 hm with hm | hm
  · rw [e]; exact (h2 _ hm).dn
  · rw [List.mem_singleton] at hm
    rw [e, hm]; exact h3
theorem itemAt_append_right {a b : List V} {i : Nat} : itemAt (a ++ b) (a.length + i) = itemAt b i := by
  unfold itemAt
  rw [List.getD_eq_getElem?_getD, List.getD_eq_getElem?_getD, List.getElem?_append_right (by omega), Nat.add_sub_cancel_left]
theorem itemAt_append_left {a b : List V} {i : Nat} (h : i < a.length) : itemAt (a ++ b) i = itemAt a i := by
  unfold itemAt
  simp [List.getD_eq_getElem?_getD, List.getElem?_append_left h]
theorem flat_split {ks : List N} {k : Nat} (hk : k < ks.length) : N.flat ks = N.flat (ks.take k) ++ (N.items (kidAt ks k) ++ N.flat (ks.drop (k + 1))) := by
  conv => lhs; rw [← List.take_append_drop k ks, kidAt_drop hk, flat_append, N.flat]
theorem itemAt_flat {ks : List N} {k j : Nat} (hk : k < ks.length) (hj : j < (N.items (kidAt ks k)).length) : itemAt (N.flat ks) (aheadN ks k + j) = itemAt (N.items (kidAt ks k)) j := by
  rw [flat_split hk]
  unfold aheadN
  rw [itemAt_append_right, itemAt_append_left hj]
theorem Dn.height {g : Nat} {ks : List N} (hd : Dn g (.branch ks)) : ∃ h, g = h + 2 := by
  match g, hd with
  | 1, hd => obtain ⟨l, e, _⟩ := hd; cases e
  | h + 2, _ => exact ⟨h, rfl⟩
end Go.Proofs.YtaeldfnihocljaaDoor
