/- append of a zero value, and the value stored into its place behind. -/
import Derived.Deep.AppendLies
import Derived.Deep.RegionLaw
import Derived.Test.YtaeldfnihocljaaDoorCRrbK
import Derived.Test.YtaeldfnihocljaaDoorCBase

set_option linter.unusedVariables false
set_option linter.unusedSimpArgs false
namespace Go.Proofs.YtaeldfnihocljaaDoor
open Go.RowKit

/-- What append has left: the place at the end, to be filled. -/
structure Slot (W w1 : World) (S : Nat → Prop) (l : List V) (v : Value) (g cap1 : Nat) : Prop where
  grown : W.grownBy w1 v.ownBlock
  at' : v.ownBlock = some g ∨ g = W.heap.size
  glt : g < w1.heap.size
  cap : l.length + 1 ≤ cap1
  fz : ∀ n, w1.frozen? ⟨g, n, none⟩ = false
  z0 : w1.cell? ⟨g, l.length * 4, none⟩ = some (.int .i64 0)
  z1 : w1.cell? ⟨g, l.length * 4 + 1, none⟩ = some (.int .i64 0)
  z2 : w1.cell? ⟨g, l.length * 4 + 2, none⟩ = some (.string ⟨#[]⟩)
  z3 : w1.cell? ⟨g, l.length * 4 + 3, none⟩ = some (.slice none 0 0)
  fill : ∀ (W' : World) (y : V) (c0 c1 c2 c3 : Value), W'.heap[g]? = ((((w1.setCell ⟨g, l.length * 4, none⟩ c0).setCell ⟨g, l.length * 4 + 1, none⟩ c1).setCell ⟨g, l.length * 4 + 2, none⟩ c2).setCell ⟨g, l.length * 4 + 3, none⟩ c3).heap[g]? →
    (∀ b, b < W.heap.size → S b → some b ≠ v.ownBlock → W'.heap[b]? = W.heap[b]?) → VC W' (fun b => S b ∧ some b ≠ some g) y [c0, c1, c2, c3] → OwnL W' 0 S (l ++ [y]) (.slice (some ⟨g, 0, none⟩) (l.length + 1) cap1)
theorem append_slot {ops : Array Oper} {o : Oper} {a : Act} {K : Act → World → Prop} {Q : Exit → Act → World → Prop} {E : Prop} {W : World} (S : Nat → Prop) (hgd : o.guard = none) (s x : Operand) (ho : o.op = .call { callee := .builtin .append, args := #[s, x], argTypes := #[22, 22] })
    (v : Value) (l : List V) (m : Nat) (hs : a.eval s = v) (hx : a.eval x = .slice (some ⟨m, 0, none⟩) 1 1) (HO : OwnL W 0 S l v) (hm : W.heap[m]? = some (.cells #[.int .i64 0, .int .i64 0, .string ⟨#[]⟩, .slice none 0 0] 31 (0, 0))) (hl : l.length ≤ 4294967296) (Y : World → Prop) (hY : Y W)
    (h : ∀ g cap1 w1, Y W → Slot W w1 S l v g cap1 → K (a.put o.dst (.slice (some ⟨g, 0, none⟩) (l.length + 1) cap1)) w1) :
    if Region.wanted o (yielded ops a.tmps) = true then Oper.wp Tryd.prog o a W K Q else E := by
  obtain ⟨i0, hi, hz0, hz1, hz2⟩ := info_parts infoV
  obtain ⟨xs, hown, hcs⟩ := HO
  refine step_append_lies W hgd s x 22 ho 0 31 i0 _ 4 56 Tryd.underlying22 hi hz0 hz1 hz2 rfl (by decide) v l.length xs hs hown ⟨m, 0, none⟩ 1 1 [.int .i64 0, .int .i64 0, .string ⟨#[]⟩, .slice none 0 0] hx rfl
    (World.news_of_block (cs := #[.int .i64 0, .int .i64 0, .string ⟨#[]⟩, .slice none 0 0]) hm) (VC.one (w := W) (S := S) (x := V.zero) (VC.mk (x := V.zero) (cap := 0) (A := none) zero_bd (by simp [V.zero, V.items]) (.inl rfl))) (by omega) (by simp only [maxLen]; omega) (by omega) (by omega) _ rfl ?_
  intro g cap1 w1 hown1 hg hat hlt
  refine h g cap1 w1 hY ?_
  have hxl := hcs.length
  obtain ⟨hl1, hown2⟩ := hown1
  rcases hown2 with ⟨hz, _⟩ | ⟨g', cap', cur, he, hgb, hgh, hgc, hgm, hgs, hgt⟩
  · simp at hz
  simp only [Value.slice.injEq, Option.some.injEq, Addr.mk.injEq, and_true, true_and] at he
  obtain ⟨rfl, rfl⟩ := he
  obtain ⟨r, hr⟩ : ∃ r, cur = (xs ++ Value.int .i64 0 :: Value.int .i64 0 :: Value.string ⟨#[]⟩ :: Value.slice none 0 0 :: r).toArray := by
    refine ⟨cur.toList.drop ((l.length + 1) * 4), ?_⟩
    have h := List.take_append_drop ((l.length + 1) * 4) cur.toList
    rw [hgt] at h
    apply Array.toList_inj.1
    refine h.symm.trans ?_
    simp
  subst hr
  obtain ⟨g0, g1, g2, g3⟩ := cells4 hgh hxl
  refine ⟨hg, hat, hlt, by omega, free4 hgh, g0, g1, g2, g3, ?_⟩
  intro W' y c0 c1 c2 c3 hW' hk hy
  have hlen : (l ++ [y]).length = l.length + 1 := by simp
  rw [block4set hgh hxl] at hW'
  have hsz : (xs ++ c0 :: c1 :: c2 :: c3 :: r).toArray.size = cap1 * 4 := by rw [← hgs]; simp only [List.size_toArray, List.length_append, List.length_cons]
  have hK : Keeps W (fun b => S b ∧ some b ≠ v.ownBlock) W' (fun b => S b ∧ some b ≠ (Value.slice (some ⟨g, 0, none⟩) (l.length + 1) cap1).ownBlock) := fun b hb ⟨h1, h2⟩ => ⟨⟨h1, fun e => by
    have e' : b = g := by simpa [Value.ownBlock] using e
    rcases hat with h | h
    · exact h2 (by rw [h, e'])
    · omega⟩, hk b hb h1 h2⟩
  refine ⟨xs ++ [c0, c1, c2, c3], ⟨by rw [List.length_append, hxl, hlen]; simp; omega, .inr ⟨g, cap1, _, by rw [hlen], by omega, hW', by rw [hlen]; exact hgc, hgm, hsz, ?_⟩⟩, (hcs.keep hK).snoc hy⟩
  rw [hlen, show (xs ++ c0 :: c1 :: c2 :: c3 :: r).toArray.toList = (xs ++ [c0, c1, c2, c3]) ++ r by simp]
  exact List.take_left' (by simp; omega)
end Go.Proofs.YtaeldfnihocljaaDoor
