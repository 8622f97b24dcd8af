/- append to a slice of values of the call's own. -/
import Derived.Test.YtaeldfnihocljaaDoorValE
import Derived.Maps.AppendAt
import Derived.Deep.AppendLies
set_option linter.unusedVariables false
set_option linter.unusedSimpArgs false
namespace Go.Proofs.YtaeldfnihocljaaDoor
open Go.RowKit

/-- A slice of the call's own, in a block from base on; its items lie in blocks of S, none of them its own. -/
def OwnL (w : World) (base : Nat) (S : Nat → Prop) (l : List V) (v : Value) : Prop := ∃ xs, w.ownsRow base 31 4 v l.length xs ∧ CsL w (fun b => S b ∧ some b ≠ v.ownBlock) l xs
theorem OwnL.nil (w : World) (base : Nat) (S : Nat → Prop) : OwnL w base S [] (.slice none 0 0) := ⟨[], World.ownsRow_nil _ _ _ _, rfl⟩
theorem OwnL.keep {w w' : World} {base : Nat} {S S' : Nat → Prop} {l : List V} {v : Value} (h : OwnL w base S l v) (hk : Keeps w S w' S') (ho : ∀ k, v.ownBlock = some k → w'.heap[k]? = w.heap[k]?) : OwnL w' base S' l v := by
  obtain ⟨xs, ⟨h1, h2⟩, h3⟩ := h
  refine ⟨xs, ⟨h1, ?_⟩, h3.keep fun b hb ⟨hs, hne⟩ => ⟨⟨(hk b hb hs).1, hne⟩, (hk b hb hs).2⟩⟩
  rcases h2 with h2 | ⟨g, cap, cur, rfl, hg, hh, r⟩
  · exact .inl h2
  · exact .inr ⟨g, cap, cur, rfl, hg, by rw [ho g rfl]; exact hh, r⟩
theorem OwnL.own_lt {w : World} {base : Nat} {S : Nat → Prop} {l : List V} {v : Value} (h : OwnL w base S l v) (k : Nat) (hk : v.ownBlock = some k) : base ≤ k ∧ k < w.heap.size := by
  obtain ⟨xs, h, _⟩ := h
  exact h.lt k hk
theorem OwnL.below {w w' : World} {base : Nat} {S : Nat → Prop} {l : List V} {v : Value} (h : OwnL w base S l v) (hb : Below w.heap.size w w') : OwnL w' base S l v :=
  h.keep (Keeps.below hb) fun k hk => hb.block k (h.own_lt k hk).2
theorem OwnL.alloc {w : World} {base : Nat} {S : Nat → Prop} {l : List V} {v : Value} (h : OwnL w base S l v) (o : Obj) : OwnL (w.alloc o) base S l v := h.below ((Below.refl _ _).alloc (Nat.le_refl _) _)
theorem OwnL.set {w : World} {base : Nat} {S : Nat → Prop} {l : List V} {v : Value} (h : OwnL w base S l v) {p : Addr} (hp : ¬ S p.block) (hne : ∀ k, v.ownBlock = some k → k ≠ p.block) (u : Value) : OwnL (w.setCell p u) base S l v :=
  h.keep (Keeps.set hp u) fun k hk => Below.heap_setCell _ _ _ _ (hne k hk)
theorem OwnL.form {w : World} {base : Nat} {S : Nat → Prop} {l : List V} {v : Value} (h : OwnL w base S l v) : ∃ A cap, v = .slice A l.length cap ∧ l.length ≤ cap := by
  obtain ⟨xs, ⟨_, h⟩, _⟩ := h
  rcases h with ⟨rfl, h⟩ | ⟨g, cap, cur, rfl, _, _, h, _⟩
  · exact ⟨none, 0, by rw [h], by omega⟩
  · exact ⟨_, cap, rfl, h⟩
/-- It is a slice of values. -/
theorem OwnL.is {w : World} {base : Nat} {S S' : Nat → Prop} {l : List V} {v : Value} (h : OwnL w base S l v) (hs : ∀ b, S b → S' b) (hb : ∀ b, base ≤ b → S' b) (hl : l.length ≤ 4294967296) : IsS w S' l v := by
  obtain ⟨xs, h1, h2⟩ := h
  have h2' : CsL w S' l xs := h2.keep (Keeps.weak fun b h => hs b h.1)
  obtain ⟨h3, h4⟩ := h1
  rcases h4 with ⟨rfl, h4⟩ | ⟨g, cap, cur, rfl, hg, hh, hc, _, _, ht⟩
  · obtain rfl : l = [] := List.eq_nil_of_length_eq_zero h4
    exact ⟨none, 0, rfl, by simp, by simp, .inl rfl⟩
  · refine ⟨_, cap, rfl, hc, hl, .inr ⟨_, rfl, CsL.lc (hb g hg) h2' fun j u hu => ?_⟩⟩
    rw [plus0, Nat.zero_add]
    have h5 : cur.toList[j]? = some u := by
      rw [← ht] at hu
      rw [List.getElem?_take] at hu
      split at hu
      · exact hu
      · cases hu
    simp only [World.cell?, hh]
    simpa using h5

section
variable {ops : Array Oper} {rest : List Oper} {o : Oper} {a : Act} {Q : Exit → Act → World → Prop}
theorem own_after {W w1 : World} {base : Nat} {S : Nat → Prop} {l m : List V} {v v1 : Value} {xs ys : List Value} (h1 : CsL W (fun b => S b ∧ some b ≠ v.ownBlock) l xs) (h2 : CsL W (fun b => S b ∧ some b ≠ v.ownBlock) m ys)
    (hg : W.grownBy w1 v.ownBlock) (hat : v1.ownBlock = v.ownBlock ∨ v1.ownBlock = some W.heap.size) (hown : w1.ownsRow base 31 4 v1 (l.length + m.length) (xs ++ ys)) : OwnL w1 base S (l ++ m) v1 := by
  refine ⟨xs ++ ys, by rw [List.length_append]; exact hown, (h1.append h2).keep fun b hb ⟨hs, hne⟩ => ⟨⟨hs, ?_⟩, hg.block b hb hne⟩⟩
  rcases hat with hat | hat
  · rw [hat]; exact hne
  · rw [hat]
    intro e
    injection e with e
    omega
/-- append(v, x), x in the box that has just been made. -/
theorem append_one {W : World} (base : Nat) (S : Nat → Prop) (hgd : o.guard = none) (s x : Operand) (ho : o.op = .call { callee := .builtin .append, args := #[s, x], argTypes := #[22, 22] })
    (v : Value) (l : List V) (y : V) (c0 c1 c2 c3 : Value) (hs : a.eval s = v) (hx : a.eval x = .slice (some ⟨W.heap.size, 0, none⟩) 1 1) (HO : OwnL W base S l v) (hy : VC W (fun b => S b ∧ some b ≠ v.ownBlock) y [c0, c1, c2, c3])
    (hbase : base ≤ W.heap.size) (hl : l.length ≤ 4294967296)
    (h : ∀ v1 w1, OwnL w1 base S (l ++ [y]) v1 → W.grownBy w1 v.ownBlock → wpList Tryd.prog ops Q rest (a.put o.dst v1) w1) :
    wpList Tryd.prog ops Q (o :: rest) a (W.alloc (.cells #[c0, c1, c2, c3] 31)) := by
  obtain ⟨i, hi, hz0, hz1, hz2⟩ := info_parts infoV
  obtain ⟨xs, hown, hcs⟩ := HO
  refine wpList_append_own_at (W.alloc (.cells #[c0, c1, c2, c3] 31)) hgd s x 22 ho base 31 i _ 4 56 Tryd.underlying22 hi hz0 hz1 hz2 rfl (by decide) v l.length xs hs (hown.alloc _) ⟨W.heap.size, 0, none⟩ 1 1 [c0, c1, c2, c3] hx rfl
    (World.news_of_block (cs := #[c0, c1, c2, c3]) (heap_alloc_new W _)) hy.one (by simp only [maxLen]; omega) (by omega) (by simp; omega) ?_
  intro v1 w1 hown1 hg _ hat
  have hg' : W.grownBy w1 v.ownBlock := World.grownBy.trans (World.grownBy_alloc W _ _) hg
  refine h v1 w1 ?_ hg'
  have hk : Keeps W (fun b => S b ∧ some b ≠ v.ownBlock) (W.alloc (.cells #[c0, c1, c2, c3] 31)) (fun b => S b ∧ some b ≠ v.ownBlock) := Keeps.alloc _
  exact own_after (hcs.keep hk) (m := [y]) ⟨_, [], by simp, hy.keep hk, rfl⟩ hg hat hown1
/-- append(v, m...), m a slice of values. -/
theorem append_many {W : World} (base : Nat) (S : Nat → Prop) (hgd : o.guard = none) (s x : Operand) (ho : o.op = .call { callee := .builtin .append, args := #[s, x], argTypes := #[22, 22] })
    (v : Value) (l m : List V) (A : Option Addr) (cap : Nat) (hs : a.eval s = v) (hx : a.eval x = .slice A m.length cap) (HO : OwnL W base S l v) (hm : LA W (fun b => S b ∧ some b ≠ v.ownBlock) m A)
    (hbase : base ≤ W.heap.size) (hl : l.length + m.length ≤ 4294967296)
    (h : ∀ v1 w1, OwnL w1 base S (l ++ m) v1 → W.grownBy w1 v.ownBlock → wpList Tryd.prog ops Q rest (a.put o.dst v1) w1) :
    wpList Tryd.prog ops Q (o :: rest) a W := by
  obtain ⟨i, hi, hz0, hz1, hz2⟩ := info_parts infoV
  obtain ⟨xs, hown, hcs⟩ := HO
  rcases hm with rfl | ⟨ad, rfl, hm⟩
  · have hrun : (Builtin.append_ #[22, 22] o.type #[v, .slice A 0 cap]).run Tryd.prog W = .ok v W := by
      rcases hown.2 with ⟨rfl, hn⟩ | ⟨g, cap', cur, rfl, _, _, hnc, _⟩
      · cases A <;> simp [Builtin.append_, run_underlying Tryd.underlying22, sizeOf, typeInfo, hi, Builtin.lenOf, Builtin.firstCells, loadCells, loadCellsFrom]
      · cases A <;> simp [Builtin.append_, run_underlying Tryd.underlying22, sizeOf, typeInfo, hi, Builtin.lenOf, Builtin.firstCells, hnc, storeCells, loadCells, loadCellsFrom]
    refine wpList_plain hgd fun K hK => ?_
    unfold Oper.wp execOp
    simp only [ho, resolve, invoke, builtin, Sem.run_bind, Sem.run_pure, Result.andThen_ok, List.map_toArray, List.map_cons, List.map_nil, hs, hx, List.length_nil, hrun]
    exact hK _ _ (h v W (by rw [List.append_nil]; exact ⟨xs, hown, hcs⟩) (World.grownBy.refl W _))
  · obtain ⟨ys, hys, hcell⟩ := LC.cs hm
    refine wpList_append_own_at W hgd s x 22 ho base 31 i _ 4 56 Tryd.underlying22 hi hz0 hz1 hz2 rfl (by decide) v l.length xs hs hown ad m.length cap ys hx hys.length
      (fun j u hu => by simpa using hcell j u hu) hys.one (by simp only [maxLen]; omega) (by omega) hbase ?_
    intro v1 w1 hown1 hg _ hat
    exact h v1 w1 (own_after hcs hys hg hat hown1) hg
end
end Go.Proofs.YtaeldfnihocljaaDoor
