/- append to slices of numbers, of nodes, of a leaf's values. -/
import Derived.Test.YtaeldfnihocljaaDoorTree
import Derived.Test.YtaeldfnihocljaaDoorApp
import Derived.ArgAppend
set_option linter.unusedVariables false
set_option linter.unusedSimpArgs false
namespace Go.Proofs.YtaeldfnihocljaaDoor
open Go.RowKit

theorem infoI : (Tryd.prog.info? 3).map (fun i => (i.zero, i.size, i.bytes)) = some (some (.int .i64 0), 1, 8) := by kernel_rfl
theorem infoN : (Tryd.prog.info? 81).map (fun i => (i.zero, i.size, i.bytes)) = some (some .nilIface, 1, 16) := by kernel_rfl
/-- A slice of numbers of the call's own. -/
def OwnI (w : World) (base : Nat) (l : List Nat) (v : Value) : Prop := w.ownsRow base 3 1 v l.length (l.map fun n => Value.int .i64 ((n : Nat) : Int))
theorem OwnI.nil (w : World) (base : Nat) : OwnI w base [] (.slice none 0 0) := World.ownsRow_nil _ _ _ _
theorem OwnI.own_lt {w : World} {base : Nat} {l : List Nat} {v : Value} (h : OwnI w base l v) (k : Nat) (hk : v.ownBlock = some k) : base ≤ k ∧ k < w.heap.size := World.ownsRow.lt h k hk
theorem OwnI.keep {w w' : World} {base : Nat} {l : List Nat} {v : Value} (h : OwnI w base l v) (ho : ∀ k, v.ownBlock = some k → w'.heap[k]? = w.heap[k]?) : OwnI w' base l v := by
  obtain ⟨h1, h2⟩ := h
  refine ⟨h1, ?_⟩
  rcases h2 with h2 | ⟨g, cap, cur, rfl, hg, hh, r⟩
  · exact .inl h2
  · exact .inr ⟨g, cap, cur, rfl, hg, by rw [ho g rfl]; exact hh, r⟩
theorem OwnI.below {w w' : World} {base : Nat} {l : List Nat} {v : Value} (h : OwnI w base l v) (hb : Below w.heap.size w w') : OwnI w' base l v := h.keep fun k hk => hb.block k (h.own_lt k hk).2
theorem OwnI.form {w : World} {base : Nat} {l : List Nat} {v : Value} (h : OwnI w base l v) : ∃ A cap, v = .slice A l.length cap ∧ l.length ≤ cap := by
  obtain ⟨_, h⟩ := h
  rcases h with ⟨rfl, h⟩ | ⟨g, cap, cur, rfl, _, _, h, _⟩
  · exact ⟨none, 0, by rw [h], by omega⟩
  · exact ⟨_, cap, rfl, h⟩
/-- The numbers in it. -/
theorem OwnI.at {w : World} {base : Nat} {l : List Nat} {v : Value} (h : OwnI w base l v) (hl : 0 < l.length) : ∃ g cap, v = .slice (some ⟨g, 0, none⟩) l.length cap ∧ l.length ≤ cap ∧ base ≤ g ∧ ∀ i, i < l.length → w.cell? ((⟨g, 0, none⟩ : Addr).add i) = some (.int .i64 (l.getD i 0 : Nat)) := by
  obtain ⟨g1, h2⟩ := h
  rcases h2 with ⟨rfl, h2⟩ | ⟨g, cap, cur, rfl, hg, hh, hc, r⟩
  · omega
  · refine ⟨g, cap, rfl, hc, hg, fun i hi => ?_⟩
    refine World.ownsRow.cells (h := (⟨g1, .inr ⟨g, cap, cur, rfl, hg, hh, hc, r⟩⟩ : w.ownsRow base 3 1 _ l.length _)) rfl i _ ?_
    simp [List.getD_eq_getElem?_getD, List.getElem?_eq_getElem hi]

section
variable {ops : Array Oper} {rest : List Oper} {o : Oper} {a : Act} {Q : Exit → Act → World → Prop}
/-- append(v, n), n in the box that has just been made. -/
theorem appendI_one {W : World} (base : Nat) (hgd : o.guard = none) (s x : Operand) (ho : o.op = .call { callee := .builtin .append, args := #[s, x], argTypes := #[91, 91] })
    (v : Value) (l : List Nat) (n : Nat) (z : Int) (hz : z = (n : Int)) (hs : a.eval s = v) (hx : a.eval x = .slice (some ⟨W.heap.size, 0, none⟩) 1 1) (HO : OwnI W base l v)
    (hbase : base ≤ W.heap.size) (hl : l.length ≤ 4294967296)
    (h : ∀ v1 w1, OwnI w1 base (l ++ [n]) v1 → W.grownBy w1 v.ownBlock → wpList Tryd.prog ops Q rest (a.put o.dst v1) w1) :
    wpList Tryd.prog ops Q (o :: rest) a (W.alloc (.cells #[.int .i64 z] 3)) := by
  subst hz
  obtain ⟨i, hi, hz0, hz1, hz2⟩ := info_parts infoI
  refine wpList_append_own_at (W.alloc (.cells #[.int .i64 (n : Int)] 3)) hgd s x 91 ho base 3 i _ 1 8 Tryd.underlying91 hi hz0 hz1 hz2 rfl (by decide) v l.length _ hs (World.ownsRow.alloc HO _) ⟨W.heap.size, 0, none⟩ 1 1 [.int .i64 (n : Int)] hx rfl
    (cell_one_new _ _ _) (by simp [Value.oneCell']) (by simp only [maxLen]; omega) (by omega) (by simp; omega) ?_
  intro v1 w1 hown1 hg _ hat
  refine h v1 w1 ?_ (World.grownBy.trans (World.grownBy_alloc W _ _) hg)
  unfold OwnI
  rw [List.length_append, List.map_append]
  exact hown1
theorem ownN_after {W w1 : World} {base : Nat} {S : Nat → Prop} {l m : List N} {v v1 : Value} {xs ys : List Value} (h1 : CsN W (fun b => S b ∧ some b ≠ v.ownBlock) l xs) (h2 : CsN W (fun b => S b ∧ some b ≠ v.ownBlock) m ys)
    (hg : W.grownBy w1 v.ownBlock) (hat : v1.ownBlock = v.ownBlock ∨ v1.ownBlock = some W.heap.size) (hown : w1.ownsRow base 81 1 v1 (l.length + m.length) (xs ++ ys)) : OwnN w1 base S (l ++ m) v1 := by
  refine ⟨xs ++ ys, by rw [List.length_append]; exact hown, (h1.append h2).keep fun b hb ⟨hs, hne⟩ => ⟨⟨hs, ?_⟩, hg.block b hb hne⟩⟩
  rcases hat with hat | hat
  · rw [hat]; exact hne
  · rw [hat]
    intro e
    injection e with e
    omega
/-- append(v, k), k in the box that has just been made. -/
theorem appendN_one {W : World} (base : Nat) (S : Nat → Prop) (hgd : o.guard = none) (s x : Operand) (ho : o.op = .call { callee := .builtin .append, args := #[s, x], argTypes := #[90, 90] })
    (v : Value) (l : List N) (k : N) (u : Value) (hs : a.eval s = v) (hx : a.eval x = .slice (some ⟨W.heap.size, 0, none⟩) 1 1) (HO : OwnN W base S l v) (hu : IsN W (fun b => S b ∧ some b ≠ v.ownBlock) k u)
    (hbase : base ≤ W.heap.size) (hl : l.length ≤ 4294967296)
    (h : ∀ v1 w1, OwnN w1 base S (l ++ [k]) v1 → W.grownBy w1 v.ownBlock → (v1.ownBlock = v.ownBlock ∨ v1.ownBlock = some W.heap.size ∨ v1.ownBlock = some (W.heap.size + 1)) → wpList Tryd.prog ops Q rest (a.put o.dst v1) w1) :
    wpList Tryd.prog ops Q (o :: rest) a (W.alloc (.cells #[u] 81)) := by
  obtain ⟨i, hi, hz0, hz1, hz2⟩ := info_parts infoN
  obtain ⟨xs, hown, hcs⟩ := HO
  refine wpList_append_own_at (W.alloc (.cells #[u] 81)) hgd s x 90 ho base 81 i _ 1 16 Tryd.underlying90 hi hz0 hz1 hz2 rfl (by decide) v l.length xs hs (hown.alloc _) ⟨W.heap.size, 0, none⟩ 1 1 [u] hx rfl
    (cell_one_new _ _ _) (by simp [hu.one]) (by simp only [maxLen]; omega) (by omega) (by simp; omega) ?_
  intro v1 w1 hown1 hg _ hat
  refine h v1 w1 ?_ (World.grownBy.trans (World.grownBy_alloc W _ _) hg) (by simpa using hat.imp id Or.inr)
  have hk : Keeps W (fun b => S b ∧ some b ≠ v.ownBlock) (W.alloc (.cells #[u] 81)) (fun b => S b ∧ some b ≠ v.ownBlock) := Keeps.alloc _
  exact ownN_after (hcs.keep hk) (m := [k]) ⟨_, [], rfl, hu.keep hk, rfl⟩ hg hat hown1
/-- append([]node(nil), m...), m not empty. -/
theorem appendN_copy {W : World} (S : Nat → Prop) (hgd : o.guard = none) (s x : Operand) (ho : o.op = .call { callee := .builtin .append, args := #[s, x], argTypes := #[90, 90] })
    (m : List N) (ad : Addr) (cap : Nat) (hs : a.eval s = .slice none 0 0) (hx : a.eval x = .slice (some ad) m.length cap) (hm : KC W S m ad 0)
    (hl : m.length ≤ 4294967296)
    (h : ∀ v1 w1, OwnN w1 W.heap.size S m v1 → W.grownBy w1 none → wpList Tryd.prog ops Q rest (a.put o.dst v1) w1) :
    wpList Tryd.prog ops Q (o :: rest) a W := by
  obtain ⟨i, hi, hz0, hz1, hz2⟩ := info_parts infoN
  obtain ⟨ys, hys, hcell⟩ := KC.cs hm
  refine wpList_append_own_at W hgd s x 90 ho W.heap.size 81 i _ 1 16 Tryd.underlying90 hi hz0 hz1 hz2 rfl (by decide) (.slice none 0 0) 0 [] hs (World.ownsRow_nil _ _ _ _) ad m.length cap ys hx (by rw [hys.length]; omega)
      (fun j u hu => by simpa using hcell j u hu) hys.one (by simp only [maxLen]; omega) (by omega) (Nat.le_refl _) ?_
  intro v1 w1 hown1 hg _ hat
  exact h v1 w1 (ownN_after (W := W) (l := []) (v := .slice none 0 0) (xs := []) rfl (hys.keep (Keeps.weak fun b hb => ⟨hb, by simp [Value.ownBlock]⟩)) hg hat hown1) hg
/-- append(ks[:n:n], k), k in the box that has just been made: a new array. -/
theorem appendN_grow {W : World} (S : Nat → Prop) (hgd : o.guard = none) (s x : Operand) (ho : o.op = .call { callee := .builtin .append, args := #[s, x], argTypes := #[90, 90] })
    (m : List N) (ad : Addr) (k : N) (u : Value) (hs : a.eval s = .slice (some ad) m.length m.length) (hx : a.eval x = .slice (some ⟨W.heap.size, 0, none⟩) 1 1) (hm : KC W S m ad 0) (hu : IsN W S k u)
    (hl : m.length ≤ 4294967296)
    (h : ∀ v1 w1, OwnN w1 W.heap.size S (m ++ [k]) v1 → W.grownBy w1 none → wpList Tryd.prog ops Q rest (a.put o.dst v1) w1) :
    wpList Tryd.prog ops Q (o :: rest) a (W.alloc (.cells #[u] 81)) := by
  obtain ⟨i, hi, hz0, hz1, hz2⟩ := info_parts infoN
  have hm' : KC (W.alloc (.cells #[u] 81)) (fun b => S b ∧ b < W.heap.size) m ad 0 := hm.keep fun b hb hs => ⟨⟨hs, hb⟩, Below.heap_alloc _ _ _ hb⟩
  have hu' : IsN (W.alloc (.cells #[u] 81)) (fun b => S b ∧ b < W.heap.size) k u := hu.keep fun b hb hs => ⟨⟨hs, hb⟩, Below.heap_alloc _ _ _ hb⟩
  obtain ⟨ys, hys, hcell⟩ := KC.cs hm'
  have hold : ∀ b, some ad = some b → ∀ j t, ys[j]? = some t → (W.alloc (.cells #[u] 81)).cell? (b.add j) = some t := by
    intro b e j t hu
    have e' := Option.some.inj e
    rw [← e']
    have := hcell j t hu
    rwa [Nat.zero_add] at this
  refine wpList_append_grows (W.alloc (.cells #[u] 81)) hgd s x 90 ho 81 i _ 1 16 Tryd.underlying90 hi hz0 hz1 hz2 rfl (by decide) (some ad) m.length m.length ys hs (by simp) (by rw [hys.length]; omega)
      hold ⟨W.heap.size, 0, none⟩ 1 1 [u] hx rfl (cell_one_new _ _ _) (by simp [hu.one]) (by omega) (by simp only [maxLen]; omega) (by omega) ?_
  intro v1 w1 hown1 hg
  have hsz : W.heap.size < (W.alloc (.cells #[u] 81)).heap.size := by simp
  have hb := World.ownsRow.lt hown1
  have hK : Keeps (W.alloc (.cells #[u] 81)) (fun b => S b ∧ b < W.heap.size) w1 (fun b => S b ∧ some b ≠ v1.ownBlock) := fun b hb1 ⟨hs, hlt⟩ => ⟨⟨hs, fun e => by have := (hb b e.symm).1; omega⟩, hg.block b hb1 (by simp)⟩
  refine h v1 w1 ⟨ys ++ [u], ?_, (hys.keep hK).append ⟨u, [], rfl, hu'.keep hK, rfl⟩⟩ (World.grownBy.trans (World.grownBy_alloc W _ _) hg)
  rw [List.length_append]
  obtain ⟨h1, h2⟩ := hown1
  refine ⟨h1, ?_⟩
  rcases h2 with h2 | ⟨g, cap, cur, h2, h3, h4⟩
  · exact .inl h2
  · exact .inr ⟨g, cap, cur, h2, by omega, h4⟩
/-- append(leaf(nil), m...), m not empty. -/
theorem appendF_copy {W : World} (S : Nat → Prop) (hgd : o.guard = none) (s x : Operand) (ho : o.op = .call { callee := .builtin .append, args := #[s, x], argTypes := #[87, 87] })
    (m : List V) (ad : Addr) (cap : Nat) (hs : a.eval s = .slice none 0 0) (hx : a.eval x = .slice (some ad) m.length cap) (hm : LC W S m ad 0)
    (hl : m.length ≤ 4294967296)
    (h : ∀ v1 w1, OwnL w1 W.heap.size S m v1 → W.grownBy w1 none → wpList Tryd.prog ops Q rest (a.put o.dst v1) w1) :
    wpList Tryd.prog ops Q (o :: rest) a W := by
  obtain ⟨i, hi, hz0, hz1, hz2⟩ := info_parts infoV
  obtain ⟨ys, hys, hcell⟩ := LC.cs hm
  refine wpList_append_own_at W hgd s x 87 ho W.heap.size 31 i _ 4 56 Tryd.underlying87 hi hz0 hz1 hz2 rfl (by decide) (.slice none 0 0) 0 [] hs (World.ownsRow_nil _ _ _ _) ad m.length cap ys hx hys.length
      (fun j u hu => by simpa using hcell j u hu) hys.one (by simp only [maxLen]; omega) (by omega) (Nat.le_refl _) ?_
  intro v1 w1 hown1 hg _ hat
  exact h v1 w1 (own_after (W := W) (l := []) (v := .slice none 0 0) (xs := []) rfl (hys.keep (Keeps.weak fun b hb => ⟨hb, by simp [Value.ownBlock]⟩)) hg hat hown1) hg
/-- append(l[:n:n], x), x in the box that has just been made: a new array. -/
theorem appendF_grow {W : World} (S : Nat → Prop) (hgd : o.guard = none) (s x : Operand) (ho : o.op = .call { callee := .builtin .append, args := #[s, x], argTypes := #[87, 87] })
    (m : List V) (ad : Addr) (y : V) (c0 c1 c2 c3 : Value) (hs : a.eval s = .slice (some ad) m.length m.length) (hx : a.eval x = .slice (some ⟨W.heap.size, 0, none⟩) 1 1) (hm : LC W S m ad 0) (hy : VC W S y [c0, c1, c2, c3])
    (hl : m.length ≤ 4294967296)
    (h : ∀ v1 w1, OwnL w1 W.heap.size S (m ++ [y]) v1 → W.grownBy w1 none → wpList Tryd.prog ops Q rest (a.put o.dst v1) w1) :
    wpList Tryd.prog ops Q (o :: rest) a (W.alloc (.cells #[c0, c1, c2, c3] 31)) := by
  obtain ⟨i, hi, hz0, hz1, hz2⟩ := info_parts infoV
  have hm' : LC (W.alloc (.cells #[c0, c1, c2, c3] 31)) (fun b => S b ∧ b < W.heap.size) m ad 0 := hm.keep fun b hb hs => ⟨⟨hs, hb⟩, Below.heap_alloc _ _ _ hb⟩
  have hy' : VC (W.alloc (.cells #[c0, c1, c2, c3] 31)) (fun b => S b ∧ b < W.heap.size) y [c0, c1, c2, c3] := hy.keep fun b hb hs => ⟨⟨hs, hb⟩, Below.heap_alloc _ _ _ hb⟩
  obtain ⟨ys, hys, hcell⟩ := LC.cs hm'
  have hold : ∀ b, some ad = some b → ∀ j t, ys[j]? = some t → (W.alloc (.cells #[c0, c1, c2, c3] 31)).cell? (b.add j) = some t := by
    intro b e j t hu
    have e' := Option.some.inj e
    rw [← e']
    have := hcell j t hu
    rwa [Nat.zero_add] at this
  refine wpList_append_grows (W.alloc (.cells #[c0, c1, c2, c3] 31)) hgd s x 87 ho 31 i _ 4 56 Tryd.underlying87 hi hz0 hz1 hz2 rfl (by decide) (some ad) m.length m.length ys hs (by simp) hys.length
      hold ⟨W.heap.size, 0, none⟩ 1 1 [c0, c1, c2, c3] hx rfl (World.news_of_block (cs := #[c0, c1, c2, c3]) (heap_alloc_new W _)) hy.one (by omega) (by simp only [maxLen]; omega) (by omega) ?_
  intro v1 w1 hown1 hg
  have hsz : W.heap.size < (W.alloc (.cells #[c0, c1, c2, c3] 31)).heap.size := by simp
  have hb := World.ownsRow.lt hown1
  have hK : Keeps (W.alloc (.cells #[c0, c1, c2, c3] 31)) (fun b => S b ∧ b < W.heap.size) w1 (fun b => S b ∧ some b ≠ v1.ownBlock) := fun b hb1 ⟨hs, hlt⟩ => ⟨⟨hs, fun e => by have := (hb b e.symm).1; omega⟩, hg.block b hb1 (by simp)⟩
  refine h v1 w1 ⟨ys ++ [c0, c1, c2, c3], ?_, (hys.keep hK).append ⟨_, [], by simp, hy'.keep hK, rfl⟩⟩ (World.grownBy.trans (World.grownBy_alloc W _ _) hg)
  rw [List.length_append]
  obtain ⟨h1, h2⟩ := hown1
  refine ⟨h1, ?_⟩
  rcases h2 with h2 | ⟨g, cap, cur, h2, h3, h4⟩
  · exact .inl h2
  · exact .inr ⟨g, cap, cur, h2, by omega, h4⟩
end
end Go.Proofs.YtaeldfnihocljaaDoor
