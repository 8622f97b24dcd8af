/- Slices of parts of the call's own; append. -/
import Derived.ArgAppend
import Derived.Test.YtjjbhnkplbjfeaaDoorCFnC

set_option linter.unusedVariables false
set_option linter.unusedSimpArgs false
namespace Go.Proofs.YtjjbhnkplbjfeaaDoor
open Go.RowKit

theorem infoP : (Tryd.prog.info? 115).map (fun i => (i.zero, i.size, i.bytes)) = some (some .nilIface, 1, 16) := by kernel_rfl
/-- A slice of nodes of the call's own. -/
def OwnP (w : World) (base : Nat) (S : Nat → Prop) (ks : List Pt) (v : Value) : Prop := ∃ xs, w.ownsRow base 115 1 v ks.length xs ∧ CsP w (fun b => S b ∧ some b ≠ v.ownBlock) ks xs
theorem OwnP.nil (w : World) (base : Nat) (S : Nat → Prop) : OwnP w base S [] (.slice none 0 0) := ⟨[], World.ownsRow_nil _ _ _ _, rfl⟩
theorem OwnP.keep {w w' : World} {base : Nat} {S S' : Nat → Prop} {l : List Pt} {v : Value} (h : OwnP w base S l v) (hk : Keeps w S w' S') (ho : ∀ k, v.ownBlock = some k → w'.heap[k]? = w.heap[k]?) : OwnP w' base S' l v := by
  obtain ⟨xs, ⟨h1, h2⟩, h3⟩ := h
  refine ⟨xs, ⟨h1, ?_⟩, h3.keep fun b hb ⟨hs, hne⟩ => ⟨⟨(hk b hb hs).1, hne⟩, (hk b hb hs).2⟩⟩
  rcases h2 with h2 | ⟨g, cap, cur, rfl, hg, hh, r⟩
  · exact .inl h2
  · exact .inr ⟨g, cap, cur, rfl, hg, by rw [ho g rfl]; exact hh, r⟩
theorem OwnP.own_lt {w : World} {base : Nat} {S : Nat → Prop} {l : List Pt} {v : Value} (h : OwnP w base S l v) (k : Nat) (hk : v.ownBlock = some k) : base ≤ k ∧ k < w.heap.size := by
  obtain ⟨xs, h, _⟩ := h
  exact h.lt k hk
theorem OwnP.below {w w' : World} {base : Nat} {S : Nat → Prop} {l : List Pt} {v : Value} (h : OwnP w base S l v) (hb : Below w.heap.size w w') : OwnP w' base S l v :=
  h.keep (Keeps.below hb) fun k hk => hb.block k (h.own_lt k hk).2
theorem OwnP.form {w : World} {base : Nat} {S : Nat → Prop} {l : List Pt} {v : Value} (h : OwnP w base S l v) : ∃ A cap, v = .slice A l.length cap ∧ l.length ≤ cap := by
  obtain ⟨xs, ⟨_, h⟩, _⟩ := h
  rcases h with ⟨rfl, h⟩ | ⟨g, cap, cur, rfl, _, _, h, _⟩
  · exact ⟨none, 0, by rw [h], by omega⟩
  · exact ⟨_, cap, rfl, h⟩
theorem OwnP.is {w : World} {base : Nat} {S S' : Nat → Prop} {l : List Pt} {v : Value} (h : OwnP w base S l v) (hs : ∀ b, S b → S' b) (hb : ∀ b, base ≤ b → S' b) : IsPs w S' l v := by
  obtain ⟨xs, h1, h2⟩ := h
  have h2' : CsP w S' l xs := h2.keep (Keeps.weak fun b h => hs b h.1)
  obtain ⟨h3, h4⟩ := h1
  rcases h4 with ⟨rfl, h4⟩ | ⟨g, cap, cur, rfl, hg, hh, hc, _, _, ht⟩
  · obtain rfl : l = [] := List.eq_nil_of_length_eq_zero h4
    exact ⟨none, 0, rfl, by simp, .inl rfl⟩
  · refine ⟨_, cap, rfl, hc, .inr ⟨_, rfl, CsP.pc (hb g hg) h2' fun j u hu => ?_⟩⟩
    rw [plus0, Nat.zero_add]
    have h5 : cur.toList[j]? = some u := by
      rw [← ht] at hu
      rw [List.getElem?_take] at hu
      split at hu
      · exact hu
      · cases hu
    simp only [World.cell?, hh]
    simpa using h5
/-- A node stored into it. -/
theorem OwnP.store {w : World} {base : Nat} {S : Nat → Prop} {l : List Pt} {v : Value} (h : OwnP w base S l v) {i : Nat} (hi : i < l.length) {k : Pt} {u : Value} (hk : IsP w (fun b => S b ∧ some b ≠ v.ownBlock) k u) :
    ∃ g cap, v = .slice (some ⟨g, 0, none⟩) l.length cap ∧ base ≤ g ∧ g < w.heap.size ∧ (w.cell? ⟨g, i, none⟩).isSome = true ∧ w.frozen? ⟨g, i, none⟩ = false ∧ OwnP (w.setCell ⟨g, i, none⟩ u) base S (l.set i k) v := by
  obtain ⟨xs, ⟨h1, h2⟩, h3⟩ := h
  rcases h2 with ⟨rfl, h2⟩ | ⟨g, cap, cur, rfl, hg, hh, hc, hm, hs, ht⟩
  · omega
  · have hlt := (Array.getElem?_eq_some_iff.1 hh).1
    refine ⟨g, cap, rfl, hg, hlt, ?_, free4 hh i, xs.set i u, ⟨?_, .inr ⟨g, cap, cur.setIfInBounds i u, ?_, hg, blockset hh i u, ?_, hm, by simpa using hs, ?_⟩⟩, ?_⟩
    · simp only [World.cell?, hh]
      have : i < cur.size := by omega
      simp [this]
    · simpa using h1
    · simp
    · simpa using hc
    · rw [← ht]
      simp [List.take_set]
    · have hK : Keeps w (fun b => S b ∧ some b ≠ (Value.slice (some ⟨g, 0, none⟩) l.length cap).ownBlock) (w.setCell ⟨g, i, none⟩ u) (fun b => S b ∧ some b ≠ (Value.slice (some ⟨g, 0, none⟩) l.length cap).ownBlock) := Keeps.set (fun h => h.2 rfl) u
      exact (CsP.set hk i h3).keep hK
section
variable {ops : Array Oper} {rest : List Oper} {o : Oper} {a : Act} {Q : Exit → Act → World → Prop}
theorem ownP_after {W w1 : World} {base : Nat} {S : Nat → Prop} {l m : List Pt} {v v1 : Value} {xs ys : List Value} (h1 : CsP W (fun b => S b ∧ some b ≠ v.ownBlock) l xs) (h2 : CsP W (fun b => S b ∧ some b ≠ v.ownBlock) m ys)
    (hg : W.grownBy w1 v.ownBlock) (hat : v1.ownBlock = v.ownBlock ∨ v1.ownBlock = some W.heap.size) (hown : w1.ownsRow base 115 1 v1 (l.length + m.length) (xs ++ ys)) : OwnP w1 base S (l ++ m) v1 := by
  refine ⟨xs ++ ys, by rw [List.length_append]; exact hown, (h1.append h2).keep fun b hb ⟨hs, hne⟩ => ⟨⟨hs, ?_⟩, hg.block b hb hne⟩⟩
  rcases hat with hat | hat
  · rw [hat]; exact hne
  · rw [hat]
    intro e
    injection e with e
    omega
/-- append([]node(nil), m...), m not empty. -/
theorem appendP_copy {W : World} (S : Nat → Prop) (hgd : o.guard = none) (s x : Operand) (ho : o.op = .call { callee := .builtin .append, args := #[s, x], argTypes := #[118, 118] })
    (m : List Pt) (ad : Addr) (cap : Nat) (hs : a.eval s = .slice none 0 0) (hx : a.eval x = .slice (some ad) m.length cap) (hm : PC W S m ad 0)
    (hl : m.length ≤ 4294967296)
    (h : ∀ v1 w1, OwnP w1 W.heap.size S m v1 → W.grownBy w1 none → wpList Tryd.prog ops Q rest (a.put o.dst v1) w1) :
    wpList Tryd.prog ops Q (o :: rest) a W := by
  obtain ⟨i, hi, hz0, hz1, hz2⟩ := info_parts infoP
  obtain ⟨ys, hys, hcell⟩ := PC.cs hm
  refine wpList_append_own_at W hgd s x 118 ho W.heap.size 115 i _ 1 16 Tryd.underlying118 hi hz0 hz1 hz2 rfl (by decide) (.slice none 0 0) 0 [] hs (World.ownsRow_nil _ _ _ _) ad m.length cap ys hx (by rw [hys.length]; omega)
      (fun j u hu => by simpa using hcell j u hu) hys.one (by simp only [maxLen]; omega) (by omega) (Nat.le_refl _) ?_
  intro v1 w1 hown1 hg _ hat
  exact h v1 w1 (ownP_after (W := W) (l := []) (v := .slice none 0 0) (xs := []) rfl (hys.keep (Keeps.weak fun b hb => ⟨hb, by simp [Value.ownBlock]⟩)) hg hat hown1) hg
/-- append(m[:k:k], n...), n not empty: a new array. -/
theorem appendP_grow {W : World} (S : Nat → Prop) (hgd : o.guard = none) (s x : Operand) (ho : o.op = .call { callee := .builtin .append, args := #[s, x], argTypes := #[118, 118] })
    (m n : List Pt) (ad ad2 : Addr) (c2 : Nat) (hs : a.eval s = .slice (some ad) m.length m.length) (hx : a.eval x = .slice (some ad2) n.length c2) (hm : PC W S m ad 0) (hn : PC W S n ad2 0) (h0 : 0 < n.length)
    (hl : m.length + n.length ≤ 4294967296)
    (h : ∀ v1 w1, OwnP w1 W.heap.size S (m ++ n) v1 → W.grownBy w1 none → wpList Tryd.prog ops Q rest (a.put o.dst v1) w1) :
    wpList Tryd.prog ops Q (o :: rest) a W := by
  obtain ⟨i, hi, hz0, hz1, hz2⟩ := info_parts infoP
  have hm' : PC W (fun b => S b ∧ b < W.heap.size) m ad 0 := hm.keep fun b hb hs => ⟨⟨hs, hb⟩, rfl⟩
  have hn' : PC W (fun b => S b ∧ b < W.heap.size) n ad2 0 := hn.keep fun b hb hs => ⟨⟨hs, hb⟩, rfl⟩
  obtain ⟨ys, hys, hcell⟩ := PC.cs hm'
  obtain ⟨zs, hzs, hcell2⟩ := PC.cs hn'
  have hold : ∀ b, some ad = some b → ∀ j t, ys[j]? = some t → W.cell? (b.add j) = some t := by
    intro b e j t hu
    have e' := Option.some.inj e
    rw [← e']
    have := hcell j t hu
    rwa [Nat.zero_add] at this
  have hzl := hzs.length
  refine wpList_append_grows W hgd s x 118 ho 115 i _ 1 16 Tryd.underlying118 hi hz0 hz1 hz2 rfl (by decide) (some ad) m.length m.length ys hs (by simp) (by rw [hys.length]; omega)
      hold ad2 n.length c2 zs hx (by rw [hzl]; omega) (fun j u hu => by simpa using hcell2 j u hu) hzs.one (by omega) (by simp only [maxLen]; omega) (by omega) ?_
  intro v1 w1 hown1 hg
  have hb := World.ownsRow.lt hown1
  have hK : Keeps W (fun b => S b ∧ b < W.heap.size) w1 (fun b => S b ∧ some b ≠ v1.ownBlock) := fun b hb1 ⟨hs, hlt⟩ => ⟨⟨hs, fun e => by have := (hb b e.symm).1; omega⟩, hg.block b hb1 (by simp)⟩
  refine h v1 w1 ⟨ys ++ zs, ?_, (hys.keep hK).append (hzs.keep hK)⟩ hg
  rw [List.length_append]
  exact hown1
end
end Go.Proofs.YtjjbhnkplbjfeaaDoor
