/- The round of gone's loop. -/
import Derived.Test.YtjjbhnkplbjfeaaDoorCFnR

set_option linter.unusedVariables false
set_option linter.unusedSimpArgs false
namespace Go.Proofs.YtjjbhnkplbjfeaaDoor
open Go.RowKit Go.Shelf
attribute [local go_sem] Oper.semAt_some lt_succ_of

set_option maxRecDepth 100000 in
set_option maxHeartbeats 4000000 in
theorem round_gone (l n : Nat) (W : World) (base : Nat) (S : Nat → Prop) (B1 B2 : Nat) (L : List V) (A : Option Addr) (cap : Nat) (y : V) (c0 c1 c2 c3 : Value) (Q : Exit → Act → World → Prop) (x0 x1 x2 x3 x4 x6 x8 x9 x10 x11 x12 x13 x14 x15 x16 x17 x18 x19 x20 x21 x22 x23 x24 x25 x26 x27 x28 : Value)
   (h1 : W.heap[B1]? = some (.cells #[.slice A L.length cap] 22 (0, 0))) (hb2 : W.heap[B2]? = some (.cells #[c0, c1, c2, c3] 33 (0, 0))) (hc : #[c0, c1, c2, c3] = #[.int .i64 y.kind, .int .i64 y.num, .string y.text, c3]) (hc3 : ∃ A2 m2 cap2, c3 = .slice A2 m2 cap2)
   (HO : OwnL W base S L (.slice A L.length cap)) (hbase : base ≤ W.heap.size) (hl : L.length ≤ 4294967296)
   (hB1 : ¬ S B1) (hB12 : (Value.slice A L.length cap).ownBlock ≠ some B1) (hB2 : (Value.slice A L.length cap).ownBlock ≠ some B2)
   (hy : VC W (fun b => S b ∧ some b ≠ (Value.slice A L.length cap).ownBlock) y [c0, c1, c2, c3])
   (hQ : ∀ (g cap1 : Nat) (W' : World), W'.heap[B1]? = some (.cells #[.slice (some ⟨g, 0, none⟩) (L.length + 1) cap1] 22 (0, 0)) → OwnL W' base S (L ++ [y]) (.slice (some ⟨g, 0, none⟩) (L.length + 1) cap1) → Coll W W' B1 (.slice A L.length cap) (.slice (some ⟨g, 0, none⟩) (L.length + 1) cap1) → Q .normal { tmps := #[x0, x1, x2, x3, x4, .pointer (some ⟨B1, 0, none⟩), x6, .pointer (some ⟨B2, 0, none⟩), x8, x9, x10, x11, x12, x13, x14, x15, x16, x17, .slice A L.length cap, Value.agg #[c0, c1, c2, c3], .int .i64 L.length, .slice (some ⟨W.heap.size, 0, none⟩) 1 1, .slice (some ⟨g, 0, none⟩) (L.length + 1) cap1, .pointer (some ⟨g, L.length * 4, none⟩), x24, x25, x26, x27, x28], defers := [] } W')
   : (Code.region 7 (match Tryd.f18.body with | some (.seq _ (.seq _ (.seq _ (.seq _ (.seq (.seq _ (.block _ (.rangeFunc _ _ _ (.block _ (.seq (.region _ ops _) _))))) _))))) => ops | _ => #[]) true).wpIn (Fence.wide.inRound l) n Tryd.prog Q { tmps := #[x0, x1, x2, x3, x4, .pointer (some ⟨B1, 0, none⟩), x6, .pointer (some ⟨B2, 0, none⟩), x8, x9, x10, x11, x12, x13, x14, x15, x16, x17, x18, x19, x20, x21, x22, x23, x24, x25, x26, x27, x28], defers := [] } W := by
  obtain ⟨A2, m2, cap2, rfl⟩ := hc3
  injection hc with hc
  injection hc with hc0 hc
  injection hc with hc1 hc
  injection hc with hc2 hc
  subst hc0 hc1 hc2
  have b1 : B1 < W.heap.size := (Array.getElem?_eq_some_iff.1 h1).1
  have b2 : B2 < W.heap.size := (Array.getElem?_eq_some_iff.1 hb2).1
  obtain ⟨e0, e1, e2, e3⟩ := block4 hb2
  have h1c : W.cell? ⟨B1, 0, none⟩ = some (.slice A L.length cap) := by simp [World.cell?, h1]
  simp only [Tryd.f18]
  have HF : wpAnyIn (Fence.wide.inRound l) n Tryd.prog .any (match Tryd.f18.body with | some (.seq _ (.seq _ (.seq _ (.seq _ (.seq (.seq _ (.block _ (.rangeFunc _ _ _ (.block _ (.seq (.region _ ops _) _))))) _))))) => ops | _ => #[]) Q 4 #[true, true, true, true, false, false, false, false] { tmps := #[x0, x1, x2, x3, x4, .pointer (some ⟨B1, 0, none⟩), x6, .pointer (some ⟨B2, 0, none⟩), x8, x9, x10, x11, x12, x13, x14, x15, x16, x17, .slice A L.length cap, Value.agg #[.int .i64 y.kind, .int .i64 y.num, .string y.text, .slice A2 m2 cap2], .int .i64 L.length, .slice (some ⟨W.heap.size, 0, none⟩) 1 1, x22, x23, x24, x25, x26, x27, x28], defers := [] } (W.drew.alloc (.cells #[.int .i64 0, .int .i64 0, .string ⟨#[]⟩, .slice none 0 0] 33)) := by
    simp only [Tryd.f18]
    have hbl : Below W.heap.size W (W.drew.alloc (.cells #[.int .i64 0, .int .i64 0, .string ⟨#[]⟩, .slice none 0 0] 33)) := (Below.refl _ _).drew.alloc (Nat.le_refl _) _
    obtain ⟨xs, hown, hcs⟩ := HO.below hbl
    have hnew := heap_alloc_new W.drew (.cells #[.int .i64 0, .int .i64 0, .string ⟨#[]⟩, .slice none 0 0] 33)
    obtain ⟨i0, hi, hz0, hz1, hz2⟩ := info_parts infoV
    refine wpAnyIn_ready (rs := [4]) (by kernel_rfl) (by simp) ?_
    refine AllReadyIn.cons rfl (fun K hK => ?_) AllReadyIn.nil
    refine stepIn_append rfl (.tmp 18) (.tmp 21) 22 rfl base 33 i0 _ 4 56 Tryd.underlying22 hi hz0 hz1 hz2 rfl (by decide) _ L.length xs rfl hown ⟨W.heap.size, 0, none⟩ 1 1 [.int .i64 0, .int .i64 0, .string ⟨#[]⟩, .slice none 0 0] rfl rfl
      (World.news_of_block (cs := #[.int .i64 0, .int .i64 0, .string ⟨#[]⟩, .slice none 0 0]) hnew) (VC.one (w := W) (S := S) (x := V.zero) (VC.mk (x := V.zero) (cap := 0) (A := none) zero_bd (by simp [V.zero, V.items]) (.inl rfl))) (by simp only [maxLen]; omega) (by omega) (by have := hbl.size; omega) ?_
    intro v1 w1 hown1 hg hat
    refine hK _ _ ?_
    clear hK K
    have hxl := hcs.length
    obtain ⟨hl1, hown2⟩ := hown1
    rcases hown2 with ⟨_, hz⟩ | ⟨g, cap1, cur, rfl, hgb, hgh, hgc, hgm, hgs, hgt⟩
    · omega
    obtain ⟨r, hr⟩ : ∃ r, cur = (xs ++ Value.int .i64 0 :: Value.int .i64 0 :: Value.string ⟨#[]⟩ :: Value.slice none 0 0 :: r).toArray := by
      refine ⟨cur.toList.drop ((L.length + 1) * 4), ?_⟩
      have h := List.take_append_drop ((L.length + 1) * 4) cur.toList
      rw [hgt] at h
      apply Array.toList_inj.1
      refine h.symm.trans ?_
      simp
    subst hr
    have hgl := (Array.getElem?_eq_some_iff.1 hgh).1
    have hgB : g ≠ B1 := by
      rcases hat with h | h
      · intro e; subst e; exact hB12 h.symm
      · have : g = (W.drew.alloc (.cells #[.int .i64 0, .int .i64 0, .string ⟨#[]⟩, .slice none 0 0] 33)).heap.size := by simpa [Value.ownBlock] using h
        have := hbl.size
        omega
    have hw1b : w1.heap[B1]? = some (.cells #[.slice A L.length cap] 22 (0, 0)) := by
      rw [hg.block B1 (Nat.lt_of_lt_of_le b1 hbl.size) (fun e => hB12 e.symm), hbl.block B1 b1, h1]
    obtain ⟨g0, g1, g2, g3⟩ := cells4 hgh hxl
    have fzg := free4 hgh
    have fzb := free4 hw1b
    have hcb : w1.cell? ⟨B1, 0, none⟩ = some (.slice A L.length cap) := by simp [World.cell?, hw1b]
    have hpl := plus0 g
    have hgs' : (xs ++ Value.int .i64 y.kind :: Value.int .i64 y.num :: Value.string y.text :: Value.slice A2 m2 cap2 :: r).toArray.size = cap1 * 4 := by rw [← hgs]; simp only [List.size_toArray, List.length_append, List.length_cons]
    have hx0 : (L.length : Int) < ((L.length + 1 : Nat) : Int) := by omega
    have hx1 : (L.length : Int) < (L.length : Int) + 1 := by omega
    refine wpAnyIn_ready (rs := [5, 7]) (by kernel_rfl) (by simp) ?_
    refine AllReadyIn.cons rfl (fun K hK => ?_) ?_
    · go_simp
      refine hK _ _ ?_
      clear hK K
      refine wpAnyIn_ready (rs := [6, 7]) (by kernel_rfl) (by simp) ?_
      refine AllReadyIn.cons rfl (fun K hK => ?_) ?_
      · go_simp
        refine hK _ _ ?_
        clear hK K
        refine wpAnyIn_ready (rs := [7]) (by kernel_rfl) (by simp) ?_
        refine AllReadyIn.cons rfl (fun K hK => ?_) AllReadyIn.nil
        go_simp
        refine hK _ _ ?_
        clear hK K
        refine wpAnyIn_done (by kernel_rfl) ?_ _
        have hb4 := blockother (blockother (blockother (blockother hw1b (p := ⟨g, L.length * 4, none⟩) (Ne.symm hgB) (.int .i64 y.kind)) (p := ⟨g, L.length * 4 + 1, none⟩) (Ne.symm hgB) (.int .i64 y.num)) (p := ⟨g, L.length * 4 + 2, none⟩) (Ne.symm hgB) (.string y.text)) (p := ⟨g, L.length * 4 + 3, none⟩) (Ne.symm hgB) (.slice A2 m2 cap2)
        have h4 := block4set hgh hxl (.int .i64 y.kind) (.int .i64 y.num) (.string y.text) (.slice A2 m2 cap2)
        obtain ⟨W', hW'⟩ : ∃ W', W' = ((((w1.setCell ⟨g, L.length * 4, none⟩ (.int .i64 y.kind)).setCell ⟨g, L.length * 4 + 1, none⟩ (.int .i64 y.num)).setCell ⟨g, L.length * 4 + 2, none⟩ (.string y.text)).setCell ⟨g, L.length * 4 + 3, none⟩ (.slice A2 m2 cap2)).setCell ⟨B1, 0, none⟩ (.slice (some ⟨g, 0, none⟩) (L.length + 1) cap1) := ⟨_, rfl⟩
        obtain ⟨q1, q2, q3, q4, q5⟩ := setsA hW'
        have q6 : W'.heap[B1]? = some (.cells #[(.slice (some ⟨g, 0, none⟩) (L.length + 1) cap1)] 22 (0, 0)) := by rw [hW']; exact blockset hb4 0 _
        have q7 : W'.heap[g]? = some (.cells (xs ++ .int .i64 y.kind :: .int .i64 y.num :: .string y.text :: .slice A2 m2 cap2 :: r).toArray 33 (0, 0)) := by rw [hW']; exact blockother h4 (p := ⟨B1, 0, none⟩) hgB _
        rw [← hW']
        have hE := coll_end (W := W) (base := base) (B1 := B1) hbl hcs hg hat hB1 hy q1 q2 q3 q4 q6 q7 q5 hgb hgc hgm hgs'
        exact hQ _ _ _ q6 hE.1 hE.2
      refine AllReadyIn.cons rfl (fun K hK => ?_) AllReadyIn.nil
      go_simp
      refine hK _ _ ?_
      clear hK K
      refine wpAnyIn_ready (rs := [6]) (by kernel_rfl) (by simp) ?_
      refine AllReadyIn.cons rfl (fun K hK => ?_) AllReadyIn.nil
      go_simp
      refine hK _ _ ?_
      clear hK K
      refine wpAnyIn_done (by kernel_rfl) ?_ _
      have hb4 := blockset hw1b 0 (.slice (some ⟨g, 0, none⟩) (L.length + 1) cap1)
      have h4 := block4set (blockother hgh (p := ⟨B1, 0, none⟩) hgB (.slice (some ⟨g, 0, none⟩) (L.length + 1) cap1)) hxl (.int .i64 y.kind) (.int .i64 y.num) (.string y.text) (.slice A2 m2 cap2)
      have hb5 := blockother (blockother (blockother (blockother hb4 (p := ⟨g, L.length * 4, none⟩) (Ne.symm hgB) (.int .i64 y.kind)) (p := ⟨g, L.length * 4 + 1, none⟩) (Ne.symm hgB) (.int .i64 y.num)) (p := ⟨g, L.length * 4 + 2, none⟩) (Ne.symm hgB) (.string y.text)) (p := ⟨g, L.length * 4 + 3, none⟩) (Ne.symm hgB) (.slice A2 m2 cap2)
      obtain ⟨W', hW'⟩ : ∃ W', W' = ((((w1.setCell ⟨B1, 0, none⟩ (.slice (some ⟨g, 0, none⟩) (L.length + 1) cap1)).setCell ⟨g, L.length * 4, none⟩ (.int .i64 y.kind)).setCell ⟨g, L.length * 4 + 1, none⟩ (.int .i64 y.num)).setCell ⟨g, L.length * 4 + 2, none⟩ (.string y.text)).setCell ⟨g, L.length * 4 + 3, none⟩ (.slice A2 m2 cap2) := ⟨_, rfl⟩
      obtain ⟨q1, q2, q3, q4, q5⟩ := setsB hW'
      have q6 : W'.heap[B1]? = some (.cells #[(.slice (some ⟨g, 0, none⟩) (L.length + 1) cap1)] 22 (0, 0)) := by rw [hW']; exact hb5
      have q7 : W'.heap[g]? = some (.cells (xs ++ .int .i64 y.kind :: .int .i64 y.num :: .string y.text :: .slice A2 m2 cap2 :: r).toArray 33 (0, 0)) := by rw [hW']; exact h4
      rw [← hW']
      have hE := coll_end (W := W) (base := base) (B1 := B1) hbl hcs hg hat hB1 hy q1 q2 q3 q4 q6 q7 q5 hgb hgc hgm hgs'
      exact hQ _ _ _ q6 hE.1 hE.2
    refine AllReadyIn.cons rfl (fun K hK => ?_) AllReadyIn.nil
    go_simp
    refine hK _ _ ?_
    clear hK K
    refine wpAnyIn_ready (rs := [5]) (by kernel_rfl) (by simp) ?_
    refine AllReadyIn.cons rfl (fun K hK => ?_) AllReadyIn.nil
    go_simp
    refine hK _ _ ?_
    clear hK K
    refine wpAnyIn_ready (rs := [6]) (by kernel_rfl) (by simp) ?_
    refine AllReadyIn.cons rfl (fun K hK => ?_) AllReadyIn.nil
    go_simp
    refine hK _ _ ?_
    clear hK K
    refine wpAnyIn_done (by kernel_rfl) ?_ _
    have hb4 := blockset hw1b 0 (.slice (some ⟨g, 0, none⟩) (L.length + 1) cap1)
    have h4 := block4set (blockother hgh (p := ⟨B1, 0, none⟩) hgB (.slice (some ⟨g, 0, none⟩) (L.length + 1) cap1)) hxl (.int .i64 y.kind) (.int .i64 y.num) (.string y.text) (.slice A2 m2 cap2)
    have hb5 := blockother (blockother (blockother (blockother hb4 (p := ⟨g, L.length * 4, none⟩) (Ne.symm hgB) (.int .i64 y.kind)) (p := ⟨g, L.length * 4 + 1, none⟩) (Ne.symm hgB) (.int .i64 y.num)) (p := ⟨g, L.length * 4 + 2, none⟩) (Ne.symm hgB) (.string y.text)) (p := ⟨g, L.length * 4 + 3, none⟩) (Ne.symm hgB) (.slice A2 m2 cap2)
    obtain ⟨W', hW'⟩ : ∃ W', W' = ((((w1.setCell ⟨B1, 0, none⟩ (.slice (some ⟨g, 0, none⟩) (L.length + 1) cap1)).setCell ⟨g, L.length * 4, none⟩ (.int .i64 y.kind)).setCell ⟨g, L.length * 4 + 1, none⟩ (.int .i64 y.num)).setCell ⟨g, L.length * 4 + 2, none⟩ (.string y.text)).setCell ⟨g, L.length * 4 + 3, none⟩ (.slice A2 m2 cap2) := ⟨_, rfl⟩
    obtain ⟨q1, q2, q3, q4, q5⟩ := setsB hW'
    have q6 : W'.heap[B1]? = some (.cells #[(.slice (some ⟨g, 0, none⟩) (L.length + 1) cap1)] 22 (0, 0)) := by rw [hW']; exact hb5
    have q7 : W'.heap[g]? = some (.cells (xs ++ .int .i64 y.kind :: .int .i64 y.num :: .string y.text :: .slice A2 m2 cap2 :: r).toArray 33 (0, 0)) := by rw [hW']; exact h4
    rw [← hW']
    have hE := coll_end (W := W) (base := base) (B1 := B1) hbl hcs hg hat hB1 hy q1 q2 q3 q4 q6 q7 q5 hgb hgc hgm hgs'
    exact hQ _ _ _ q6 hE.1 hE.2
  simp only [Tryd.f18] at HF
  refine wpIn_region_any (by kernel_rfl) ?_
  change wpAnyIn _ _ _ _ _ _ _ _ _ (World.drew _)
  refine wpAnyIn_ready (rs := [0, 1, 3]) (by kernel_rfl) (by simp) ?_
  refine AllReadyIn.cons rfl (fun K hK => ?_) ?_
  · go_simp
    refine hK _ _ ?_
    clear hK K
    refine wpAnyIn_ready (rs := [1, 2, 3]) (by kernel_rfl) (by simp) ?_
    refine AllReadyIn.cons rfl (fun K hK => ?_) ?_
    · go_simp
      refine hK _ _ ?_
      clear hK K
      refine wpAnyIn_ready (rs := [2, 3]) (by kernel_rfl) (by simp) ?_
      refine AllReadyIn.cons rfl (fun K hK => ?_) ?_
      · go_simp
        refine hK _ _ ?_
        clear hK K
        refine wpAnyIn_ready (rs := [3]) (by kernel_rfl) (by simp) ?_
        refine AllReadyIn.cons rfl (fun K hK => ?_) ?_
        · go_simp
          refine hK _ _ ?_
          clear hK K
          exact HF
        exact AllReadyIn.nil
      refine AllReadyIn.cons rfl (fun K hK => ?_) ?_
      · go_simp
        refine hK _ _ ?_
        clear hK K
        refine wpAnyIn_ready (rs := [2]) (by kernel_rfl) (by simp) ?_
        refine AllReadyIn.cons rfl (fun K hK => ?_) ?_
        · go_simp
          refine hK _ _ ?_
          clear hK K
          exact HF
        exact AllReadyIn.nil
      exact AllReadyIn.nil
    refine AllReadyIn.cons rfl (fun K hK => ?_) ?_
    · go_simp
      refine hK _ _ ?_
      clear hK K
      refine wpAnyIn_ready (rs := [1, 3]) (by kernel_rfl) (by simp) ?_
      refine AllReadyIn.cons rfl (fun K hK => ?_) ?_
      · go_simp
        refine hK _ _ ?_
        clear hK K
        refine wpAnyIn_ready (rs := [3]) (by kernel_rfl) (by simp) ?_
        refine AllReadyIn.cons rfl (fun K hK => ?_) ?_
        · go_simp
          refine hK _ _ ?_
          clear hK K
          exact HF
        exact AllReadyIn.nil
      refine AllReadyIn.cons rfl (fun K hK => ?_) ?_
      · go_simp
        refine hK _ _ ?_
        clear hK K
        refine wpAnyIn_ready (rs := [1]) (by kernel_rfl) (by simp) ?_
        refine AllReadyIn.cons rfl (fun K hK => ?_) ?_
        · go_simp
          refine hK _ _ ?_
          clear hK K
          exact HF
        exact AllReadyIn.nil
      exact AllReadyIn.nil
    refine AllReadyIn.cons rfl (fun K hK => ?_) ?_
    · go_simp
      refine hK _ _ ?_
      clear hK K
      refine wpAnyIn_ready (rs := [1, 2]) (by kernel_rfl) (by simp) ?_
      refine AllReadyIn.cons rfl (fun K hK => ?_) ?_
      · go_simp
        refine hK _ _ ?_
        clear hK K
        refine wpAnyIn_ready (rs := [2]) (by kernel_rfl) (by simp) ?_
        refine AllReadyIn.cons rfl (fun K hK => ?_) ?_
        · go_simp
          refine hK _ _ ?_
          clear hK K
          exact HF
        exact AllReadyIn.nil
      refine AllReadyIn.cons rfl (fun K hK => ?_) ?_
      · go_simp
        refine hK _ _ ?_
        clear hK K
        refine wpAnyIn_ready (rs := [1]) (by kernel_rfl) (by simp) ?_
        refine AllReadyIn.cons rfl (fun K hK => ?_) ?_
        · go_simp
          refine hK _ _ ?_
          clear hK K
          exact HF
        exact AllReadyIn.nil
      exact AllReadyIn.nil
    exact AllReadyIn.nil
  refine AllReadyIn.cons rfl (fun K hK => ?_) ?_
  · go_simp
    refine hK _ _ ?_
    clear hK K
    refine wpAnyIn_ready (rs := [0, 3]) (by kernel_rfl) (by simp) ?_
    refine AllReadyIn.cons rfl (fun K hK => ?_) ?_
    · go_simp
      refine hK _ _ ?_
      clear hK K
      refine wpAnyIn_ready (rs := [2, 3]) (by kernel_rfl) (by simp) ?_
      refine AllReadyIn.cons rfl (fun K hK => ?_) ?_
      · go_simp
        refine hK _ _ ?_
        clear hK K
        refine wpAnyIn_ready (rs := [3]) (by kernel_rfl) (by simp) ?_
        refine AllReadyIn.cons rfl (fun K hK => ?_) ?_
        · go_simp
          refine hK _ _ ?_
          clear hK K
          exact HF
        exact AllReadyIn.nil
      refine AllReadyIn.cons rfl (fun K hK => ?_) ?_
      · go_simp
        refine hK _ _ ?_
        clear hK K
        refine wpAnyIn_ready (rs := [2]) (by kernel_rfl) (by simp) ?_
        refine AllReadyIn.cons rfl (fun K hK => ?_) ?_
        · go_simp
          refine hK _ _ ?_
          clear hK K
          exact HF
        exact AllReadyIn.nil
      exact AllReadyIn.nil
    refine AllReadyIn.cons rfl (fun K hK => ?_) ?_
    · go_simp
      refine hK _ _ ?_
      clear hK K
      refine wpAnyIn_ready (rs := [0]) (by kernel_rfl) (by simp) ?_
      refine AllReadyIn.cons rfl (fun K hK => ?_) ?_
      · go_simp
        refine hK _ _ ?_
        clear hK K
        refine wpAnyIn_ready (rs := [2]) (by kernel_rfl) (by simp) ?_
        refine AllReadyIn.cons rfl (fun K hK => ?_) ?_
        · go_simp
          refine hK _ _ ?_
          clear hK K
          exact HF
        exact AllReadyIn.nil
      exact AllReadyIn.nil
    exact AllReadyIn.nil
  refine AllReadyIn.cons rfl (fun K hK => ?_) ?_
  · go_simp
    refine hK _ _ ?_
    clear hK K
    refine wpAnyIn_ready (rs := [0, 1]) (by kernel_rfl) (by simp) ?_
    refine AllReadyIn.cons rfl (fun K hK => ?_) ?_
    · go_simp
      refine hK _ _ ?_
      clear hK K
      refine wpAnyIn_ready (rs := [1, 2]) (by kernel_rfl) (by simp) ?_
      refine AllReadyIn.cons rfl (fun K hK => ?_) ?_
      · go_simp
        refine hK _ _ ?_
        clear hK K
        refine wpAnyIn_ready (rs := [2]) (by kernel_rfl) (by simp) ?_
        refine AllReadyIn.cons rfl (fun K hK => ?_) ?_
        · go_simp
          refine hK _ _ ?_
          clear hK K
          exact HF
        exact AllReadyIn.nil
      refine AllReadyIn.cons rfl (fun K hK => ?_) ?_
      · go_simp
        refine hK _ _ ?_
        clear hK K
        refine wpAnyIn_ready (rs := [1]) (by kernel_rfl) (by simp) ?_
        refine AllReadyIn.cons rfl (fun K hK => ?_) ?_
        · go_simp
          refine hK _ _ ?_
          clear hK K
          exact HF
        exact AllReadyIn.nil
      exact AllReadyIn.nil
    refine AllReadyIn.cons rfl (fun K hK => ?_) ?_
    · go_simp
      refine hK _ _ ?_
      clear hK K
      refine wpAnyIn_ready (rs := [0]) (by kernel_rfl) (by simp) ?_
      refine AllReadyIn.cons rfl (fun K hK => ?_) ?_
      · go_simp
        refine hK _ _ ?_
        clear hK K
        refine wpAnyIn_ready (rs := [2]) (by kernel_rfl) (by simp) ?_
        refine AllReadyIn.cons rfl (fun K hK => ?_) ?_
        · go_simp
          refine hK _ _ ?_
          clear hK K
          exact HF
        exact AllReadyIn.nil
      exact AllReadyIn.nil
    exact AllReadyIn.nil
  exact AllReadyIn.nil
end Go.Proofs.YtjjbhnkplbjfeaaDoor
