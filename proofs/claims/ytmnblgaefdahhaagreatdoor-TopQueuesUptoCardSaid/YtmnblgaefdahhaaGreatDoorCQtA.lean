/- The round of a loop that collects. -/
import Derived.Deep.QuietTactic
import Derived.BigQuiet
import Derived.StillTailTactics
import Derived.RangeFuncNested
import Derived.RangeFuncBound
import Derived.RangeFuncCalls
import Derived.RangeFuncLeaves
import Derived.Shelf.Abstract
import Derived.Shelf.RegionOpen
import Derived.OwnWalkIn
import Derived.TacticsInMore
import Derived.LoopNIn
import Derived.LoopIn
import Derived.Maps.OwnIn
import Derived.Test.YtmnblgaefdahhaaGreatDoorCQsG

set_option linter.unusedVariables false
set_option linter.unusedSimpArgs false
namespace Go.Proofs.YtmnblgaefdahhaaGreatDoor
open Go.RowKit Go.Shelf
attribute [local go_sem] Oper.semAt_some lt_succ_of

theorem zero_bd : V.Bd V.zero := ⟨by decide, by decide, by decide, by decide, by decide, by decide⟩
theorem grown_keeps {W w1 : World} {v v1 : Value} {S : Nat → Prop} (hg : W.grownBy w1 v.ownBlock) (hat : v1.ownBlock = v.ownBlock ∨ v1.ownBlock = some W.heap.size ∨ v1.ownBlock = some (W.heap.size + 1)) : Keeps W (fun b => S b ∧ some b ≠ v.ownBlock) w1 (fun b => S b ∧ some b ≠ v1.ownBlock) := fun b hb ⟨hs, hne⟩ => by
  refine ⟨⟨hs, ?_⟩, hg.block b hb hne⟩
  rcases hat with hat | hat | hat
  · rw [hat]; exact hne
  · rw [hat]
    intro e
    injection e with e
    omega
  · rw [hat]
    intro e
    injection e with e
    omega
/-- What a round that collects has turned: its own box, its own slice. -/
structure Coll (W W' : World) (B1 : Nat) (v v1 : Value) : Prop where
  os : W'.os = W.os
  tape : W'.tape = W.tape
  output : W'.output = W.output
  size : W.heap.size ≤ W'.heap.size
  block : ∀ k, k < W.heap.size → k ≠ B1 → some k ≠ v.ownBlock → W'.heap[k]? = W.heap[k]?
  own : v1.ownBlock = v.ownBlock ∨ ∃ g, v1.ownBlock = some g ∧ W.heap.size ≤ g
theorem coll_end {W Wa w1 W' : World} {base : Nat} {S : Nat → Prop} {B1 : Nat} {L : List V} {y : V} {xs r : List Value} {c0 c1 c2 c3 : Value} {g cap1 : Nat} {v : Value} (hbl : Below W.heap.size W Wa) (hcs : CsL Wa (fun b => S b ∧ some b ≠ v.ownBlock) L xs) (hg : Wa.grownBy w1 v.ownBlock)
    (hat : (Value.slice (some ⟨g, 0, none⟩) (L.length + 1) cap1).ownBlock = v.ownBlock ∨ (Value.slice (some ⟨g, 0, none⟩) (L.length + 1) cap1).ownBlock = some Wa.heap.size) (hB1 : ¬ S B1) (hy : VC W (fun b => S b ∧ some b ≠ v.ownBlock) y [c0, c1, c2, c3])
    (hos : W'.os = w1.os) (ht : W'.tape = w1.tape) (ho : W'.output = w1.output) (hs : W'.heap.size = w1.heap.size) (hb : W'.heap[B1]? = some (.cells #[.slice (some ⟨g, 0, none⟩) (L.length + 1) cap1] 22 (0, 0)))
    (hgh : W'.heap[g]? = some (.cells (xs ++ c0 :: c1 :: c2 :: c3 :: r).toArray 39 (0, 0))) (hk : ∀ k, k ≠ B1 → k ≠ g → W'.heap[k]? = w1.heap[k]?) (hgb : base ≤ g) (hgc : L.length + 1 ≤ cap1) (hgm : cap1 ≤ maxLen) (hgs : (xs ++ c0 :: c1 :: c2 :: c3 :: r).toArray.size = cap1 * 4) :
    OwnL W' base S (L ++ [y]) (.slice (some ⟨g, 0, none⟩) (L.length + 1) cap1) ∧ Coll W W' B1 v (.slice (some ⟨g, 0, none⟩) (L.length + 1) cap1) := by
  have hxl := hcs.length
  have hK : Keeps Wa (fun b => S b ∧ some b ≠ v.ownBlock) W' (fun b => S b ∧ some b ≠ (Value.slice (some ⟨g, 0, none⟩) (L.length + 1) cap1).ownBlock) := by
    refine (grown_keeps (S := S) hg (hat.imp id Or.inl)).trans fun b hlt ⟨h1, h2⟩ => ⟨⟨h1, h2⟩, hk b (fun e => hB1 (e ▸ h1)) (fun e => h2 (by rw [e]; rfl))⟩
  have hWa : Keeps W (fun b => S b ∧ some b ≠ v.ownBlock) Wa (fun b => S b ∧ some b ≠ v.ownBlock) := Keeps.below hbl
  have hlen : (L ++ [y]).length = L.length + 1 := by simp
  refine ⟨⟨xs ++ [c0, c1, c2, c3], ⟨by rw [List.length_append, hxl, hlen]; simp; omega, .inr ⟨g, cap1, _, by rw [hlen], hgb, hgh, by rw [hlen]; exact hgc, hgm, hgs, ?_⟩⟩, (hcs.keep hK).snoc ((hy.keep hWa).keep hK)⟩, ⟨hos.trans (hg.os.trans hbl.os), ht.trans (hg.tape.trans hbl.tape), ho.trans (hg.output.trans hbl.output), by rw [hs]; exact Nat.le_trans hbl.size hg.size, fun k h1 h2 h3 => ?_, ?_⟩⟩
  · rw [hlen, show (xs ++ c0 :: c1 :: c2 :: c3 :: r).toArray.toList = (xs ++ [c0, c1, c2, c3]) ++ r by simp]
    exact List.take_left' (by simp; omega)
  · have hkg : k ≠ g := by
      rcases hat with h | h
      · intro e; subst e; exact h3 h
      · have : g = Wa.heap.size := by simpa [Value.ownBlock] using h
        have := hbl.size
        omega
    rw [hk k h2 hkg, hg.block k (Nat.lt_of_lt_of_le h1 hbl.size) h3, hbl.block k h1]
  · rcases hat with h | h
    · exact .inl h
    · exact .inr ⟨_, h, hbl.size⟩
theorem setsA {w1 W' : World} {g B1 n : Nat} {a b c d e : Value} (h : W' = ((((w1.setCell ⟨g, n, none⟩ a).setCell ⟨g, n + 1, none⟩ b).setCell ⟨g, n + 2, none⟩ c).setCell ⟨g, n + 3, none⟩ d).setCell ⟨B1, 0, none⟩ e) :
    W'.os = w1.os ∧ W'.tape = w1.tape ∧ W'.output = w1.output ∧ W'.heap.size = w1.heap.size ∧ ∀ k, k ≠ B1 → k ≠ g → W'.heap[k]? = w1.heap[k]? := by
  have hb : Below 0 w1 W' := by
    rw [h]
    exact (((((Below.refl 0 w1).setCell (Nat.zero_le _) _).setCell (Nat.zero_le _) _).setCell (Nat.zero_le _) _).setCell (Nat.zero_le _) _).setCell (Nat.zero_le _) _
  refine ⟨hb.os, hb.tape, hb.output, by rw [h]; simp only [World.size_setCell], fun k h1 h2 => ?_⟩
  rw [h]
  exact (Below.heap_setCell _ ⟨B1, 0, none⟩ _ k h1).trans ((Below.heap_setCell _ ⟨g, n + 3, none⟩ _ k h2).trans ((Below.heap_setCell _ ⟨g, n + 2, none⟩ _ k h2).trans ((Below.heap_setCell _ ⟨g, n + 1, none⟩ _ k h2).trans (Below.heap_setCell _ ⟨g, n, none⟩ _ k h2))))
theorem setsB {w1 W' : World} {g B1 n : Nat} {a b c d e : Value} (h : W' = ((((w1.setCell ⟨B1, 0, none⟩ e).setCell ⟨g, n, none⟩ a).setCell ⟨g, n + 1, none⟩ b).setCell ⟨g, n + 2, none⟩ c).setCell ⟨g, n + 3, none⟩ d) :
    W'.os = w1.os ∧ W'.tape = w1.tape ∧ W'.output = w1.output ∧ W'.heap.size = w1.heap.size ∧ ∀ k, k ≠ B1 → k ≠ g → W'.heap[k]? = w1.heap[k]? := by
  have hb : Below 0 w1 W' := by
    rw [h]
    exact (((((Below.refl 0 w1).setCell (Nat.zero_le _) _).setCell (Nat.zero_le _) _).setCell (Nat.zero_le _) _).setCell (Nat.zero_le _) _).setCell (Nat.zero_le _) _
  refine ⟨hb.os, hb.tape, hb.output, by rw [h]; simp only [World.size_setCell], fun k h1 h2 => ?_⟩
  rw [h]
  exact (Below.heap_setCell _ ⟨g, n + 3, none⟩ _ k h2).trans ((Below.heap_setCell _ ⟨g, n + 2, none⟩ _ k h2).trans ((Below.heap_setCell _ ⟨g, n + 1, none⟩ _ k h2).trans ((Below.heap_setCell _ ⟨g, n, none⟩ _ k h2).trans (Below.heap_setCell _ ⟨B1, 0, none⟩ _ k h1))))
/-- append at a step of a region that draws its order, inside a round. -/
theorem stepIn_append {F : Fence} {nF : Nat} {W : World} {ops : Array Oper} {o : Oper} {a : Act} {K : Act → World → Prop} {Q : Exit → Act → World → Prop} {E : Prop} (hgd : o.guard = none) (s x : Operand) (t : TypeId)
    (ho : o.op = .call { callee := .builtin .append, args := #[s, x], argTypes := #[t, t] })
    (base : Nat) (e : TypeId) (i : TypeInfo) (z : Value) (size bytes : Nat) (ht : Tryz.prog.underlying t = some (.slice e)) (hi : Tryz.prog.info? e = some i) (hz : i.zero = some z)
    (hsize : i.size = size) (hby : i.bytes = bytes) (hzs : z.cells.size = size) (hsz : 0 < size)
    (v : Value) (n : Nat) (xs : List Value) (hs : a.eval s = v) (hown : W.ownsRow base e size v n xs)
    (ad : Addr) (m c : Nat) (news : List Value) (hx : a.eval x = .slice (some ad) m c) (hl : news.length = m * size) (hnews : ∀ j u, news[j]? = some u → W.cell? (ad.add j) = some u) (h1 : ∀ u ∈ news, u.oneCell' = true)
    (h63 : n + m ≤ maxLen) (hbytes : (n + m) * bytes ≤ 140737488355328) (hbase : base ≤ W.heap.size)
    (h : ∀ v' w', w'.ownsRow base e size v' (n + m) (xs ++ news) → W.grownBy w' v.ownBlock → (v'.ownBlock = v.ownBlock ∨ v'.ownBlock = some W.heap.size) → K (a.put o.dst v') w') :
    if Region.wanted o (yielded ops a.tmps) = true then Oper.wpIn F nF Tryz.prog o a W K Q else E := by
  have hw : Region.wanted o (yielded ops a.tmps) = true := by simp [Region.wanted, hgd]
  rw [if_pos hw]
  obtain ⟨v', w', hr, h2, h3, _, h5⟩ := run_append_own_at (P := Tryz.prog) W base t o.type e i z size bytes ht hi hz hsize hby hzs hsz v n xs hown ad m c news hl hnews h1 h63 hbytes hbase
  unfold Oper.wpIn
  refine ⟨by simp [Oper.about, ho, resolve, Target.leads, Sem.run_pure], ?_⟩
  rw [Oper.semAt_plain F _ _ (by rw [ho]; intro c hc'; cases hc')]
  simp [execOp, ho, resolve, invoke, builtin, hs, hx, hr, Result.andThen]
  exact h v' w' h2 h3 h5

set_option maxRecDepth 100000 in
set_option maxHeartbeats 4000000 in
theorem round_items (l n : Nat) (W : World) (base : Nat) (S : Nat → Prop) (B1 B2 : Nat) (L : List V) (A : Option Addr) (cap : Nat) (y : V) (c0 c1 c2 c3 : Value) (Q : Exit → Act → World → Prop) (x0 x1 x2 x5 x6 x7 x8 x9 x10 x11 x12 x13 x14 : Value)
   (h1 : W.heap[B1]? = some (.cells #[.slice A L.length cap] 22 (0, 0))) (hb2 : W.heap[B2]? = some (.cells #[c0, c1, c2, c3] 39 (0, 0))) (hc : #[c0, c1, c2, c3] = #[.int .i64 y.kind, .int .i64 y.num, .string y.text, c3]) (hc3 : ∃ A2 m2 cap2, c3 = .slice A2 m2 cap2)
   (HO : OwnL W base S L (.slice A L.length cap)) (hbase : base ≤ W.heap.size) (hl : L.length ≤ 4294967296)
   (hB1 : ¬ S B1) (hB12 : (Value.slice A L.length cap).ownBlock ≠ some B1) (hB2 : (Value.slice A L.length cap).ownBlock ≠ some B2)
   (hy : VC W (fun b => S b ∧ some b ≠ (Value.slice A L.length cap).ownBlock) y [c0, c1, c2, c3])
   (hQ : ∀ (a' : Act) (v1 : Value) (W' : World), W'.heap[B1]? = some (.cells #[v1] 22 (0, 0)) → OwnL W' base S (L ++ [y]) v1 → Coll W W' B1 (.slice A L.length cap) v1 → Q .normal a' W')
   : (Code.region 4 (match Tryz.f10.body with | some (.seq _ (.seq _ (.seq (.seq _ (.block _ (.rangeFunc _ _ _ (.block _ (.region _ ops _))))) _))) => ops | _ => #[]) true).wpIn (Fence.wide.inRound l) n Tryz.prog Q { tmps := #[x0, x1, x2, .pointer (some ⟨B1, 0, none⟩), .pointer (some ⟨B2, 0, none⟩), x5, x6, x7, x8, x9, x10, x11, x12, x13, x14], defers := [] } W := by
  obtain ⟨A2, m2, cap2, rfl⟩ := hc3
  injection hc with hc
  injection hc with hc0 hc
  injection hc with hc1 hc
  injection hc with hc2 hc
  subst hc0 hc1 hc2
  have b1 : B1 < W.heap.size := (Array.getElem?_eq_some_iff.1 h1).1
  have b2 : B2 < W.heap.size := (Array.getElem?_eq_some_iff.1 hb2).1
  obtain ⟨e0, e1, e2, e3⟩ := block4 hb2
  have h1c : W.cell? ⟨B1, 0, none⟩ = some (.slice A L.length cap) := by simp [World.cell?, h1]
  simp only [Tryz.f10]
  have HF : wpAnyIn (Fence.wide.inRound l) n Tryz.prog .any (match Tryz.f10.body with | some (.seq _ (.seq _ (.seq (.seq _ (.block _ (.rangeFunc _ _ _ (.block _ (.region _ ops _))))) _))) => ops | _ => #[]) Q 4 #[true, true, true, true, false, false, false, false] { tmps := #[x0, x1, x2, .pointer (some ⟨B1, 0, none⟩), .pointer (some ⟨B2, 0, none⟩), x5, x6, x7, .slice A L.length cap, Value.agg #[.int .i64 y.kind, .int .i64 y.num, .string y.text, .slice A2 m2 cap2], .int .i64 L.length, .slice (some ⟨W.heap.size, 0, none⟩) 1 1, x12, x13, x14], defers := [] } (W.drew.alloc (.cells #[.int .i64 0, .int .i64 0, .string ⟨#[]⟩, .slice none 0 0] 39)) := by
    simp only [Tryz.f10]
    have hbl : Below W.heap.size W (W.drew.alloc (.cells #[.int .i64 0, .int .i64 0, .string ⟨#[]⟩, .slice none 0 0] 39)) := (Below.refl _ _).drew.alloc (Nat.le_refl _) _
    obtain ⟨xs, hown, hcs⟩ := HO.below hbl
    have hnew := heap_alloc_new W.drew (.cells #[.int .i64 0, .int .i64 0, .string ⟨#[]⟩, .slice none 0 0] 39)
    obtain ⟨i0, hi, hz0, hz1, hz2⟩ := info_parts infoV
    refine wpAnyIn_ready (rs := [4]) (by kernel_rfl) (by simp) ?_
    refine AllReadyIn.cons rfl (fun K hK => ?_) AllReadyIn.nil
    refine stepIn_append rfl (.tmp 8) (.tmp 11) 22 rfl base 39 i0 _ 4 56 Tryz.underlying22 hi hz0 hz1 hz2 rfl (by decide) _ L.length xs rfl hown ⟨W.heap.size, 0, none⟩ 1 1 [.int .i64 0, .int .i64 0, .string ⟨#[]⟩, .slice none 0 0] rfl rfl
      (World.news_of_block (cs := #[.int .i64 0, .int .i64 0, .string ⟨#[]⟩, .slice none 0 0]) hnew) (VC.one (w := W) (S := S) (x := V.zero) (VC.mk (x := V.zero) (cap := 0) (A := none) zero_bd (by simp [V.zero, V.items]) (.inl rfl))) (by simp only [maxLen]; omega) (by omega) (by have := hbl.size; omega) ?_
    intro v1 w1 hown1 hg hat
    refine hK _ _ ?_
    clear hK K
    have hxl := hcs.length
    obtain ⟨hl1, hown2⟩ := hown1
    rcases hown2 with ⟨_, hz⟩ | ⟨g, cap1, cur, rfl, hgb, hgh, hgc, hgm, hgs, hgt⟩
    · omega
    obtain ⟨r, hr⟩ : ∃ r, cur = (xs ++ Value.int .i64 0 :: Value.int .i64 0 :: Value.string ⟨#[]⟩ :: Value.slice none 0 0 :: r).toArray := by
      refine ⟨cur.toList.drop ((L.length + 1) * 4), ?_⟩
      have h := List.take_append_drop ((L.length + 1) * 4) cur.toList
      rw [hgt] at h
      apply Array.toList_inj.1
      refine h.symm.trans ?_
      simp
    subst hr
    have hgl := (Array.getElem?_eq_some_iff.1 hgh).1
    have hgB : g ≠ B1 := by
      rcases hat with h | h
      · intro e; subst e; exact hB12 h.symm
      · have : g = (W.drew.alloc (.cells #[.int .i64 0, .int .i64 0, .string ⟨#[]⟩, .slice none 0 0] 39)).heap.size := by simpa [Value.ownBlock] using h
        have := hbl.size
        omega
    have hw1b : w1.heap[B1]? = some (.cells #[.slice A L.length cap] 22 (0, 0)) := by
      rw [hg.block B1 (Nat.lt_of_lt_of_le b1 hbl.size) (fun e => hB12 e.symm), hbl.block B1 b1, h1]
    obtain ⟨g0, g1, g2, g3⟩ := cells4 hgh hxl
    have fzg := free4 hgh
    have fzb := free4 hw1b
    have hcb : w1.cell? ⟨B1, 0, none⟩ = some (.slice A L.length cap) := by simp [World.cell?, hw1b]
    have hpl := plus0 g
    have hgs' : (xs ++ Value.int .i64 y.kind :: Value.int .i64 y.num :: Value.string y.text :: Value.slice A2 m2 cap2 :: r).toArray.size = cap1 * 4 := by rw [← hgs]; simp only [List.size_toArray, List.length_append, List.length_cons]
    have hx0 : (L.length : Int) < ((L.length + 1 : Nat) : Int) := by omega
    have hx1 : (L.length : Int) < (L.length : Int) + 1 := by omega
    refine wpAnyIn_ready (rs := [5, 7]) (by kernel_rfl) (by simp) ?_
    refine AllReadyIn.cons rfl (fun K hK => ?_) ?_
    · go_simp
      refine hK _ _ ?_
      clear hK K
      refine wpAnyIn_ready (rs := [6, 7]) (by kernel_rfl) (by simp) ?_
      refine AllReadyIn.cons rfl (fun K hK => ?_) ?_
      · go_simp
        refine hK _ _ ?_
        clear hK K
        refine wpAnyIn_ready (rs := [7]) (by kernel_rfl) (by simp) ?_
        refine AllReadyIn.cons rfl (fun K hK => ?_) AllReadyIn.nil
        go_simp
        refine hK _ _ ?_
        clear hK K
        refine wpAnyIn_done (by kernel_rfl) ?_ _
        have hb4 := blockother (blockother (blockother (blockother hw1b (p := ⟨g, L.length * 4, none⟩) (Ne.symm hgB) (.int .i64 y.kind)) (p := ⟨g, L.length * 4 + 1, none⟩) (Ne.symm hgB) (.int .i64 y.num)) (p := ⟨g, L.length * 4 + 2, none⟩) (Ne.symm hgB) (.string y.text)) (p := ⟨g, L.length * 4 + 3, none⟩) (Ne.symm hgB) (.slice A2 m2 cap2)
        have h4 := block4set hgh hxl (.int .i64 y.kind) (.int .i64 y.num) (.string y.text) (.slice A2 m2 cap2)
        obtain ⟨W', hW'⟩ : ∃ W', W' = ((((w1.setCell ⟨g, L.length * 4, none⟩ (.int .i64 y.kind)).setCell ⟨g, L.length * 4 + 1, none⟩ (.int .i64 y.num)).setCell ⟨g, L.length * 4 + 2, none⟩ (.string y.text)).setCell ⟨g, L.length * 4 + 3, none⟩ (.slice A2 m2 cap2)).setCell ⟨B1, 0, none⟩ (.slice (some ⟨g, 0, none⟩) (L.length + 1) cap1) := ⟨_, rfl⟩
        obtain ⟨q1, q2, q3, q4, q5⟩ := setsA hW'
        have q6 : W'.heap[B1]? = some (.cells #[(.slice (some ⟨g, 0, none⟩) (L.length + 1) cap1)] 22 (0, 0)) := by rw [hW']; exact blockset hb4 0 _
        have q7 : W'.heap[g]? = some (.cells (xs ++ .int .i64 y.kind :: .int .i64 y.num :: .string y.text :: .slice A2 m2 cap2 :: r).toArray 39 (0, 0)) := by rw [hW']; exact blockother h4 (p := ⟨B1, 0, none⟩) hgB _
        rw [← hW']
        have hE := coll_end (W := W) (base := base) (B1 := B1) hbl hcs hg hat hB1 hy q1 q2 q3 q4 q6 q7 q5 hgb hgc hgm hgs'
        exact hQ _ _ _ q6 hE.1 hE.2
      refine AllReadyIn.cons rfl (fun K hK => ?_) AllReadyIn.nil
      go_simp
      refine hK _ _ ?_
      clear hK K
      refine wpAnyIn_ready (rs := [6]) (by kernel_rfl) (by simp) ?_
      refine AllReadyIn.cons rfl (fun K hK => ?_) AllReadyIn.nil
      go_simp
      refine hK _ _ ?_
      clear hK K
      refine wpAnyIn_done (by kernel_rfl) ?_ _
      have hb4 := blockset hw1b 0 (.slice (some ⟨g, 0, none⟩) (L.length + 1) cap1)
      have h4 := block4set (blockother hgh (p := ⟨B1, 0, none⟩) hgB (.slice (some ⟨g, 0, none⟩) (L.length + 1) cap1)) hxl (.int .i64 y.kind) (.int .i64 y.num) (.string y.text) (.slice A2 m2 cap2)
      have hb5 := blockother (blockother (blockother (blockother hb4 (p := ⟨g, L.length * 4, none⟩) (Ne.symm hgB) (.int .i64 y.kind)) (p := ⟨g, L.length * 4 + 1, none⟩) (Ne.symm hgB) (.int .i64 y.num)) (p := ⟨g, L.length * 4 + 2, none⟩) (Ne.symm hgB) (.string y.text)) (p := ⟨g, L.length * 4 + 3, none⟩) (Ne.symm hgB) (.slice A2 m2 cap2)
      obtain ⟨W', hW'⟩ : ∃ W', W' = ((((w1.setCell ⟨B1, 0, none⟩ (.slice (some ⟨g, 0, none⟩) (L.length + 1) cap1)).setCell ⟨g, L.length * 4, none⟩ (.int .i64 y.kind)).setCell ⟨g, L.length * 4 + 1, none⟩ (.int .i64 y.num)).setCell ⟨g, L.length * 4 + 2, none⟩ (.string y.text)).setCell ⟨g, L.length * 4 + 3, none⟩ (.slice A2 m2 cap2) := ⟨_, rfl⟩
      obtain ⟨q1, q2, q3, q4, q5⟩ := setsB hW'
      have q6 : W'.heap[B1]? = some (.cells #[(.slice (some ⟨g, 0, none⟩) (L.length + 1) cap1)] 22 (0, 0)) := by rw [hW']; exact hb5
      have q7 : W'.heap[g]? = some (.cells (xs ++ .int .i64 y.kind :: .int .i64 y.num :: .string y.text :: .slice A2 m2 cap2 :: r).toArray 39 (0, 0)) := by rw [hW']; exact h4
      rw [← hW']
      have hE := coll_end (W := W) (base := base) (B1 := B1) hbl hcs hg hat hB1 hy q1 q2 q3 q4 q6 q7 q5 hgb hgc hgm hgs'
      exact hQ _ _ _ q6 hE.1 hE.2
    refine AllReadyIn.cons rfl (fun K hK => ?_) AllReadyIn.nil
    go_simp
    refine hK _ _ ?_
    clear hK K
    refine wpAnyIn_ready (rs := [5]) (by kernel_rfl) (by simp) ?_
    refine AllReadyIn.cons rfl (fun K hK => ?_) AllReadyIn.nil
    go_simp
    refine hK _ _ ?_
    clear hK K
    refine wpAnyIn_ready (rs := [6]) (by kernel_rfl) (by simp) ?_
    refine AllReadyIn.cons rfl (fun K hK => ?_) AllReadyIn.nil
    go_simp
    refine hK _ _ ?_
    clear hK K
    refine wpAnyIn_done (by kernel_rfl) ?_ _
    have hb4 := blockset hw1b 0 (.slice (some ⟨g, 0, none⟩) (L.length + 1) cap1)
    have h4 := block4set (blockother hgh (p := ⟨B1, 0, none⟩) hgB (.slice (some ⟨g, 0, none⟩) (L.length + 1) cap1)) hxl (.int .i64 y.kind) (.int .i64 y.num) (.string y.text) (.slice A2 m2 cap2)
    have hb5 := blockother (blockother (blockother (blockother hb4 (p := ⟨g, L.length * 4, none⟩) (Ne.symm hgB) (.int .i64 y.kind)) (p := ⟨g, L.length * 4 + 1, none⟩) (Ne.symm hgB) (.int .i64 y.num)) (p := ⟨g, L.length * 4 + 2, none⟩) (Ne.symm hgB) (.string y.text)) (p := ⟨g, L.length * 4 + 3, none⟩) (Ne.symm hgB) (.slice A2 m2 cap2)
    obtain ⟨W', hW'⟩ : ∃ W', W' = ((((w1.setCell ⟨B1, 0, none⟩ (.slice (some ⟨g, 0, none⟩) (L.length + 1) cap1)).setCell ⟨g, L.length * 4, none⟩ (.int .i64 y.kind)).setCell ⟨g, L.length * 4 + 1, none⟩ (.int .i64 y.num)).setCell ⟨g, L.length * 4 + 2, none⟩ (.string y.text)).setCell ⟨g, L.length * 4 + 3, none⟩ (.slice A2 m2 cap2) := ⟨_, rfl⟩
    obtain ⟨q1, q2, q3, q4, q5⟩ := setsB hW'
    have q6 : W'.heap[B1]? = some (.cells #[(.slice (some ⟨g, 0, none⟩) (L.length + 1) cap1)] 22 (0, 0)) := by rw [hW']; exact hb5
    have q7 : W'.heap[g]? = some (.cells (xs ++ .int .i64 y.kind :: .int .i64 y.num :: .string y.text :: .slice A2 m2 cap2 :: r).toArray 39 (0, 0)) := by rw [hW']; exact h4
    rw [← hW']
    have hE := coll_end (W := W) (base := base) (B1 := B1) hbl hcs hg hat hB1 hy q1 q2 q3 q4 q6 q7 q5 hgb hgc hgm hgs'
    exact hQ _ _ _ q6 hE.1 hE.2
  simp only [Tryz.f10] at HF
  refine wpIn_region_any (by kernel_rfl) ?_
  change wpAnyIn _ _ _ _ _ _ _ _ _ (World.drew _)
  refine wpAnyIn_ready (rs := [0, 1, 3]) (by kernel_rfl) (by simp) ?_
  refine AllReadyIn.cons rfl (fun K hK => ?_) ?_
  · go_simp
    refine hK _ _ ?_
    clear hK K
    refine wpAnyIn_ready (rs := [1, 2, 3]) (by kernel_rfl) (by simp) ?_
    refine AllReadyIn.cons rfl (fun K hK => ?_) ?_
    · go_simp
      refine hK _ _ ?_
      clear hK K
      refine wpAnyIn_ready (rs := [2, 3]) (by kernel_rfl) (by simp) ?_
      refine AllReadyIn.cons rfl (fun K hK => ?_) ?_
      · go_simp
        refine hK _ _ ?_
        clear hK K
        refine wpAnyIn_ready (rs := [3]) (by kernel_rfl) (by simp) ?_
        refine AllReadyIn.cons rfl (fun K hK => ?_) ?_
        · go_simp
          refine hK _ _ ?_
          clear hK K
          exact HF
        exact AllReadyIn.nil
      refine AllReadyIn.cons rfl (fun K hK => ?_) ?_
      · go_simp
        refine hK _ _ ?_
        clear hK K
        refine wpAnyIn_ready (rs := [2]) (by kernel_rfl) (by simp) ?_
        refine AllReadyIn.cons rfl (fun K hK => ?_) ?_
        · go_simp
          refine hK _ _ ?_
          clear hK K
          exact HF
        exact AllReadyIn.nil
      exact AllReadyIn.nil
    refine AllReadyIn.cons rfl (fun K hK => ?_) ?_
    · go_simp
      refine hK _ _ ?_
      clear hK K
      refine wpAnyIn_ready (rs := [1, 3]) (by kernel_rfl) (by simp) ?_
      refine AllReadyIn.cons rfl (fun K hK => ?_) ?_
      · go_simp
        refine hK _ _ ?_
        clear hK K
        refine wpAnyIn_ready (rs := [3]) (by kernel_rfl) (by simp) ?_
        refine AllReadyIn.cons rfl (fun K hK => ?_) ?_
        · go_simp
          refine hK _ _ ?_
          clear hK K
          exact HF
        exact AllReadyIn.nil
      refine AllReadyIn.cons rfl (fun K hK => ?_) ?_
      · go_simp
        refine hK _ _ ?_
        clear hK K
        refine wpAnyIn_ready (rs := [1]) (by kernel_rfl) (by simp) ?_
        refine AllReadyIn.cons rfl (fun K hK => ?_) ?_
        · go_simp
          refine hK _ _ ?_
          clear hK K
          exact HF
        exact AllReadyIn.nil
      exact AllReadyIn.nil
    refine AllReadyIn.cons rfl (fun K hK => ?_) ?_
    · go_simp
      refine hK _ _ ?_
      clear hK K
      refine wpAnyIn_ready (rs := [1, 2]) (by kernel_rfl) (by simp) ?_
      refine AllReadyIn.cons rfl (fun K hK => ?_) ?_
      · go_simp
        refine hK _ _ ?_
        clear hK K
        refine wpAnyIn_ready (rs := [2]) (by kernel_rfl) (by simp) ?_
        refine AllReadyIn.cons rfl (fun K hK => ?_) ?_
        · go_simp
          refine hK _ _ ?_
          clear hK K
          exact HF
        exact AllReadyIn.nil
      refine AllReadyIn.cons rfl (fun K hK => ?_) ?_
      · go_simp
        refine hK _ _ ?_
        clear hK K
        refine wpAnyIn_ready (rs := [1]) (by kernel_rfl) (by simp) ?_
        refine AllReadyIn.cons rfl (fun K hK => ?_) ?_
        · go_simp
          refine hK _ _ ?_
          clear hK K
          exact HF
        exact AllReadyIn.nil
      exact AllReadyIn.nil
    exact AllReadyIn.nil
  refine AllReadyIn.cons rfl (fun K hK => ?_) ?_
  · go_simp
    refine hK _ _ ?_
    clear hK K
    refine wpAnyIn_ready (rs := [0, 3]) (by kernel_rfl) (by simp) ?_
    refine AllReadyIn.cons rfl (fun K hK => ?_) ?_
    · go_simp
      refine hK _ _ ?_
      clear hK K
      refine wpAnyIn_ready (rs := [2, 3]) (by kernel_rfl) (by simp) ?_
      refine AllReadyIn.cons rfl (fun K hK => ?_) ?_
      · go_simp
        refine hK _ _ ?_
        clear hK K
        refine wpAnyIn_ready (rs := [3]) (by kernel_rfl) (by simp) ?_
        refine AllReadyIn.cons rfl (fun K hK => ?_) ?_
        · go_simp
          refine hK _ _ ?_
          clear hK K
          exact HF
        exact AllReadyIn.nil
      refine AllReadyIn.cons rfl (fun K hK => ?_) ?_
      · go_simp
        refine hK _ _ ?_
        clear hK K
        refine wpAnyIn_ready (rs := [2]) (by kernel_rfl) (by simp) ?_
        refine AllReadyIn.cons rfl (fun K hK => ?_) ?_
        · go_simp
          refine hK _ _ ?_
          clear hK K
          exact HF
        exact AllReadyIn.nil
      exact AllReadyIn.nil
    refine AllReadyIn.cons rfl (fun K hK => ?_) ?_
    · go_simp
      refine hK _ _ ?_
      clear hK K
      refine wpAnyIn_ready (rs := [0]) (by kernel_rfl) (by simp) ?_
      refine AllReadyIn.cons rfl (fun K hK => ?_) ?_
      · go_simp
        refine hK _ _ ?_
        clear hK K
        refine wpAnyIn_ready (rs := [2]) (by kernel_rfl) (by simp) ?_
        refine AllReadyIn.cons rfl (fun K hK => ?_) ?_
        · go_simp
          refine hK _ _ ?_
          clear hK K
          exact HF
        exact AllReadyIn.nil
      exact AllReadyIn.nil
    exact AllReadyIn.nil
  refine AllReadyIn.cons rfl (fun K hK => ?_) ?_
  · go_simp
    refine hK _ _ ?_
    clear hK K
    refine wpAnyIn_ready (rs := [0, 1]) (by kernel_rfl) (by simp) ?_
    refine AllReadyIn.cons rfl (fun K hK => ?_) ?_
    · go_simp
      refine hK _ _ ?_
      clear hK K
      refine wpAnyIn_ready (rs := [1, 2]) (by kernel_rfl) (by simp) ?_
      refine AllReadyIn.cons rfl (fun K hK => ?_) ?_
      · go_simp
        refine hK _ _ ?_
        clear hK K
        refine wpAnyIn_ready (rs := [2]) (by kernel_rfl) (by simp) ?_
        refine AllReadyIn.cons rfl (fun K hK => ?_) ?_
        · go_simp
          refine hK _ _ ?_
          clear hK K
          exact HF
        exact AllReadyIn.nil
      refine AllReadyIn.cons rfl (fun K hK => ?_) ?_
      · go_simp
        refine hK _ _ ?_
        clear hK K
        refine wpAnyIn_ready (rs := [1]) (by kernel_rfl) (by simp) ?_
        refine AllReadyIn.cons rfl (fun K hK => ?_) ?_
        · go_simp
          refine hK _ _ ?_
          clear hK K
          exact HF
        exact AllReadyIn.nil
      exact AllReadyIn.nil
    refine AllReadyIn.cons rfl (fun K hK => ?_) ?_
    · go_simp
      refine hK _ _ ?_
      clear hK K
      refine wpAnyIn_ready (rs := [0]) (by kernel_rfl) (by simp) ?_
      refine AllReadyIn.cons rfl (fun K hK => ?_) ?_
      · go_simp
        refine hK _ _ ?_
        clear hK K
        refine wpAnyIn_ready (rs := [2]) (by kernel_rfl) (by simp) ?_
        refine AllReadyIn.cons rfl (fun K hK => ?_) ?_
        · go_simp
          refine hK _ _ ?_
          clear hK K
          exact HF
        exact AllReadyIn.nil
      exact AllReadyIn.nil
    exact AllReadyIn.nil
  exact AllReadyIn.nil
end Go.Proofs.YtmnblgaefdahhaaGreatDoor
