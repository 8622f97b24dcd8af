/- The iterator of a sorted set. A sorted set's members. -/
import Derived.Test.YtmnblgaefdahhaaGreatDoorCQtC
/- The iterator of a sorted set. -/
set_option linter.unusedVariables false
set_option linter.unusedSimpArgs false
namespace Go.Proofs.YtmnblgaefdahhaaGreatDoor
open Go.RowKit Go.Shelf
attribute [local go_sem] Oper.semAt_some lt_succ_of

theorem enters_mall (args : Array Value) (w : World) : (callFunc 55 args).run Tryz.prog w = .ok (.enter 55 args) w := Tryz.call55 args w
theorem keys_calls (b : Nat) (q : Option Addr) (w : World) (h : w.cell? ⟨b, 0, none⟩ = some (.pointer q)) : Calls Tryz.prog 40 #[.pointer (some ⟨b, 0, none⟩)] w fun e w' => e = .returned (.pointer q) ∧ w = w' := by
  have hlt := World.block_lt_of_cell? w _ h
  go_enter Tryz.func40, Tryz.ntmps40
  go_wp2_with fail
  go_ret
  exact ⟨rfl, rfl⟩
def YBox1 (l Y : Nat) (W : World) : Prop := W.heap[Y]? = some (.cells #[.func (.yield l) #[] #[]] 87 (0, 0))
set_option maxRecDepth 100000 in
set_option maxHeartbeats 8000000 in
theorem sall_each (o : Nat) (t : Nd) (p : Option Addr) (X : Nat) (S : Nat → Prop) (w : World) (hX : w.heap[X]? = some (.cells #[.pointer p] 29 (0, 0))) (hm : IsT w S o t p) : Each Ar1 39 #[.pointer (some ⟨X, 0, none⟩)] S w.heap.size (keysN t) w := by
  intro ll J W hW hJ hR h0 n
  have hX1 := blockB hW hX
  obtain ⟨w1, hw1, hB1, hsz, hb0⟩ : ∃ w1, W.alloc (.cells #[.func (.yield ll) #[] #[]] 87) = w1 ∧ Below W.heap.size W w1 ∧ W.heap.size + 1 = w1.heap.size ∧ YBox1 ll W.heap.size w1 := ⟨_, rfl, alloc_of (Below.refl _ _) _, by simp, heap_alloc_new W _⟩
  have hX2 := blockB hB1 hX1
  have cX : w1.cell? ⟨X, 0, none⟩ = some (.pointer p) := by simp [World.cell?, hX2]
  have hXl := World.block_lt_of_cell? w1 _ cX
  have hW1 := below_then hW hW.size hB1
  have hm1 : IsT w1 (fun b => S b ∧ b < w.heap.size) o t p := hm.keep (Keeps.below_to hW1 fun b h1 h2 => ⟨h2, h1⟩)
  obtain ⟨b, q, rfl, hs, hl, m0, hmq⟩ := hm1
  have HK := Lib.hid (callsIn_wide (n := n).2 (keys_calls b q w1 m0))
  have HA := Lib.hid (callsIn_wide (n := n).2 (mall_calls q w1))
  have HM := Lib.hid hmq
  clear hm hX hX1 hX2 hs hl m0 hmq
  refine callsIn_of_wp_marks Tryz.func39 rfl trivial ?_ rfl
  simp only [Tryz.ntmps39, List.size_toArray, List.length_cons, List.length_nil, Nat.reduceAdd, Nat.reduceSub, Array.replicate_succ, Array.replicate_zero, List.push_toArray, List.append_toArray, List.nil_append, List.cons_append]
  gi_wp2_with (first
    | (refine ⟨trivial, fun h => (by cases h), ?_⟩; gi_at_call 40; refine (callsIn_wide.2 (callsIn_wide.1 HK.out)).mono ?_; rintro e w2 ⟨rfl, rfl⟩)
    | (refine ⟨trivial, fun h => (by cases h), ?_⟩; gi_at_call 41; refine (callsIn_wide.2 (callsIn_wide.1 HA.out)).mono ?_; rintro e w2 ⟨rfl, hX2, hb2⟩; have HX2 := Lib.hid hX2; clear hX2))
  have hsz2 := hb2.size
  have hW2 : Below W.heap.size W w2 := below_then hB1 hB1.size hb2
  have hb02 : YBox1 ll W.heap.size w2 := blockB hb2 hb0
  have hWw := hW.size
  refine range_law Ar2 n (gf := 55) (lb := #[.pointer (some ⟨w1.heap.size, 0, none⟩)]) rfl enters_mall (G := keysN t) (S := fun b => S b ∧ b < w.heap.size)
    (mall_each o t q _ _ w2 HX2.out (HM.out.below hb2)) ?hps
    (fun T pre W' => J (fun b => T b ∨ b = W.heap.size ∨ b = w2.heap.size ∨ b = w2.heap.size + 1) pre W' ∧ YBox1 ll W.heap.size W') ?hI ?hI2 ?start ?round ?done
  case hps => rintro W' S' x args ⟨vk, vv, v, rfl, _⟩; rfl
  case hI =>
    rintro T s Wa Wb ⟨hj, hy⟩ hg
    exact ⟨hJ _ s Wa Wb hj ⟨hg.os, hg.tape, hg.output, hg.size, fun k hk hn => hg.block k hk (fun e => hn ⟨.inr (.inr (.inr (by injection e))), by injection e with e; omega⟩)⟩, (hg.block _ (Array.getElem?_eq_some_iff.1 hy).1 (fun e => by injection e with e; omega)).trans hy⟩
  case hI2 =>
    rintro T s Wa Wb ⟨hj, hy⟩ hg
    exact ⟨hJ _ s Wa Wb hj (hg.mono fun k _ h => ⟨.inl h.1, by have := h.2; omega⟩), (hg.block _ (Array.getElem?_eq_some_iff.1 hy).1 (fun e => by have := e.2; omega)).trans hy⟩
  case start =>
    intro T W' hb hs hT
    refine ⟨h0 _ W' (below_then hW2 hW2.size hb) (fun k hk => ?_), blockB hb hb02⟩
    rcases hk with hk | rfl | rfl | rfl
    · rcases hT k hk with h | h
      · exact .inl h.1
      · exact .inr (by omega)
    · exact .inr (by omega)
    · exact .inr (by omega)
    · exact .inr (by omega)
  case round =>
    rintro T l0 pre x args W0 Wn m ⟨hj0, hy0⟩ hW0 hsz0 hT0 ⟨vk, vv, v, rfl, hk, hv⟩ hpre
    obtain ⟨hbk, Ak, ck, rfl, hck, hLk⟩ := hk.eq
    gi_wp2
    refine ⟨(Below.refl _ _).alloc (Nat.le_refl _) _, ?_⟩
    rintro Wb hgb ⟨hjb, hyb⟩
    have hbx : Wb.heap[Wn.heap.size]? = some (.cells #[.int .i64 x.kind, .int .i64 x.num, .string x.text, .slice Ak x.items.length ck] 39 (0, 0)) := (hgb.block Wn.heap.size (by simp) (fun e => by injection e with e; have := hW0.size; omega)).trans (heap_alloc_new Wn _)
    obtain ⟨k0, k1, k2, k3⟩ := block4 hbx
    have ey : Wb.cell? ⟨W.heap.size, 0, none⟩ = some (.func (.yield ll) #[] #[]) := by simp [World.cell?, show Wb.heap[W.heap.size]? = _ from hyb]
    have hyl := World.block_lt_of_cell? Wb _ ey
    have hkl := World.block_lt_of_cell? Wb _ k0
    have hal : But (fun b => T b ∧ w2.heap.size + 2 ≤ b) Wn (Wn.alloc (.cells #[.int .i64 x.kind, .int .i64 x.num, .string x.text, .slice Ak x.items.length ck] 39)) := But.of ((Below.refl _ _).alloc (Nat.le_refl _) _)
    have hgB : But (fun b => (T b ∨ b = W.heap.size ∨ b = w2.heap.size ∨ b = w2.heap.size + 1) ∧ W.heap.size ≤ b) (Wn.alloc (.cells #[.int .i64 x.kind, .int .i64 x.num, .string x.text, .slice Ak x.items.length ck] 39)) Wb := ⟨hgb.os, hgb.tape, hgb.output, hgb.size, fun k hk hn => hgb.block k hk (fun e => hn ⟨.inr (.inr (.inr (by injection e))), by injection e with e; omega⟩)⟩
    have hBut : But (fun b => (T b ∨ b = W.heap.size ∨ b = w2.heap.size ∨ b = w2.heap.size + 1) ∧ W.heap.size ≤ b) W0 Wb := ((hW0.trans hal).mono fun k _ h => ⟨.inl h.1, by have := h.2; omega⟩).trans hgB
    have hArg : Ar1 Wb (fun b => W0.heap.size ≤ b) x #[.agg #[.int .i64 x.kind, .int .i64 x.num, .string x.text, .slice Ak x.items.length ck]] := ⟨_, rfl, IsV.mk hbk hck (hLk.keep fun k hk (h : W0.heap.size ≤ k) => ⟨h, (hgb.block k (by simp; omega) (fun e => by injection e with e; omega)).trans (Below.heap_alloc _ _ _ hk)⟩)⟩
    obtain ⟨fn, tmps, assign, body, hy, hRR⟩ := hR _ pre x _ W0 Wb hj0 hBut hArg hpre (m - 1)
    have HYB := Lib.hid hyb
    clear hjb hyb hj0 hy0 hk hv hbk hLk hal hgB hBut hArg hbx
    gi_wp2_with (refine ⟨fun h => (by cases h), hRR.mono ?_⟩; rintro e w5 ⟨rfl, h6, h7⟩; have H67 := Lib.hid (And.intro h6 h7); clear h6 h7)
    have hst := H67.out.2
    exact ⟨⟨hst.1, hst.2 _ (.inr (.inr (.inl rfl))), hst.2 _ (.inr (.inr (.inr rfl)))⟩, ⟨hst.1, fun k hk => hst.2 k (.inl hk)⟩, H67.out.1, (hst.2 _ (.inr (.inl rfl))).trans HYB.out⟩
  case done =>
    rintro T D Wd hD ⟨hj, hy⟩ hKd
    have HJ := Lib.hid (show J (fun b => T b ∨ b = W.heap.size ∨ b = w2.heap.size ∨ b = w2.heap.size + 1) (keysN t) (Wd.putObj D (.deferred none)) from hJ _ _ _ _ hj (by
      subst hD
      have hg := grownBy_putObj' Wd w2.heap.size (.deferred none)
      exact ⟨hg.os, hg.tape, hg.output, hg.size, fun k hk hn => hg.block k hk (fun e => hn ⟨.inr (.inr (.inl (by injection e))), by injection e with e; omega⟩)⟩))
    clear hj hy
    gi_wp2
    refine ⟨by simp, .inl ⟨_, _, rfl, run_takeDeferred hKd, ?_⟩⟩
    exact ⟨_, results_none rfl _ _ _, ⟨_, rfl⟩, _, HJ.out⟩
end Go.Proofs.YtmnblgaefdahhaaGreatDoor

/- A sorted set's members. -/
set_option linter.unusedVariables false
set_option linter.unusedSimpArgs false
namespace Go.Proofs.YtmnblgaefdahhaaGreatDoor
open Go.RowKit Go.Shelf
attribute [local go_sem] Oper.semAt_some lt_succ_of

theorem enters_sall (args : Array Value) (w : World) : (callFunc 39 args).run Tryz.prog w = .ok (.enter 39 args) w := Tryz.call39 args w
theorem sall_calls (p : Option Addr) (w : World) :
    Calls Tryz.prog 23 #[.pointer p] w fun e w' => e = .returned (.func (.func 39) #[] #[.pointer (some ⟨w.heap.size, 0, none⟩)]) ∧ w'.heap[w.heap.size]? = some (.cells #[.pointer p] 29 (0, 0)) ∧ Below w.heap.size w w' := by
  obtain ⟨w1, hw1, h1, h3⟩ : ∃ w1, w.alloc (.cells #[.pointer p] 29) = w1 ∧ w1.heap[w.heap.size]? = some (.cells #[.pointer p] 29 (0, 0)) ∧ Below w.heap.size w w1 := ⟨_, rfl, heap_alloc_new w _, alloc_of (Below.refl _ _) _⟩
  have H1 := Lib.hid h1
  clear h1
  go_enter Tryz.func23, Tryz.ntmps23
  go_wp2_with fail
  go_ret
  exact ⟨rfl, H1.out, h3⟩
set_option maxRecDepth 100000 in
set_option maxHeartbeats 8000000 in
theorem sitems_calls (o : Nat) (t : Nd) (p : Option Addr) (w : World) (S0 : Nat → Prop) (hr : IsT w S0 o t p) (hl65 : (keysN t).length ≤ 65536) :
    Calls Tryz.prog 10 #[.pointer p] w fun e w' => ∃ v, e = .returned v ∧ IsS w' (fun b => w.heap.size ≤ b) (keysN t) v ∧ Below w.heap.size w w' := by
  refine (callsIn_wide (n := 9)).1 ?_
  have hrS : IsT w (fun b => S0 b ∧ b < w.heap.size) o t p := hr.keep fun b hb hs => ⟨⟨hs, hb⟩, rfl⟩
  clear hr
  obtain ⟨l, hl⟩ : ∃ l, keysN t = l := ⟨_, rfl⟩
  refine callsIn_of_wp_marks Tryz.func10 rfl trivial ?_ rfl
  simp only [Tryz.ntmps10, List.size_toArray, List.length_cons, List.length_nil, Nat.reduceAdd, Nat.reduceSub, Array.replicate_succ, Array.replicate_zero, List.push_toArray, List.append_toArray, List.nil_append, List.cons_append]
  obtain ⟨w1, hw1, hB1, hsz, hb0⟩ : ∃ w1, w.alloc (.cells #[.slice none 0 0] 22) = w1 ∧ Below w.heap.size w w1 ∧ w.heap.size + 1 = w1.heap.size ∧ w1.heap[w.heap.size]? = some (.cells #[.slice none 0 0] 22 (0, 0)) :=
    ⟨_, rfl, (Below.refl _ _).alloc (Nat.le_refl _) _, by simp, heap_alloc_new w _⟩
  have HC := Lib.hid (callsIn_wide (n := 8).2 (sall_calls p w1))
  rw [hl] at hl65 ⊢
  have HLL := Lib.hid hl
  clear hl
  gi_wp2_with (first | (refine ⟨trivial, ?_⟩; gi_at_call 23; refine HC.out.mono ?_; rintro e w2 ⟨rfl, hX, hb2⟩; have HX := Lib.hid hX; clear hX))
  have hsz2 := hb2.size
  have hB2 : Below w.heap.size w w2 := below_then hB1 hB1.size hb2
  have hb02 := blockB hb2 hb0
  have hseq := sall_each o t p _ _ w2 HX.out (hrS.below hB2)
  rw [HLL.out] at hseq
  refine range_law Ar1 9 (gf := 39) (lb := #[.pointer (some ⟨w1.heap.size, 0, none⟩)]) rfl enters_sall (G := l) (S := fun b => S0 b ∧ b < w.heap.size)
    hseq ?hps
    (fun T pre W => (∃ v, W.heap[w.heap.size]? = some (.cells #[v] 22 (0, 0)) ∧ OwnL W (w2.heap.size + 2) (fun b => w2.heap.size + 2 ≤ b ∧ ¬ T b) pre v ∧ ∀ b, T b → b ≠ w.heap.size ∧ b < W.heap.size ∧ v.ownBlock ≠ some b) ∧ Below w.heap.size w W ∧ w2.heap.size ≤ W.heap.size)
    ?hI ?hI2 ?start ?round ?done
  case hps => rintro W' S' x args ⟨v, rfl, _⟩; rfl
  case start =>
    intro T W hb hsz3 hT
    refine ⟨⟨_, blockB hb hb02, OwnL.nil _ _ _, fun b h => ?_⟩, below_then hB2 hB2.size hb, by omega⟩
    have := hT b h
    exact ⟨by omega, by omega, by simp [Value.ownBlock]⟩
  case hI =>
    rintro T s W W' ⟨⟨v, hv, hown, hT⟩, hbel, hsz3⟩ hg
    refine ⟨⟨v, (hg.block _ (Array.getElem?_eq_some_iff.1 hv).1 (fun e => by injection e with e; omega)).trans hv, hown.keep (Keeps.grown hg fun k e (h : w2.heap.size + 2 ≤ k ∧ ¬ T k) => by injection e with e; omega) fun k hk => hg.block k (hown.own_lt k hk).2 (fun e => by injection e with e; have := (hown.own_lt k hk).1; omega), fun b hb => ⟨(hT b hb).1, Nat.lt_of_lt_of_le (hT b hb).2.1 hg.size, (hT b hb).2.2⟩⟩, hbel.grown hg hbel.size (fun k hk => by injection hk with hk; omega), Nat.le_trans hsz3 hg.size⟩
  case hI2 =>
    rintro T s W W' ⟨⟨v, hv, hown, hT⟩, hbel, hsz3⟩ hg
    refine ⟨⟨v, (hg.block _ (Array.getElem?_eq_some_iff.1 hv).1 (fun e => (hT _ e.1).1 rfl)).trans hv, hown.keep (hg.keeps fun k (h : w2.heap.size + 2 ≤ k ∧ ¬ T k) e => h.2 e.1) fun k hk => hg.block k (hown.own_lt k hk).2 (fun e => (hT k e.1).2.2 hk), fun b hb => ⟨(hT b hb).1, Nat.lt_of_lt_of_le (hT b hb).2.1 hg.size, (hT b hb).2.2⟩⟩, hbel.trans (hg.below hbel.size fun k e => by have := e.2; omega), Nat.le_trans hsz3 hg.size⟩
  case round =>
    rintro T l0 pre x args W0 W m ⟨⟨v0, hv0, hown, hT0⟩, hbel, hsz0⟩ hW hszW hTl ⟨v9, rfl, hv⟩ hpre
    obtain ⟨hbd, A, cap, rfl, hcap, hLA⟩ := hv.eq
    gi_wp2
    refine ⟨(Below.refl _ _).alloc (Nat.le_refl _) _, ?_⟩
    rintro Wb hgb ⟨⟨v, hvb, hob, hTb⟩, hbelb, hszb⟩
    have hsW := hW.size
    have hne : W.heap.size ≠ w2.heap.size + 1 := by omega
    have hbx : Wb.heap[W.heap.size]? = some (.cells #[.int .i64 x.kind, .int .i64 x.num, .string x.text, .slice A x.items.length cap] 39 (0, 0)) := (hgb.block W.heap.size (by simp) (fun e => hne (by injection e))).trans (heap_alloc_new W _)
    have hvv : v = v0 := by
      have h1 := (hgb.block w.heap.size (by simp; omega) (fun e => by injection e with e; omega)).symm.trans hvb
      rw [Below.heap_alloc _ _ _ (by omega), hW.block w.heap.size (by omega) (fun e => (hT0 _ e.1).1 rfl), hv0] at h1
      injection h1 with h1
      injection h1 with h1
      injection h1 with h1
      injection h1 with h1
      exact h1.symm
    subst hvv
    have hown2 := hown.own_lt
    obtain ⟨A2, c2, rfl, hc2⟩ := hob.form
    have hKy : Keeps W (fun b => W0.heap.size ≤ b) Wb (fun b => (w2.heap.size + 2 ≤ b ∧ ¬ T b) ∧ some b ≠ (Value.slice A2 pre.length c2).ownBlock) := by
      refine ((Keeps.alloc _).trans (Keeps.grown hgb fun k e (h : W0.heap.size ≤ k) => by injection e with e; omega)).trans (Keeps.weak fun b (h : W0.heap.size ≤ b) => ⟨⟨by omega, fun e => by have := hTl b e; omega⟩, fun e => by have := (hown2 b e.symm).2; omega⟩)
    have hy := VC.mk hbd hcap (hLA.keep hKy)
    have hlen : pre.length ≤ 4294967296 := by
      have h1 := hpre.length_le
      rw [List.length_append] at h1
      omega
    have hwb := hgb.size
    simp only [World.size_alloc] at hwb
    gi_wp2
    refine round_items l0 m Wb (w2.heap.size + 2) (fun b => w2.heap.size + 2 ≤ b ∧ ¬ T b) w.heap.size W.heap.size pre A2 c2 x _ _ _ _ _ _ _ _ _ _ _ _ _ _ _ _ _ _ hvb hbx rfl ⟨_, _, _, rfl⟩ hob (by omega) hlen (fun h => by have := h.1; omega) (fun e => by have := (hown2 _ e).1; omega) (fun e => by have := (hown2 _ e).2; omega) hy ?_
    intro a' v1 W' h1 h2 h3
    refine ⟨⟨h3.size, h3.block _ (by omega) (by omega) (fun e => by have := (hown2 _ e.symm).1; omega), h3.block _ (by omega) (by omega) (fun e => by have := (hown2 _ e.symm).1; omega)⟩, ⟨h3.size, fun k hk => ?_⟩, ⟨⟨v1, h1, h2, fun b hb => ⟨(hTb b hb).1, Nat.lt_of_lt_of_le (hTb b hb).2.1 h3.size, fun e => ?_⟩⟩, ⟨h3.os.trans hbelb.os, h3.tape.trans hbelb.tape, h3.output.trans hbelb.output, Nat.le_trans hbelb.size h3.size, fun k hk => ?_⟩, Nat.le_trans hszb h3.size⟩⟩
    · exact h3.block k (hTb k hk).2.1 (hTb k hk).1 (fun e => (hTb k hk).2.2 e.symm)
    · rcases h3.own with h4 | ⟨g, h4, h5⟩
      · rw [h4] at e; exact (hTb b hb).2.2 e
      · rw [h4] at e; injection e with e; have := (hTb b hb).2.1; omega
    · rw [h3.block k (by omega) (by omega) (fun e => by have := (hown2 k e.symm).1; omega)]
      exact hbelb.block k hk
  case done =>
    rintro T D W hD ⟨⟨v, hv, hown, _⟩, hbel, hszD⟩ hK
    obtain ⟨A2, c2, rfl, hc2⟩ := hown.form
    have hcv : W.cell? ⟨w.heap.size, 0, none⟩ = some (.slice A2 l.length c2) := by simp [World.cell?, hv]
    have hlen := (Array.getElem?_eq_some_iff.1 hv).1
    have HO := Lib.hid hown
    have HV := Lib.hid hv
    clear hown hv
    gi_wp2
    refine ⟨by simp, .inl ⟨_, _, rfl, run_takeDeferred hK, ?_⟩⟩
    have hg := grownBy_putObj' W D (.deferred none)
    have hO2 : OwnL (W.putObj D (.deferred none)) (w2.heap.size + 2) (fun b => w2.heap.size + 2 ≤ b ∧ ¬ T b) l (.slice A2 l.length c2) :=
      HO.out.keep (Keeps.grown hg fun k e (h : w2.heap.size + 2 ≤ k ∧ ¬ T k) => by injection e with e; omega) fun k hk => hg.block k (HO.out.own_lt k hk).2 (fun e => by injection e with e; have := (HO.out.own_lt k hk).1; omega)
    have hI : IsS (W.putObj D (.deferred none)) (fun b => w.heap.size ≤ b) l (.slice A2 l.length c2) := hO2.is (fun b (h : w2.heap.size + 2 ≤ b ∧ ¬ T b) => show w.heap.size ≤ b by omega) (fun b (h : w2.heap.size + 2 ≤ b) => show w.heap.size ≤ b by omega) (by omega)
    exact ⟨_, results_tmp rfl _ _ _, .slice A2 l.length c2, rfl, hI, hbel.grown hg hbel.size (fun k hk => by injection hk with hk; omega)⟩
end Go.Proofs.YtmnblgaefdahhaaGreatDoor
