/- The iterator of a deque. -/
import Derived.Test.YtjjbhnkplbjfeaaDoorCFnM

set_option linter.unusedVariables false
set_option linter.unusedSimpArgs false
namespace Go.Proofs.YtjjbhnkplbjfeaaDoor
open Go.RowKit Go.Shelf
attribute [local go_sem] Oper.semAt_some lt_succ_of

theorem box0 (w : World) (t : TypeId) (c0 c1 c2 c3 : Value) : ∃ w1, w.alloc (.cells #[c0, c1, c2, c3] t) = w1 ∧ Below w.heap.size w w1 ∧ w.heap.size + 1 = w1.heap.size ∧ w1.heap[w.heap.size]? = some (.cells #[c0, c1, c2, c3] t (0, 0)) :=
  ⟨_, rfl, (Below.refl _ _).alloc (Nat.le_refl _) _, by simp, heap_alloc_new w _⟩
/-- A round, its answer as one letter. -/
def Turn (T : Nat → Prop) (J Jx : List V → World → Prop) (pre : List V) (W : World) (b : Bool) (W' : World) : Prop := (b = true ∧ J pre W' ∧ Still T W W') ∨ (b = false ∧ Jx pre W')
theorem turn_of {T : Nat → Prop} {J Jx : List V → World → Prop} {pre : List V} {W W' : World} {e : Ending} (h : (e = .returned (.bool true) ∧ J pre W' ∧ Still T W W') ∨ (e = .returned (.bool false) ∧ Jx pre W')) : ∃ b, e = .returned (.bool b) ∧ Turn T J Jx pre W b W' := by
  rcases h with ⟨h1, h2⟩ | ⟨h1, h2⟩
  · exact ⟨true, h1, .inl ⟨rfl, h2⟩⟩
  · exact ⟨false, h1, .inr ⟨rfl, h2⟩⟩
/-- The box that holds the yield. -/
def YBox (l Y : Nat) (W : World) : Prop := W.heap[Y]? = some (.cells #[.func (.yield l) #[] #[]] 104 (0, 0))
set_option maxRecDepth 100000 in
set_option maxHeartbeats 8000000 in
theorem closure_round (l Y : Nat) (T : Nat → Prop) (J Jx : List V → World → Prop) (G : List V) (hJ : Stays J) (hR : Round T l J Jx G) (hY : T Y) : DoRound T Y (fun pre W => J pre W ∧ YBox l Y W) Jx G := by
  rintro pre x vx W m ⟨hj, hbox⟩ hx hT hpre
  obtain ⟨hbd, A, cap, rfl, hcap, hLA⟩ := hx.eq
  have hYl : Y < W.heap.size := hT Y hY
  obtain ⟨w1, hw1, hB1, hsz, hb0⟩ := box0 W 33 (.int .i64 x.kind) (.int .i64 x.num) (.string x.text) (.slice A x.items.length cap)
  obtain ⟨e0, e1, e2, e3⟩ := block4 hb0
  have hbox1 : w1.heap[Y]? = some (.cells #[.func (.yield l) #[] #[]] 104 (0, 0)) := blockB hB1 hbox
  have ey : w1.cell? ⟨Y, 0, none⟩ = some (.func (.yield l) #[] #[]) := by simp [World.cell?, hbox1]
  have hl1 : W.heap.size < w1.heap.size := by omega
  have hy1 := World.block_lt_of_cell? w1 _ ey
  have HX := Lib.hid (hx.below hB1)
  have HJ := Lib.hid hJ
  have HR := Lib.hid hR
  have HP := Lib.hid hpre
  have H0 := Lib.hid hj
  have HT := Lib.hid hT
  have HB := Lib.hid hbox
  have HYT := Lib.hid hY
  clear hJ hR hpre hj hT hbox hx hbox1 hb0 hY
  refine callsIn_of_wp Tryd.func102 rfl trivial ?_ rfl
  simp only [Tryd.ntmps102, List.size_toArray, List.length_cons, List.length_nil, Nat.reduceAdd, Nat.reduceSub, Array.replicate_succ, Array.replicate_zero, List.push_toArray, List.append_toArray, List.nil_append, List.cons_append]
  gi_wp2_with fail
  gi_region_with (first
    | (refine ⟨trivial, fun h => (by cases h), ?_⟩; gi_at_call 65; refine (callsIn_wide.2 (own_calls x _ _ T (HX.out.keep Keeps.drew))).mono ?_; rintro e w3 ⟨v, rfl, hv, hb3⟩; have hbW := (hB1.trans (below_undrew hb3 |>.mono hB1.size)); obtain ⟨_, A3, c3, rfl, _, _⟩ := hv.eq; obtain ⟨fn, tmps, assign, body, hy, hRR⟩ := HR.out pre x _ W w3 H0.out hbW (hv.keep (Keeps.weak fun b hb => Nat.le_trans hB1.size hb)) HP.out (m - 1); have ey3 := cellB (below_undrew hb3) ey; have hl3 := World.block_lt_of_cell? w3 _ ey3; clear hv)
    | (refine ⟨fun h => (by cases h), hRR.mono ?_⟩; rintro e w5 h5; obtain ⟨bb, rfl, hT5⟩ := turn_of h5; have HT5 := Lib.hid hT5; clear h5 hT5))
  all_goals gi_wp2_with fail
  all_goals go_ret
  all_goals
    rcases HT5.out with ⟨rfl, h6, h7⟩ | ⟨rfl, h6⟩
    · have h8 := (Still.below hbW HT.out).trans h7
      exact .inl ⟨rfl, ⟨h6, (h8.2 Y HYT.out).trans HB.out⟩, h8⟩
    · exact .inr ⟨rfl, h6⟩
/-- A deque in memory; a nil one is empty. -/
def IsD (w : World) (S : Nat → Prop) (l : List V) (p : Option Addr) : Prop := l.length ≤ 65536 ∧ ((p = none ∧ l = []) ∨ ∃ b t q, p = some ⟨b, 0, none⟩ ∧ S b ∧ w.cell? ⟨b, 0, none⟩ = some (.pointer q) ∧ IsF w S t q ∧ Ft.Ok 0 t ∧ t.items = l)
theorem IsD.keep {w w' : World} {S S' : Nat → Prop} (hk : Keeps w S w' S') {l : List V} {p : Option Addr} (h : IsD w S l p) : IsD w' S' l p := by
  obtain ⟨h0, h | ⟨b, t, q, e, hs, c, hf, ho, hi⟩⟩ := h
  · exact ⟨h0, .inl h⟩
  · exact ⟨h0, .inr ⟨b, t, q, e, (hk.cell (a := ⟨b, 0, none⟩) hs c).1, (hk.cell (a := ⟨b, 0, none⟩) hs c).2, hf.keep hk, ho, hi⟩⟩
theorem IsD.below {w w' : World} {S : Nat → Prop} (hk : Below w.heap.size w w') {l : List V} {p : Option Addr} (h : IsD w S l p) : IsD w' S l p := h.keep (Keeps.below hk)
theorem top_calls (l : List V) (p : Option Addr) (w : World) (S : Nat → Prop) (h : IsD w S l p) : ∃ t q, IsF w S t q ∧ Ft.Ok 0 t ∧ t.items = l ∧ Calls Tryd.prog 73 #[.pointer p] w fun e w' => e = .returned (.pointer q) ∧ w = w' := by
  obtain ⟨h0, ⟨rfl, rfl⟩ | ⟨b, t, q, rfl, hs, c, hf, ho, hi⟩⟩ := h
  · refine ⟨.nil, none, rfl, trivial, rfl, ?_⟩
    go_enter Tryd.func73, Tryd.ntmps73
    go_wp2_with fail
    go_ret
    exact ⟨rfl, rfl⟩
  · refine ⟨t, q, hf, ho, hi, ?_⟩
    have hb := World.block_lt_of_cell? w _ c
    clear hf ho hi hs h0
    go_enter Tryd.func73, Tryd.ntmps73
    go_wp2_with fail
    go_ret
    exact ⟨rfl, rfl⟩
theorem all_calls (p : Option Addr) (w : World) :
    Calls Tryd.prog 69 #[.pointer p] w fun e w' => e = .returned (.func (.func 100) #[] #[.pointer (some ⟨w.heap.size, 0, none⟩)]) ∧ w'.heap[w.heap.size]? = some (.cells #[.pointer p] 23 (0, 0)) ∧ Below w.heap.size w w' := by
  obtain ⟨w1, hw1, h1, h3⟩ : ∃ w1, w.alloc (.cells #[.pointer p] 23) = w1 ∧ w1.heap[w.heap.size]? = some (.cells #[.pointer p] 23 (0, 0)) ∧ Below w.heap.size w w1 := ⟨_, rfl, heap_alloc_new w _, alloc_of (Below.refl _ _) _⟩
  have H1 := Lib.hid h1
  clear h1
  go_enter Tryd.func69, Tryd.ntmps69
  go_wp2_with fail
  go_ret
  exact ⟨rfl, H1.out, h3⟩
set_option maxRecDepth 100000 in
set_option maxHeartbeats 8000000 in
theorem all_each (l : List V) (p : Option Addr) (X : Nat) (S : Nat → Prop) (w : World) (hX : w.heap[X]? = some (.cells #[.pointer p] 23 (0, 0))) (hd : IsD w S l p) : Each 100 #[.pointer (some ⟨X, 0, none⟩)] S w.heap.size l w := by
  intro ll J Jx W hW hJ hJx hR h0 n
  have hX1 := blockB hW hX
  obtain ⟨w1, hw1, hB1, hsz, hb0⟩ : ∃ w1, W.alloc (.cells #[.func (.yield ll) #[] #[]] 104) = w1 ∧ Below W.heap.size W w1 ∧ W.heap.size + 1 = w1.heap.size ∧ YBox ll W.heap.size w1 := ⟨_, rfl, alloc_of (Below.refl _ _) _, by simp, heap_alloc_new W _⟩
  have hX2 := blockB hB1 hX1
  have cX : w1.cell? ⟨X, 0, none⟩ = some (.pointer p) := by simp [World.cell?, hX2]
  have hXl := World.block_lt_of_cell? w1 _ cX
  have hdT : IsD w1 (fun b => (S b ∧ b < w.heap.size) ∨ b = W.heap.size) l p := hd.keep (Keeps.below_to (hW.trans (hB1.mono hW.size)) fun b h1 h2 => .inl ⟨h2, h1⟩)
  obtain ⟨t, q, hf, ho, hi, hT⟩ := top_calls l p w1 _ hdT
  have hTl : ∀ b, ((S b ∧ b < w.heap.size) ∨ b = W.heap.size) → b < w1.heap.size := fun b h => by
    have := hW.size
    rcases h with h | h <;> omega
  have HE := Lib.hid fun n => each_tree t 0 q (fun b => (S b ∧ b < w.heap.size) ∨ b = W.heap.size) W.heap.size n (fun pre W' => J (fun b => (S b ∧ b < w.heap.size) ∨ b = W.heap.size) pre W' ∧ YBox ll W.heap.size W') Jx l [] w1 hf ho hTl (fun s W1 W2 h hb => ⟨hJ _ s W1 W2 h.1 hb, blockB hb h.2⟩) (closure_round ll W.heap.size _ _ Jx l (hJ _) (hR _) (.inr rfl)) (by rw [hi]; exact List.prefix_refl _)
    ⟨h0 _ w1 hB1 (fun b h => by rcases h with h | h; exact .inl h; exact .inr (by omega)), hb0⟩
  rw [hi] at HE
  have HT := Lib.hid hT
  clear hJ hJx hR h0 hX1 hX2 hX hd hdT hf ho hT hTl hb0 hi
  refine callsIn_of_wp Tryd.func100 rfl trivial ?_ rfl
  simp only [Tryd.ntmps100, List.size_toArray, List.length_cons, List.length_nil, Nat.reduceAdd, Nat.reduceSub, Array.replicate_succ, Array.replicate_zero, List.push_toArray, List.append_toArray, List.nil_append, List.cons_append]
  gi_wp2_with (first | (refine ⟨trivial, fun h => (by cases h), ?_⟩; gi_at_call 73; refine (callsIn_wide.2 HT.out).mono ?_; rintro e w2 ⟨rfl, rfl⟩))
  refine ⟨trivial, fun h => (by cases h), ?_⟩
  refine (HE.out _).mono ?_
  rintro e w5 (⟨rfl, h5⟩ | ⟨rfl, q5, h5⟩)
  · have H5 := Lib.hid h5
    clear h5
    gi_wp2_with fail
    go_end0
    exact ⟨⟨_, rfl⟩, .inl ⟨_, by have := H5.out.1.1; rwa [List.nil_append] at this⟩⟩
  · have H5 := Lib.hid h5
    clear h5
    gi_wp2_with fail
    go_end0
    exact ⟨⟨_, rfl⟩, .inr ⟨q5, H5.out.1, H5.out.2⟩⟩
end Go.Proofs.YtjjbhnkplbjfeaaDoor
