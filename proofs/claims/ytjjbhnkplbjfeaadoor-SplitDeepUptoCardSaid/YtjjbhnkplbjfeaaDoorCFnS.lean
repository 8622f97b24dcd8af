/- An item more at an end of a deque. -/
import Derived.Test.YtjjbhnkplbjfeaaDoorCFnQ

set_option linter.unusedVariables false
set_option linter.unusedSimpArgs false
namespace Go.Proofs.YtjjbhnkplbjfeaaDoor
open Go.RowKit
attribute [local go_sem] lt_succ_of methItem methNode asItem asNode isNode noNode fieldNode fieldItem notNil

theorem IsD.tree {w : World} {S : Nat → Prop} {l : List V} {p : Option Addr} (h : IsD w S l p) : ∃ t q, Ft.Ok 0 t ∧ t.items = l ∧ ∀ W, Below w.heap.size w W → IsF W (Old w S) t q ∧ Calls Tryd.prog 73 #[.pointer p] W fun e w' => e = .returned (.pointer q) ∧ W = w' := by
  obtain ⟨h0, ⟨rfl, rfl⟩ | ⟨b, t, q, rfl, hs, c, hf, ho, hi⟩⟩ := h
  · refine ⟨.nil, none, trivial, rfl, fun W hb => ⟨rfl, ?_⟩⟩
    go_enter Tryd.func73, Tryd.ntmps73
    go_wp2_with fail
    go_ret
    exact ⟨rfl, rfl⟩
  · refine ⟨t, q, ho, hi, fun W hb => ⟨hf.keep (keeps_old hb), ?_⟩⟩
    have c' := cellB hb c
    have hb := World.block_lt_of_cell? W _ c'
    clear hf ho hi hs h0 c
    go_enter Tryd.func73, Tryd.ntmps73
    go_wp2_with fail
    go_ret
    exact ⟨rfl, rfl⟩
theorem cells4B {w w' : World} {b : Nat} {v1 v2 v3 v4 : Value} (hb : Below w.heap.size w w') (h : w.cell? ⟨b, 0, none⟩ = some v1 ∧ w.cell? ⟨b, 1, none⟩ = some v2 ∧ w.cell? ⟨b, 2, none⟩ = some v3 ∧ w.cell? ⟨b, 3, none⟩ = some v4) : w'.cell? ⟨b, 0, none⟩ = some v1 ∧ w'.cell? ⟨b, 1, none⟩ = some v2 ∧ w'.cell? ⟨b, 2, none⟩ = some v3 ∧ w'.cell? ⟨b, 3, none⟩ = some v4 := ⟨cellB hb h.1, cellB hb h.2.1, cellB hb h.2.2.1, cellB hb h.2.2.2⟩
theorem lev_item (x : V) : Pt.Lev 0 (.item x) := trivial
set_option maxRecDepth 100000 in
set_option maxHeartbeats 8000000 in
theorem dfront_calls (l : List V) (p : Option Addr) (x : V) (vx : Value) (w : World) (S : Nat → Prop) (h : IsD w S l p) (hx : IsV w S x vx) (hT : Lib.Utf8Tabs 1 2 w) :
    Calls Tryd.prog 22 #[.pointer p, vx] w fun e w' => ∃ p', e = .returned (.tuple #[.pointer p', .int .i64 (pushE l x)]) ∧ ((pushE l x ≠ 0 ∧ p' = none) ∨ (pushE l x = 0 ∧ ∃ b, p' = some ⟨b, 0, none⟩ ∧ IsE w' (Old w S) (x :: l) b)) ∧ Below w.heap.size w w' := by
  obtain ⟨hbx, Ax, cx, rfl, hcx, hAx⟩ := hx.eq
  obtain ⟨w1, hw1, hB1, hsz, hb0⟩ := box0 w 33 (.int .i64 x.kind) (.int .i64 x.num) (.string x.text) (.slice Ax x.items.length cx)
  have hl1 : w.heap.size < w1.heap.size := by omega
  have e4 := block4 hb0
  have HRM := Lib.hid (room_calls l p x _ w1 S (h.below hB1) (hx.below hB1) (tabs_below hT hB1))
  have hl65 := h.1
  have HX := Lib.hid (hx.below hB1)
  have HB0 := Lib.hid hb0
  have HE4 := Lib.hid e4
  by_cases hz : pushE l x = 0
  · have h65 : l.length < 65536 := by
      unfold pushE at hz
      split at hz
      · split at hz
        · cases hz
        · omega
      · cases hz
    obtain ⟨t, q, ho, hi, hW⟩ := h.tree
    obtain ⟨o1, o2⟩ := front_ok (x := .item x) ho (lev_item x)
    have HW := Lib.hid hW
    have HO := Lib.hid (And.intro o1 o2)
    have HH := Lib.hid ho
    have HI := Lib.hid hi
    have HL := Lib.hid h65
    rw [hz] at HRM ⊢
    obtain ⟨e0, e1, e2, e3⟩ := e4
    clear hx hAx hb0 h hT hz h65 ho hi hW o1 o2 hl65
    go_enter Tryd.func22, Tryd.ntmps22
    go_wp2_with (go_at_call 72; refine HRM.out.mono ?_; rintro e w2 ⟨rfl, hb2⟩; obtain ⟨d0, d1, d2, d3⟩ := cells4B hb2 HE4.out; have hbw := below_then hB1 hB1.size hb2; have hl2 := World.block_lt_of_cell? w2 _ d0; have HB2 := Lib.hid (cells4B hb2 HE4.out))
    go_region_held3 (fun w' => w'.cell? ⟨w.heap.size, 0, none⟩ = some (.int .i64 x.kind) ∧ w'.cell? ⟨w.heap.size, 1, none⟩ = some (.int .i64 x.num) ∧ w'.cell? ⟨w.heap.size, 2, none⟩ = some (.string x.text) ∧ w'.cell? ⟨w.heap.size, 3, none⟩ = some (.slice Ax x.items.length cx))
      (first | go_keep | exact cells4B (by assumption) HB2.out)
      (first
        | (go_at_call 73; refine (HW.out _ (by first | exact drew_of hbw | exact hbw)).2.mono ?_; rintro e w3 ⟨rfl, rfl⟩)
        | (go_at_call 65; refine (own_calls x _ _ S (by first | exact (HX.out.below hb2).keep Keeps.drew | exact HX.out.below hb2)).mono ?_; rintro e w4 ⟨v4, rfl, hv4, hb4'⟩; have hb4 := below_undrew hb4'; have hbw4 := below_then hbw hbw.size hb4; obtain ⟨_, A4, c4, rfl, _, _⟩ := hv4.eq; have HFR := Lib.hid (front_calls t (.item x) 0 q _ w4 (Old w S) (HW.out w4 hbw4).1 (IsP.item_mk (hv4.keep (Keeps.weak fun b (hb : w2.heap.size ≤ b) => .inr (Nat.le_trans hbw.size hb)))) HH.out (lev_item x) (by rw [HI.out, pitem_items]; have := HL.out; simp; omega)); clear hv4)
        | (go_at_call 74; refine HFR.out.mono ?_; rintro e w5 ⟨p5, rfl, hp5, hb5'⟩; have hb5 := below_then hb4 hb4.size hb5'; have HP5 := Lib.hid (hp5.keep (S' := Old w S) (Keeps.weak (old_later hbw4))); have hbw5 := below_then hbw hbw.size hb5; clear hp5))
    all_goals go_wp2_with fail
    all_goals go_ret2
    all_goals
      have hn := deque_new (w2 := w5) hbw5 HP5.out HO.out.1 (l := x :: l) (by rw [HO.out.2, HI.out, pitem_items] <;> rfl) (by have := HL.out; simp; omega)
      exact ⟨_, rfl, .inr ⟨by trivial, _, rfl, hn.1⟩, hn.2⟩
  · have h2 : (pushE l x == 0) = false := by simpa using hz
    have h3 : (pushE l x != 0) = true := by simpa using hz
    have HZ := Lib.hid hz
    obtain ⟨E, hE⟩ : ∃ E, pushE l x = E := ⟨_, rfl⟩
    rw [hE] at HRM HZ h2 h3 ⊢
    obtain ⟨e0, e1, e2, e3⟩ := e4
    clear hx hAx hb0 h hT hz hE hl65
    go_enter Tryd.func22, Tryd.ntmps22
    go_wp2_with (go_at_call 72; refine HRM.out.mono ?_; rintro e w2 ⟨rfl, hb2⟩)
    go_ret2
    exact ⟨none, rfl, .inl ⟨HZ.out, rfl⟩, below_then hB1 hB1.size hb2⟩
set_option maxRecDepth 100000 in
set_option maxHeartbeats 8000000 in
theorem dback_calls (l : List V) (p : Option Addr) (x : V) (vx : Value) (w : World) (S : Nat → Prop) (h : IsD w S l p) (hx : IsV w S x vx) (hT : Lib.Utf8Tabs 1 2 w) :
    Calls Tryd.prog 23 #[.pointer p, vx] w fun e w' => ∃ p', e = .returned (.tuple #[.pointer p', .int .i64 (pushE l x)]) ∧ ((pushE l x ≠ 0 ∧ p' = none) ∨ (pushE l x = 0 ∧ ∃ b, p' = some ⟨b, 0, none⟩ ∧ IsE w' (Old w S) (l ++ [x]) b)) ∧ Below w.heap.size w w' := by
  obtain ⟨hbx, Ax, cx, rfl, hcx, hAx⟩ := hx.eq
  obtain ⟨w1, hw1, hB1, hsz, hb0⟩ := box0 w 33 (.int .i64 x.kind) (.int .i64 x.num) (.string x.text) (.slice Ax x.items.length cx)
  have hl1 : w.heap.size < w1.heap.size := by omega
  have e4 := block4 hb0
  have HRM := Lib.hid (room_calls l p x _ w1 S (h.below hB1) (hx.below hB1) (tabs_below hT hB1))
  have hl65 := h.1
  have HX := Lib.hid (hx.below hB1)
  have HB0 := Lib.hid hb0
  have HE4 := Lib.hid e4
  by_cases hz : pushE l x = 0
  · have h65 : l.length < 65536 := by
      unfold pushE at hz
      split at hz
      · split at hz
        · cases hz
        · omega
      · cases hz
    obtain ⟨t, q, ho, hi, hW⟩ := h.tree
    obtain ⟨o1, o2⟩ := back_ok (x := .item x) ho (lev_item x)
    have HW := Lib.hid hW
    have HO := Lib.hid (And.intro o1 o2)
    have HH := Lib.hid ho
    have HI := Lib.hid hi
    have HL := Lib.hid h65
    rw [hz] at HRM ⊢
    obtain ⟨e0, e1, e2, e3⟩ := e4
    clear hx hAx hb0 h hT hz h65 ho hi hW o1 o2 hl65
    go_enter Tryd.func23, Tryd.ntmps23
    go_wp2_with (go_at_call 72; refine HRM.out.mono ?_; rintro e w2 ⟨rfl, hb2⟩; obtain ⟨d0, d1, d2, d3⟩ := cells4B hb2 HE4.out; have hbw := below_then hB1 hB1.size hb2; have hl2 := World.block_lt_of_cell? w2 _ d0; have HB2 := Lib.hid (cells4B hb2 HE4.out))
    go_region_held3 (fun w' => w'.cell? ⟨w.heap.size, 0, none⟩ = some (.int .i64 x.kind) ∧ w'.cell? ⟨w.heap.size, 1, none⟩ = some (.int .i64 x.num) ∧ w'.cell? ⟨w.heap.size, 2, none⟩ = some (.string x.text) ∧ w'.cell? ⟨w.heap.size, 3, none⟩ = some (.slice Ax x.items.length cx))
      (first | go_keep | exact cells4B (by assumption) HB2.out)
      (first
        | (go_at_call 73; refine (HW.out _ (by first | exact drew_of hbw | exact hbw)).2.mono ?_; rintro e w3 ⟨rfl, rfl⟩)
        | (go_at_call 65; refine (own_calls x _ _ S (by first | exact (HX.out.below hb2).keep Keeps.drew | exact HX.out.below hb2)).mono ?_; rintro e w4 ⟨v4, rfl, hv4, hb4'⟩; have hb4 := below_undrew hb4'; have hbw4 := below_then hbw hbw.size hb4; obtain ⟨_, A4, c4, rfl, _, _⟩ := hv4.eq; have HFR := Lib.hid (back_calls t (.item x) 0 q _ w4 (Old w S) (HW.out w4 hbw4).1 (IsP.item_mk (hv4.keep (Keeps.weak fun b (hb : w2.heap.size ≤ b) => .inr (Nat.le_trans hbw.size hb)))) HH.out (lev_item x) (by rw [HI.out, pitem_items]; have := HL.out; simp; omega)); clear hv4)
        | (go_at_call 64; refine HFR.out.mono ?_; rintro e w5 ⟨p5, rfl, hp5, hb5'⟩; have hb5 := below_then hb4 hb4.size hb5'; have HP5 := Lib.hid (hp5.keep (S' := Old w S) (Keeps.weak (old_later hbw4))); have hbw5 := below_then hbw hbw.size hb5; clear hp5))
    all_goals go_wp2_with fail
    all_goals go_ret2
    all_goals
      have hn := deque_new (w2 := w5) hbw5 HP5.out HO.out.1 (l := l ++ [x]) (by rw [HO.out.2, HI.out, pitem_items] <;> rfl) (by have := HL.out; simp; omega)
      exact ⟨_, rfl, .inr ⟨by trivial, _, rfl, hn.1⟩, hn.2⟩
  · have h2 : (pushE l x == 0) = false := by simpa using hz
    have h3 : (pushE l x != 0) = true := by simpa using hz
    have HZ := Lib.hid hz
    obtain ⟨E, hE⟩ : ∃ E, pushE l x = E := ⟨_, rfl⟩
    rw [hE] at HRM HZ h2 h3 ⊢
    obtain ⟨e0, e1, e2, e3⟩ := e4
    clear hx hAx hb0 h hT hz hE hl65
    go_enter Tryd.func23, Tryd.ntmps23
    go_wp2_with (go_at_call 72; refine HRM.out.mono ?_; rintro e w2 ⟨rfl, hb2⟩)
    go_ret2
    exact ⟨none, rfl, .inl ⟨HZ.out, rfl⟩, below_then hB1 hB1.size hb2⟩
end Go.Proofs.YtjjbhnkplbjfeaaDoor
