/- Another item in a place of a deque; a deque's height; a deque as a value. -/
import Derived.Test.YtjjbhnkplbjfeaaDoorCFnU
import Derived.Test.YtjjbhnkplbjfeaaDoorCValH

set_option linter.unusedVariables false
set_option linter.unusedSimpArgs false
namespace Go.Proofs.YtjjbhnkplbjfeaaDoor
open Go.RowKit Go.Shelf
attribute [local go_sem] lt_succ_of methItem methNode asItem asNode isNode noNode fieldNode fieldItem notNil

set_option maxRecDepth 100000 in
set_option maxHeartbeats 8000000 in
theorem dset_calls (l : List V) (p : Option Addr) (i : Int) (x : V) (vx : Value) (w : World) (S : Nat → Prop) (h : IsD w S l p) (hx : IsV w S x vx) (hT : Lib.Utf8Tabs 1 2 w) (hi0 : -9223372036854775808 ≤ i) (hi1 : i ≤ 9223372036854775807) :
    Calls Tryd.prog 26 #[.pointer p, .int .i64 i, vx] w fun e w' => ∃ p', e = .returned (.tuple #[.pointer p', .int .i64 (setE l i x)]) ∧ ((setE l i x ≠ 0 ∧ p' = none) ∨ (setE l i x = 0 ∧ ∃ b, p' = some ⟨b, 0, none⟩ ∧ IsE w' (Old w S) (l.set i.toNat x) b)) ∧ Below w.heap.size w w' := by
  obtain ⟨hbx, Ax, cx, rfl, hcx, hAx⟩ := hx.eq
  obtain ⟨w1, hw1, hB1, hsz, hb0⟩ := box0 w 33 (.int .i64 x.kind) (.int .i64 x.num) (.string x.text) (.slice Ax x.items.length cx)
  have hl1 : w.heap.size < w1.heap.size := by omega
  have e4 := block4 hb0
  obtain ⟨e0, e1, e2, e3⟩ := e4
  have HCK := Lib.hid (check_calls x _ w1 S (hx.below hB1) (tabs_below hT hB1))
  have HX := Lib.hid (hx.below hB1)
  have HB0 := Lib.hid hb0
  have hl65 := h.1
  by_cases hr : rightB x = true
  · rw [if_pos hr] at HCK
    have hE : setE l i x = if 0 ≤ i ∧ i < l.length then 0 else 5 := by unfold setE; rw [if_pos hr]
    have HD1 := Lib.hid (h.below hB1)
    by_cases hneg : i < 0
    · rw [hE, if_neg (by omega)]
      have h2 : decide (i < 0) = true := by simpa using hneg
      clear hx hAx hb0 h hT hr hE hl65
      go_enter Tryd.func26, Tryd.ntmps26
      go_wp2_with (go_at_call 77; refine HCK.out.mono ?_; rintro e w2 ⟨rfl, hb2⟩)
      go_ret2
      exact ⟨none, rfl, .inl ⟨by decide, rfl⟩, below_then hB1 hB1.size hb2⟩
    · obtain ⟨j, rfl⟩ : ∃ j : Nat, i = (j : Int) := ⟨i.toNat, by omega⟩
      have h2 : decide ((j : Int) < 0) = false := by simp
      by_cases hj : j < l.length
      · have hj2 : (j : Int) < (l.length : Int) := by omega
        have hj3 : ¬ (l.length : Int) ≤ (j : Int) := by omega
        rw [hE, if_pos (by omega)]
        simp only [Int.toNat_natCast]
        obtain ⟨_, ⟨rfl, e⟩ | ⟨b, t, q, rfl, hs, c0, hf, ho, hi⟩⟩ := h
        · rw [e] at hj; simp at hj
        have c1 := cellB hB1 c0
        have HF := Lib.hid (And.intro hf (And.intro ho (And.intro hi (And.intro hj hl65))))
        have hbb : b ≠ w.heap.size := fun e => by have := World.block_lt_of_cell? w _ c0; simp at this; omega
        clear hx hAx hb0 hT hr hE hs c0 hf ho hi hj hneg hl65
        go_enter Tryd.func26, Tryd.ntmps26
        go_wp2_with (first
          | (go_at_call 77; refine HCK.out.mono ?_; rintro e w2 ⟨rfl, hb2⟩; have HL := Lib.hid (len_calls l _ w2 S (HD1.out.below hb2)); have hk2 := blockB hb2 HB0.out; obtain ⟨d0, d1, d2, d3⟩ := block4 hk2; have hbw := below_then hB1 hB1.size hb2; have hl2 := World.block_lt_of_cell? w2 _ d0; have HOWN := Lib.hid (own_calls x _ w2 S (HX.out.below hb2)); have HK2 := Lib.hid hk2; have c2 := cellB hb2 c1; clear hk2)
          | (go_at_call 33; refine HL.out.mono ?_; rintro e w3 ⟨rfl, rfl⟩)
          | (go_at_call 65; refine HOWN.out.mono ?_; rintro e w4 ⟨v4, rfl, hv4, hb4⟩; obtain ⟨_, A4, c4, rfl, _, _⟩ := hv4.eq; have hk4 := blockB hb4 HK2.out; obtain ⟨g0, g1, g2, g3⟩ := block4 hk4; have gz := free4 hk4; have lg := World.block_lt_of_cell? w4 _ g0; obtain ⟨w5, hw5, hk5, hs5, hot5, hB5⟩ := store_box (w := w4) hk4 (.int .i64 x.kind) (.int .i64 x.num) (.string x.text) (.slice A4 x.items.length c4); have hbw4 := below_then hbw hbw.size hb4; have hbw5 := hbw4.trans (hB5 _ (Nat.le_refl _)); have c5 : w5.cell? ⟨b, 0, none⟩ = some (.pointer q) := (World.cell?_of_block (w := w4) (hot5 b hbb)).trans (cellB hb4 c2); have lc := World.block_lt_of_cell? w5 _ c5; have HCH := Lib.hid (fchange_calls t 0 j x q 78 [.pointer (some ⟨w.heap.size, 0, none⟩)] (fun _ => False) w5 (Old w S) (fun _ _ => True) (HF.out.1.keep (keeps_old hbw5)) HF.out.2.1 (by rw [HF.out.2.2.1]; exact HF.out.2.2.2.1) (by rw [HF.out.2.2.1]; have := HF.out.2.2.2.2; omega)
              (set_do _ _ x A4 c4 _ _ hk5 (hv4.keep fun b hb (h : w2.heap.size ≤ b) => ⟨⟨.inr (Nat.le_trans hbw.size h), by omega⟩, hot5 b (by omega)⟩)) set_lasts (fun b h => h.elim) enters_set); clear hv4 hk4 hk5 hot5)
          | (go_at_call 70; refine HCH.out.mono ?_; rintro e w6 ⟨p6, rfl, hp6, hb6, _⟩; have HP6 := Lib.hid (hp6.keep (S' := Old w S) (Keeps.weak (old_later hbw5))); have hb6' := hb6.below (Nat.le_refl _) (fun _ h => h.elim); have hbw6 := below_then hbw5 hbw5.size hb6'; clear hp6))
        go_ret2
        obtain ⟨o1, o2⟩ := fchange_ok (k := 0) (y := x) HF.out.2.1 (by rw [HF.out.2.2.1]; exact HF.out.2.2.2.1)
        have hn := deque_new (w2 := w6) hbw6 HP6.out o1 (l := l.set j x) (by rw [o2, HF.out.2.2.1]) (by rw [List.length_set]; exact HF.out.2.2.2.2)
        exact ⟨_, rfl, .inr ⟨by trivial, _, rfl, hn.1⟩, hn.2⟩
      · have hj2 : ¬ (j : Int) < (l.length : Int) := by omega
        have hj3 : (l.length : Int) ≤ (j : Int) := by omega
        rw [hE, if_neg (by omega)]
        clear hx hAx hb0 hT hr hE hj hneg h hl65
        go_enter Tryd.func26, Tryd.ntmps26
        go_wp2_with (first
          | (go_at_call 77; refine HCK.out.mono ?_; rintro e w2 ⟨rfl, hb2⟩; have HL := Lib.hid (len_calls l p w2 S (HD1.out.below hb2)))
          | (go_at_call 33; refine HL.out.mono ?_; rintro e w3 ⟨rfl, rfl⟩))
        go_ret2
        exact ⟨none, rfl, .inl ⟨by decide, rfl⟩, below_then hB1 hB1.size hb2⟩
  · rw [if_neg hr] at HCK
    have hE : setE l i x = 3 := by unfold setE; rw [if_neg hr]
    rw [hE]
    clear hx hAx hb0 h hT hr hE hl65
    go_enter Tryd.func26, Tryd.ntmps26
    go_wp2_with (go_at_call 77; refine HCK.out.mono ?_; rintro e w2 ⟨rfl, hb2⟩)
    go_ret2
    exact ⟨none, rfl, .inl ⟨by decide, rfl⟩, below_then hB1 hB1.size hb2⟩
end Go.Proofs.YtjjbhnkplbjfeaaDoor
