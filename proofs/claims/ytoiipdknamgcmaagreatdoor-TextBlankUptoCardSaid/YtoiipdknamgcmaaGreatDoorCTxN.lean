/- The two texts that each law reads. The little program that each law runs. The law TextPrints. -/
import Derived.Test.YtoiipdknamgcmaaGreatDoorCTxL
import Derived.Test.YtoiipdknamgcmaaGreatDoorCSoJ
import Derived.Test.YtoiipdknamgcmaaGreatDoorCRdS
/- The two texts that each law reads. -/
set_option linter.unusedVariables false
set_option linter.unusedSimpArgs false
namespace Go.Proofs.YtoiipdknamgcmaaGreatDoor
open Go.RowKit Go.Shelf
attribute [local go_sem] lt_succ_of

def numV (n : Int) : V := .mk 2 n ⟨#[]⟩ []
theorem two_items : itemsF false 10 125 1 1 [51, 32, 49, 32, 50, 125, 32, 59, 32, 115, 111] = .ok ([numV 3, numV 1, numV 2], 4, [125, 32, 59, 32, 115, 111]) := by kernel_rfl
theorem odd_whole : wholeF false 11 [123, 49, 125] = .bad 25 1 := by kernel_rfl
theorem num_right (n : Int) : rightB (numV n) = true := by
  unfold rightB
  rw [decide_eq_true_iff]
  refine ⟨?_, by simp [numV, depthV, depthL], by simp [numV, V.size, V.sizes]⟩
  rw [okAll_eq, Bool.and_eq_true]
  exact ⟨(ok_2 n _ []).2 ⟨rfl, rfl⟩, rfl⟩
def set3 : V := V.set [numV 1, numV 2, numV 3]
theorem set3_right : rightB set3 = true := by
  unfold rightB
  rw [decide_eq_true_iff]
  refine ⟨?_, by simp [set3, V.set, numV, depthV, depthL], by simp [set3, V.set, numV, V.size, V.sizes]⟩
  rw [okAll_eq, Bool.and_eq_true]
  refine ⟨(ok_5 0 _ _).2 ⟨rfl, rfl, ?_⟩, ?_⟩
  · rw [ascFrom_good (by simp) (by decide), ascFrom_good (by simp) (by decide), ascFrom_end (by simp)]
  · have h : ∀ n, okAll (numV n) = true := fun n => right_all (num_right n)
    show okAlls [numV 1, numV 2, numV 3] = true
    simp only [okAlls, h]
    rfl
theorem sort3 : sortV [numV 3, numV 1, numV 2] = [numV 1, numV 2, numV 3] := by kernel_rfl
theorem setok3 : SetOk [numV 3, numV 1, numV 2] := by
  refine ⟨?_, by rw [sort3]; exact set3_right⟩
  simp [listOk, num_right]
theorem set_whole : wholeF false 11 [35, 123, 51, 32, 49, 32, 50, 125, 32, 59, 32, 115, 111] = .ok set3 := by
  have h1 : formF false 11 0 0 [35, 123, 51, 32, 49, 32, 50, 125, 32, 59, 32, 115, 111] = .ok (set3, 4, [32, 59, 32, 115, 111]) := by
    rw [formF]
    simp only [show ¬ ((35 : UInt8) = 41 ∨ (35 : UInt8) = 93 ∨ (35 : UInt8) = 125) by decide, if_false]
    rw [if_neg (by decide), if_neg (by decide), if_neg (by decide), if_neg (by decide), if_neg (by decide), if_neg (by decide), if_pos trivial, if_pos (show List.head? ([123, 51, 32, 49, 32, 50, 125, 32, 59, 32, 115, 111] : List UInt8) = some 123 from rfl)]
    show R.next (itemsF false 10 125 1 1 [51, 32, 49, 32, 50, 125, 32, 59, 32, 115, 111]) _ = _
    rw [two_items]
    simp only [R.next_ok]
    rw [setR_eq, if_pos setok3, sort3]
    rfl
  have h2 : skipF false 11 0 0 [35, 123, 51, 32, 49, 32, 50, 125, 32, 59, 32, 115, 111] = .ok (0, [35, 123, 51, 32, 49, 32, 50, 125, 32, 59, 32, 115, 111]) := by kernel_rfl
  have h3 : skipF false 11 0 4 [32, 59, 32, 115, 111] = .ok (4, []) := by kernel_rfl
  rw [wholeF, h2]
  simp only [R.next_ok]
  rw [h1]
  simp only [R.next_ok]
  rw [h3]
  rfl
theorem set3_prints : prB set3 = [35, 123, 49, 32, 50, 32, 51, 125] := by
  have h : ∀ k : Nat, k < 10 → Lib.itoa (k : Int) = [UInt8.ofNat (48 + k)] := fun k hk => by rw [Lib.itoa_nonneg, Lib.decDigits, dif_pos hk]
  have h1 := h 1 (by decide)
  have h2 := h 2 (by decide)
  have h3 := h 3 (by decide)
  simp only [Int.natCast_one] at h1
  change Lib.itoa 2 = _ at h2
  change Lib.itoa 3 = _ at h3
  simp [set3, V.set, numV, prB, prLB, h1, h2, h3]
end Go.Proofs.YtoiipdknamgcmaaGreatDoor

/- The little program that each law runs. -/
set_option linter.unusedVariables false
set_option linter.unusedSimpArgs false
namespace Go.Proofs.YtoiipdknamgcmaaGreatDoor
open Go.RowKit Go.Shelf
attribute [local go_sem] lt_succ_of

def textA : ByteArray := ⟨#[35, 123, 51, 32, 49, 32, 50, 125, 32, 59, 32, 115, 111]⟩
def textB : ByteArray := ⟨#[123, 49, 125]⟩
theorem utfA : utfFrom textA 0 = true := by
  have h : ∀ i, i < 13 → Utf8.decode textA i ≠ (65533, 1) ∧ (Utf8.decode textA i).2 = 1 := by decide
  have g : ∀ k i, i + k = 13 → utfFrom textA i = true := by
    intro k
    induction k with
    | zero => intro i hi; rw [utfFrom_end (by show ¬ i < 13; omega)]
    | succ k ih =>
      intro i hi
      rw [utfFrom_good (show i < 13 by omega) (h i (by omega)).1, (h i (by omega)).2]
      exact ih (i + 1) (by omega)
  exact g 13 0 rfl
theorem utfB : utfFrom textB 0 = true := by
  have h : ∀ i, i < 3 → Utf8.decode textB i ≠ (65533, 1) ∧ (Utf8.decode textB i).2 = 1 := by decide
  have g : ∀ k i, i + k = 3 → utfFrom textB i = true := by
    intro k
    induction k with
    | zero => intro i hi; rw [utfFrom_end (by show ¬ i < 3; omega)]
    | succ k ih =>
      intro i hi
      rw [utfFrom_good (show i < 3 by omega) (h i (by omega)).1, (h i (by omega)).2]
      exact ih (i + 1) (by omega)
  exact g 3 0 rfl
theorem readA (w : World) (hT : Tabs w) : Calls Tryz.prog 12 #[.string textA] w fun e w' => ∃ v, e = .returned (.tuple #[v, .int .i64 0, .int .i64 0]) ∧ IsV w' (fun b => w.heap.size ≤ b) set3 v ∧ Below w.heap.size w w' := by
  have hw : wholeF false 11 textA.data.toList = .ok set3 := set_whole
  refine (read_calls false 11 (all_at false set_calls (fun k h => pairs_none k h) 11) textA w hT (fun _ _ => by rw [hw]; simp)).mono ?_
  rintro e w' ⟨v, x, er, at', rfl, hv, hi, hb⟩
  unfold ReadIs at hi
  rw [if_neg (by decide), if_pos utfA, hw] at hi
  obtain ⟨rfl, rfl, rfl⟩ := hi
  exact ⟨v, rfl, hv, hb⟩
theorem readB (w : World) (hT : Tabs w) : Calls Tryz.prog 12 #[.string textB] w fun e w' => ∃ A cap, e = .returned (.tuple #[.agg #[.int .i64 0, .int .i64 0, .string ⟨#[]⟩, .slice A 0 cap], .int .i64 25, .int .i64 2]) ∧ Below w.heap.size w w' := by
  have hw : wholeF false 11 textB.data.toList = .bad 25 1 := odd_whole
  refine (read_calls false 11 (all_at false set_calls (fun k h => pairs_none k h) 11) textB w hT (fun _ _ => by rw [hw]; simp)).mono ?_
  rintro e w' ⟨v, x, er, at', rfl, hv, hi, hb⟩
  unfold ReadIs at hi
  rw [if_neg (by decide), if_pos utfB, hw] at hi
  obtain ⟨rfl, rfl, rfl⟩ := hi
  obtain ⟨_, A, cap, rfl, _⟩ := hv.eq
  exact ⟨A, cap, rfl, hb⟩
theorem print3 : printS set3 = ⟨#[35, 123, 49, 32, 50, 32, 51, 125]⟩ ∧ printE set3 = 0 := by
  refine ⟨?_, if_pos set3_right⟩
  rw [printS, if_pos set3_right, set3_prints]
theorem four_stored {w2 wx : World} (hB : Below w2.heap.size w2 wx) (c0 c1 c2 c3 : Value) : Below w2.heap.size w2 ((((wx.setCell ⟨w2.heap.size, 0, none⟩ c0).setCell ⟨w2.heap.size, 1, none⟩ c1).setCell ⟨w2.heap.size, 2, none⟩ c2).setCell ⟨w2.heap.size, 3, none⟩ c3) := by
  repeat refine Below.setCell ?_ (by simp) _
  exact hB
set_option maxRecDepth 100000 in
set_option maxHeartbeats 4000000 in
theorem speaks_calls (w : World) (hT : Tabs w) : Calls Tryz.prog 11 #[] w fun e w' => e = .returned (.bool true) ∧ Below w.heap.size w w' := by
  have HA := Lib.hid (readA w hT)
  have h8 := hT.big
  have HT2 := Lib.hid fun (w2 : World) (hb : Below w.heap.size w w2) => hT.later hb h8
  have HPR := Lib.hid fun (v : Value) (w2 : World) (hb : Below w.heap.size w w2) (hv : IsV w2 (fun b => w.heap.size ≤ b) set3 v) => print_calls set3 v _ w2 hv (HT2.out w2 hb).utf (HT2.out w2 hb).pow (by have := hb.size; omega)
  rw [print3.1, print3.2] at HPR
  have HB := Lib.hid fun (w2 : World) (hb : Below w.heap.size w w2) => readB w2 (HT2.out w2 hb)
  clear hT
  unfold textA at HA
  unfold textB at HB
  go_enter Tryz.func11, Tryz.ntmps11
  go_wp2_with (first
    | (go_at_call 12; refine HA.out.mono ?_; rintro e w2 ⟨v, rfl, hv, hb2⟩; have HV := Lib.hid hv; obtain ⟨hbv, A2, cap2, rfl, hc2, hLA2⟩ := hv.eq; clear hv HA hLA2; obtain ⟨wx, hwx, hBx, hsx, hbx⟩ := box4' w2 24 (.int .i64 0) (.int .i64 0) (.string ⟨#[]⟩) (.slice none 0 0); obtain ⟨c0, c1, c2, c3⟩ := block4 hbx; have fz := free4 hbx)
    | (go_at_call 7; have hby := four_stored hBx (.int .i64 set3.kind) (.int .i64 set3.num) (.string set3.text) (.slice A2 set3.items.length cap2); refine (HPR.out _ _ (below_then hb2 hb2.size hby) (HV.out.below hby)).mono ?_; rintro e w3 ⟨rfl, hb3⟩; have hb4 := below_then hb2 hb2.size (below_then hby hby.size hb3); clear HPR)
    | (go_at_call 12; refine (HB.out _ hb4).mono ?_; rintro e w5 ⟨A3, cap3, rfl, hb5⟩; have hb6 := below_then hb4 hb4.size hb5; obtain ⟨wz, hwz, hBz, hsz, hbz⟩ := box4' w5 24 (.int .i64 0) (.int .i64 0) (.string ⟨#[]⟩) (.slice none 0 0); obtain ⟨d0, d1, d2, d3⟩ := block4 hbz; have gz := free4 hbz))
  go_ret
  refine ⟨rfl, below_then hb6 hb6.size (four_stored hBz _ _ _ _)⟩
end Go.Proofs.YtoiipdknamgcmaaGreatDoor

/- The law TextPrints. -/
set_option linter.unusedVariables false
set_option linter.unusedSimpArgs false
namespace Go.Proofs.YtoiipdknamgcmaaGreatDoor
open Go.RowKit Go.Shelf
attribute [local go_sem] lt_succ_of

set_option maxRecDepth 100000 in
set_option maxHeartbeats 4000000 in
theorem textprints_calls (x : V) (vx : Value) (s : ByteArray) (hs : s.size ≤ 140737488355328) (w : World) (S : Nat → Prop) (hX : IsV w S x vx) (hT : Tabs w) :
    Calls Tryz.prog 3 #[vx, .string s] w fun e w' => e = .returned (.bool true) ∧ Below w.heap.size w w' := by
  obtain ⟨hbx, A, ca, rfl, hca, hA⟩ := hX.eq
  obtain ⟨w1, hw1, hB1, hsz, hb0⟩ := box4' w 24 (.int .i64 x.kind) (.int .i64 x.num) (.string x.text) (.slice A x.items.length ca)
  obtain ⟨a0, a1, a2, a3⟩ := block4 hb0
  have h8 := hT.big
  have HX1 := Lib.hid (hX.below hB1)
  have HT2 := Lib.hid fun (w2 : World) (hb : Below w.heap.size w w2) => hT.later hb h8
  have HP := Lib.hid fun (W : World) (hb : Below w1.heap.size w1 W) => print_calls x _ S W (HX1.out.below hb) (HT2.out W (below_then hB1 hB1.size hb)).utf (HT2.out W (below_then hB1 hB1.size hb)).pow (by have := hb.size; omega)
  have HR := Lib.hid fun (W : World) (hb : Below w1.heap.size w1 W) => rprint_calls x _ S W (HX1.out.below hb)
  have HQ := Lib.hid fun (W : World) (hb : Below w1.heap.size w1 W) => quote_calls s hs W (HT2.out W (below_then hB1 hB1.size hb)).utf (HT2.out W (below_then hB1 hB1.size hb)).pow (by have := hb.size; omega)
  have HRQ := Lib.hid fun (W : World) => rQuote_calls s hs W
  have HS := Lib.hid fun (W : World) (hb : Below w1.heap.size w1 W) => speaks_calls W (HT2.out W (below_then hB1 hB1.size hb))
  generalize printS x = P at HP HR
  generalize printE x = E at HP HR
  generalize printS (strV s) = P2 at HQ HRQ
  generalize printE (strV s) = E2 at HQ HRQ
  clear hX hA hT hb0
  go_enter Tryz.func3, Tryz.ntmps3
  go_wp2_with (first
    | (go_at_call 7; refine (HP.out _ (Below.refl _ _)).mono ?_; rintro e w2 ⟨rfl, hb2⟩; have b0 := cellB hb2 a0; have b1 := cellB hb2 a1; have b2 := cellB hb2 a2; have b3 := cellB hb2 a3; clear a0 a1 a2 a3)
    | (go_at_call 8; refine (HR.out _ hb2).mono ?_; rintro e w3 ⟨rfl, hb3⟩; have hb4 := below_then hb2 hb2.size hb3)
    | (go_at_call 9; refine (HQ.out _ hb4).mono ?_; rintro e w5 ⟨rfl, hb5⟩; have hb6 := below_then hb4 hb4.size hb5)
    | (go_at_call 10; refine (HRQ.out _).mono ?_; rintro e w7 ⟨rfl, hb7⟩; have hb8 := below_then hb6 hb6.size hb7)
    | (go_at_call 11; refine (HS.out _ hb8).mono ?_; rintro e w9 ⟨rfl, hb9⟩; have hb10 := below_then hB1 hB1.size (below_then hb8 hb8.size hb9)))
  go_ret
  exact ⟨rfl, hb10⟩
end Go.Proofs.YtoiipdknamgcmaaGreatDoor
