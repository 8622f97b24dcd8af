/- listed: an order, or what is wrong with its number or a list. -/
import Derived.Test.YtmnblgaefdahhaaGreatDoorCQoF

set_option linter.unusedVariables false
set_option linter.unusedSimpArgs false
namespace Go.Proofs.YtmnblgaefdahhaaGreatDoor
open Go.RowKit Go.Shelf
attribute [local go_sem] lt_succ_of

/-- A function value or none. -/
def FnLike (f : Value) : Prop := f = .nilFunc ∨ ∃ g cb, f = .func (.func g) #[] cb
theorem rowbox (w : World) (v : Value) : ∃ w1, w.alloc (.cells #[v] 43) = w1 ∧ Bd w w1 ∧ w1.heap.size = w.heap.size + 1 ∧ w1.heap[w.heap.size]? = some (.cells #[v] 43 (0, 0)) := ⟨_, rfl, Bd.box _ _, size_box _ _, heap_alloc_new _ _⟩
set_option maxRecDepth 100000 in
set_option maxHeartbeats 2000000 in
theorem listed_good (o : Nat) (ho : o < 6) (l : List V) (hlen : l.length ≤ 65536) (hall : ∀ x ∈ l, rightB x = true) (vl : Value) (w : World) (S : Nat → Prop) (hl : IsS w S l vl) (hT : Lib.Utf8Tabs 1 2 w) :
    Calls Tryz.prog 14 #[.int .i64 o, vl] w fun e w' => ∃ f, e = .returned (.tuple #[.agg #[f], .int .i64 0]) ∧ Cmpr (ordF o) (w.heap.size + 1) w' f ∧ Bd w w' := by
  obtain ⟨A, ca, rfl, hca, hla, hA⟩ := hl
  obtain ⟨w1, hw1, hB1, hs1, hc1⟩ := rowbox w .nilFunc
  have HAS := Lib.hid (asked_calls o ho w1)
  have HALL := Lib.hid hall
  have HT := Lib.hid hT
  have hz0 : ¬ (65536 < (l.length : Int)) := by omega
  have hl1 : w.heap.size < w1.heap.size := by omega
  have HS1 := Lib.hid hs1
  have HC1 := Lib.hid hc1
  clear hall hT hlen ho hs1 hc1
  go_enter Tryz.func14, Tryz.ntmps14
  go_wp2_with (go_at_call 29; refine HAS.out.mono ?_; rintro e w2 ⟨f, rfl, hcm, hb2⟩; obtain ⟨g, cb, rfl⟩ := hcm.form; have HCM := Lib.hid hcm; clear hcm)
  obtain ⟨w3, hw3, hB3, hs3, hc3⟩ := rowbox w2 (.func (.func g) #[] cb)
  rw [hw3]
  have hB13 := hB1.trans (hb2.trans hB3)
  have hd0 := Lib.hid (((hb2.trans hB3).block _ hl1).trans HC1.out)
  have hc3' := Lib.hid hc3
  have HCM3 := Lib.hid (HCM.out.keep hB3)
  have HW3 := Lib.hid hw3
  have hs13 := hb2.size
  have hs23 := hB3.size
  clear hc3 hw3 hB1 hb2 hB3 hw1 HCM hs3
  go_loopw [26] (fun vi wr => ∃ i : Nat, vi = .int .i64 i ∧ i ≤ l.length ∧ Bd w3 wr) (fun vi _ => l.length - (intOf vi).toNat)
  case atStart => exact ⟨0, rfl, Nat.zero_le _, Bd.refl _⟩
  case round =>
    obtain ⟨i, rfl, hil, hb⟩ := hrel
    have hA' := hA.below (hB13.trans hb).below
    by_cases hlt : i < l.length
    · have hz : (i : Int) < (l.length : Int) := by omega
      obtain ⟨ad, A1, cap1, rfl, hla1, hbd, f0, f1, f2, f3, hl1', hLA⟩ := hA'.at i hlt
      have hX := IsV.mk hbd hl1' hLA
      have HK := Lib.hid (fun (w' : World) (hb' : Bd wr w') => checkd_calls (itemAt l i) _ w' S (hX.below hb'.below) (tabs_d HT.out (hB13.trans (hb.trans hb'))) (HALL.out _ (itemAt_mem hlt)))
      clear hX
      go_wp2_with (go_at_call 24; refine (HK.out _ (Bd.box _ _)).mono ?_; rintro e w4 ⟨rfl, hb4⟩)
      go_roundw
      case rel => exact ⟨i + 1, by go_num, by omega, hb.trans ((Bd.box _ _).trans hb4)⟩
      case measure => simp [intOf]; omega
    · have hz : ¬ (i : Int) < (l.length : Int) := by omega
      have hs : w.heap.size < w3.heap.size := by omega
      have hs' : w2.heap.size < w3.heap.size := (Array.getElem?_eq_some_iff.1 hc3'.out).1
      have e0 := (hb.block _ hs).trans hd0.out
      have e1 := (hb.block _ hs').trans hc3'.out
      have d0 := cell_of_new e0
      have d1 := cell_of_new e1
      have d2 := free_of_new e0
      have hd3 := cell_of_new (set_one e0 (.func (.func g) #[] cb))
      have HD3 := Lib.hid hd3
      clear e0 e1 hd3
      go_wp2_with fail
      refine bodyPost_ret (v := .tuple #[.agg #[.func (.func g) #[] cb], .int .i64 0]) (by have hd3 := HD3.out; simp [results, Tryz.results14, go_sem, hd3]) rfl ⟨_, rfl, ?_, (hB13.trans hb).set (Nat.le_refl _) _⟩
      have h1 := (HCM3.out.keep hb).lower (lo' := w.heap.size + 1) (by rw [HS1.out]; omega)
      exact h1.set (Nat.lt_succ_self _) _
set_option maxRecDepth 100000 in
theorem listed_kind (o : Int) (ho : o < 0 ∨ 5 < o) (vl : Value) (w : World) :
    Calls Tryz.prog 14 #[.int .i64 o, vl] w fun e w' => ∃ f, e = .returned (.tuple #[.agg #[f], .int .i64 4]) ∧ FnLike f ∧ Bd w w' := by
  obtain ⟨w1, hw1, hB1, hs1, hc1⟩ := rowbox w .nilFunc
  have HAS := Lib.hid (asked_bad o ho w1)
  have hl1 : w.heap.size < w1.heap.size := by omega
  clear hs1 ho
  go_enter Tryz.func14, Tryz.ntmps14
  go_wp2_with (go_at_call 29; refine HAS.out.mono ?_; rintro e w2 ⟨rfl, hb2⟩; have e0 := ((Bd.box w2 (.cells #[.nilFunc] 43)).block _ (Nat.lt_of_lt_of_le hl1 hb2.size)).trans ((hb2.block _ hl1).trans hc1); have d0 := cell_of_new e0; have d2 := free_of_new e0; have hd3 := Lib.hid (cell_of_new (set_one e0 .nilFunc)); clear e0 hc1)
  refine bodyPost_ret (v := .tuple #[.agg #[.nilFunc], .int .i64 4]) (by have hd4 := hd3.out; simp [results, Tryz.results14, go_sem, hd4]) rfl ⟨_, rfl, .inl rfl, ((hB1.trans hb2).trans (Bd.box _ _)).set (Nat.le_refl _) _⟩
set_option maxRecDepth 100000 in
theorem listed_long (o : Nat) (ho : o < 6) (n : Nat) (A : Option Addr) (ca : Nat) (hlen : 65536 < n) (w : World) :
    Calls Tryz.prog 14 #[.int .i64 o, .slice A n ca] w fun e w' => ∃ f, e = .returned (.tuple #[.agg #[f], .int .i64 2]) ∧ FnLike f ∧ Bd w w' := by
  obtain ⟨w1, hw1, hB1, hs1, hc1⟩ := rowbox w .nilFunc
  have HAS := Lib.hid (asked_calls o ho w1)
  have hl1 : w.heap.size < w1.heap.size := by omega
  have hz0 : 65536 < (n : Int) := by omega
  clear hs1 ho hlen
  go_enter Tryz.func14, Tryz.ntmps14
  go_wp2_with (go_at_call 29; refine HAS.out.mono ?_; rintro e w2 ⟨f, rfl, hcm, hb2⟩; obtain ⟨g, cb, rfl⟩ := hcm.form; clear hcm; have e0 := ((Bd.box w2 (.cells #[.func (.func g) #[] cb] 43)).block _ (Nat.lt_of_lt_of_le hl1 hb2.size)).trans ((hb2.block _ hl1).trans hc1); have d0 := cell_of_new e0; have d2 := free_of_new e0; have hd3 := Lib.hid (cell_of_new (set_one e0 (.func (.func g) #[] cb))); clear e0 hc1)
  refine bodyPost_ret (v := .tuple #[.agg #[.func (.func g) #[] cb], .int .i64 2]) (by have hd4 := hd3.out; simp [results, Tryz.results14, go_sem, hd4]) rfl ⟨_, rfl, .inr ⟨_, _, rfl⟩, ((hB1.trans hb2).trans (Bd.box _ _)).set (Nat.le_refl _) _⟩
set_option maxRecDepth 100000 in
set_option maxHeartbeats 2000000 in
theorem listed_wrong (o : Nat) (ho : o < 6) (l : List V) (hlen : l.length ≤ 65536) (hbad : ∃ x ∈ l, rightB x = false) (vl : Value) (w : World) (S : Nat → Prop) (hl : IsS w S l vl) (hT : Lib.Utf8Tabs 1 2 w) :
    Calls Tryz.prog 14 #[.int .i64 o, vl] w fun e w' => ∃ f, e = .returned (.tuple #[.agg #[f], .int .i64 3]) ∧ FnLike f ∧ Below w.heap.size w w' := by
  obtain ⟨A, ca, rfl, hca, hla, hA⟩ := hl
  obtain ⟨w1, hw1, hB1, hs1, hc1⟩ := rowbox w .nilFunc
  have HAS := Lib.hid (asked_calls o ho w1)
  have HBAD := Lib.hid hbad
  have HT := Lib.hid hT
  have hz0 : ¬ (65536 < (l.length : Int)) := by omega
  have hl1 : w.heap.size < w1.heap.size := by omega
  have HC1 := Lib.hid hc1
  clear hbad hT hlen ho hs1 hc1
  go_enter Tryz.func14, Tryz.ntmps14
  go_wp2_with (go_at_call 29; refine HAS.out.mono ?_; rintro e w2 ⟨f, rfl, hcm, hb2⟩; obtain ⟨g, cb, rfl⟩ := hcm.form; clear hcm)
  obtain ⟨w3, hw3, hB3, hs3, hc3⟩ := rowbox w2 (.func (.func g) #[] cb)
  rw [hw3]
  have hB13 := (hB1.trans (hb2.trans hB3)).below
  have hd0 := Lib.hid (((hb2.trans hB3).block _ hl1).trans HC1.out)
  have hc3' := Lib.hid hc3
  have HW3 := Lib.hid hw3
  have hs13 := hb2.size
  have hs23 := hB3.size
  have hs00 := hB1.size
  clear hc3 hw3 hB1 hb2 hB3 hw1 hs3
  go_loopw [26] (fun vi wr => ∃ i : Nat, vi = .int .i64 i ∧ i ≤ l.length ∧ Hid (∀ x ∈ l.take i, rightB x = true) ∧ Below w3.heap.size w3 wr) (fun vi _ => l.length - (intOf vi).toNat)
  case atStart => exact ⟨0, rfl, Nat.zero_le _, Lib.hid (by intro x hx; cases hx), Below.refl _ _⟩
  case round =>
    obtain ⟨i, rfl, hil, hpre, hb⟩ := hrel
    have hB1r := below_then hB13 hB13.size hb
    have hA' := hA.below hB1r
    by_cases hlt : i < l.length
    · have hz : (i : Int) < (l.length : Int) := by omega
      obtain ⟨ad, A1, cap1, rfl, hla1, hbd, f0, f1, f2, f3, hl1', hLA⟩ := hA'.at i hlt
      have hX := IsV.mk hbd hl1' hLA
      have HK := fun (w' : World) (hb' : Below wr.heap.size wr w') => check_calls (itemAt l i) _ w' S (hX.below hb') (tabs_below HT.out (below_then hB1r hB1r.size hb'))
      clear hX
      by_cases hr : rightB (itemAt l i) = true
      · rw [if_pos hr] at HK
        have HK := Lib.hid HK
        have HP2 : Hid (∀ x ∈ l.take (i + 1), rightB x = true) := Lib.hid (by
          rw [itemAt_take hlt]
          intro x hx
          rcases List.mem_append.1 hx with hx | hx
          · exact hpre.out x hx
          · simp at hx; subst hx; exact hr)
        clear hr
        go_wp2_with (go_at_call 24; refine (HK.out _ ((Below.refl _ _).alloc (Nat.le_refl _) _)).mono ?_; rintro e w4 ⟨rfl, hb4⟩)
        go_roundw
        case rel => exact ⟨i + 1, by go_num, by omega, HP2, below_then hb hb.size (below_then ((Below.refl _ _).alloc (Nat.le_refl _) _) (by simp) hb4)⟩
        case measure => simp [intOf]; omega
      · rw [if_neg hr] at HK
        have HK := Lib.hid HK
        have hs : w.heap.size < w3.heap.size := by omega
        have hs' : w2.heap.size < w3.heap.size := (Array.getElem?_eq_some_iff.1 hc3'.out).1
        have HSS := Lib.hid hs
        have HSS' := Lib.hid hs'
        clear hr hs hs'
        go_wp2_with (go_at_call 24; refine (HK.out _ ((Below.refl _ _).alloc (Nat.le_refl _) _)).mono ?_; rintro e w4 ⟨rfl, hb4⟩; have hbr4 := below_then hb hb.size (below_then ((Below.refl _ _).alloc (Nat.le_refl _) _) (by simp) hb4); have e0 := (hbr4.block _ HSS.out).trans hd0.out; have e1 := (hbr4.block _ HSS'.out).trans hc3'.out; have d0 := cell_of_new e0; have d1 := cell_of_new e1; have d2 := free_of_new e0; have HD3 := Lib.hid (cell_of_new (set_one e0 (.func (.func g) #[] cb))); clear e0 e1)
        refine bodyPost_ret (v := .tuple #[.agg #[.func (.func g) #[] cb], .int .i64 3]) (by have hd3 := HD3.out; simp [results, Tryz.results14, go_sem, hd3]) rfl ⟨_, rfl, .inr ⟨_, _, rfl⟩, (below_then hB13 hB13.size hbr4).setCell (Nat.le_refl _) _⟩
    · exfalso
      obtain ⟨x, hx, hr⟩ := HBAD.out
      have h1 := hpre.out x (by rw [List.take_of_length_le (by omega)]; exact hx)
      rw [h1] at hr
      cases hr
end Go.Proofs.YtmnblgaefdahhaaGreatDoor
