/- A push to a nil vector; a vector as a value. -/
import Derived.Test.YtaeldfnihocljaaDoorCNilV
import Derived.Test.YtaeldfnihocljaaDoorCValH

set_option linter.unusedVariables false
set_option linter.unusedSimpArgs false
namespace Go.Proofs.YtaeldfnihocljaaDoor
open Go.RowKit
attribute [local go_sem] lt_succ_of methLeaf methBranch asNone asSome asLeaf asBranch

set_option maxRecDepth 100000 in
set_option maxHeartbeats 4000000 in
theorem vpush_nil_calls (x : V) (vx : Value) (w : World) (S : Nat → Prop) (hx : IsV w S x vx) (hT : Lib.Utf8Tabs 0 1 w) :
    Calls Tryd.prog 20 #[.pointer none, vx] w fun e w' => ∃ p, e = .returned (.tuple #[p, .int .i64 (pushE [] x)]) ∧ ((pushE [] x ≠ 0 ∧ p = .pointer none) ∨ (pushE [] x = 0 ∧ ∃ h' b', p = .pointer (some ⟨b', 0, none⟩) ∧ IsR w' (Old w S) ([] ++ [x]) h' b')) ∧ Below w.heap.size w w' := by
  obtain ⟨hbx, Ax, cx, rfl, hcx, hAx⟩ := hx.eq
  obtain ⟨w1, hw1, hB1, hsz, hb0⟩ := box0 w 31 (.int .i64 x.kind) (.int .i64 x.num) (.string x.text) (.slice Ax x.items.length cx)
  have hK1 : Keeps w S w1 (fun b => S b ∧ b < w.heap.size) := Keeps.below_to hB1 fun b h1 h2 => ⟨h2, h1⟩
  obtain ⟨e0, e1, e2, e3⟩ := block4 hb0
  have hX1 := (IsV.mk hbx hcx hAx).keep hK1
  have HX := Lib.hid hX1
  have HCK := Lib.hid (check_calls x _ w1 _ hX1 (tabs_below hT hB1))
  have HB0 := Lib.hid hb0
  clear hx hAx hX1 hT hb0 hK1
  by_cases hc : rightB x = true
  · have hE : pushE [] x = 0 := by unfold pushE; rw [if_pos hc]; simp
    rw [if_pos hc, ] at HCK
    rw [hE]
    clear hc hE
    go_enter Tryd.func20, Tryd.ntmps20
    go_wp2_with (first
      | (go_at_call 51; refine HCK.out.mono ?_; rintro e w2 ⟨rfl, hb2⟩)
      | (go_at_call 24; refine (len_nil_calls _).mono ?_; rintro e w3 ⟨rfl, hb3⟩; have hb4 := below_then hb2 hb2.size hb3; have hk3 := blockB hb4 HB0.out; obtain ⟨f0, f1, f2, f3⟩ := block4 hk3; have HOWN := Lib.hid (own_calls x _ w3 _ (HX.out.below hb4)))
      | (go_at_call 48; refine HOWN.out.mono ?_; rintro e w4 ⟨v, rfl, hv, hb5⟩; obtain ⟨hbv, A4, c4, rfl, hc4, hA4⟩ := hv.eq; have hk4 := blockB hb5 hk3; obtain ⟨g0, g1, g2, g3⟩ := block4 hk4; have fz := free4 hk4; have hb6 := below_then hb4 hb4.size hb5; have HV4 := Lib.hid hv; clear hv hk3))
    obtain ⟨w5, hw5, hk5, hs5, hot, hbw⟩ := store_box hk4 (.int .i64 x.kind) (.int .i64 x.num) (.string x.text) (.slice A4 x.items.length c4)
    rw [hw5]
    have hs3 := hb4.size
    have HV5 := Lib.hid (HV4.out.keep (w' := w5) (S' := fun b => w.heap.size < b) fun b hb (hs : w3.heap.size ≤ b) => ⟨by show w.heap.size < b; omega, hot b (by omega)⟩)
    have hb7 : Below w.heap.size w w5 := (below_then hB1 hB1.size hb6).trans (hbw _ (Nat.le_refl _))
    refine (len_nil_calls _).mono ?_
    rintro e w6 ⟨rfl, hb8⟩
    have hk6 := blockB hb8 hk5
    obtain ⟨q0, q1, q2, q3⟩ := block4 hk6
    have hb9 := below_then hb7 hb7.size hb8
    have HV6 := Lib.hid (HV5.out.below hb8)
    clear f0 f1 f2 f3 g0 g1 g2 g3 fz hk4 hk5 hk6 HOWN HV5 HV4 hot hbw HCK HX hw5
    go_wp2_with fail
    go_ret2
    obtain ⟨hbx6, A6, c6, e6, hc6, hA6⟩ := HV6.out.eq
    simp only [Value.agg.injEq, Array.mk.injEq, List.cons.injEq, Value.slice.injEq, true_and, and_true] at e6
    obtain ⟨rfl, rfl⟩ := e6
    obtain ⟨w7, hw7, hB7, hs7, hk7⟩ := box0 w6 31 (.int .i64 x.kind) (.int .i64 x.num) (.string x.text) (.slice A4 x.items.length c4)
    rw [hw7]
    have hw6 := hb9.size
    have hvc := (VC.mk hbx6 hc6 hA6).keep (S' := Old w S) (w' := w7) fun b hb hs => ⟨.inr (Nat.le_of_lt hs), hB7.block b hb⟩
    have hlf := IsN.leaf_mk (w := w7) (S := Old w S) (l := [x]) (A := some ⟨w6.heap.size, 0, none⟩) (cap := 1) (by simp) (.inr ⟨_, rfl, by
      simp only [LC]
      refine ⟨.inr hw6, ⟨_, hvc, fun j u hu => ?_⟩, trivial⟩
      rw [plus0, Nat.zero_add]
      simp only [World.cell?, hk7]
      simpa using hu⟩)
    have hnew := cell_new2 w7 (.iface 87 (.slice (some ⟨w6.heap.size, 0, none⟩) 1 1)) (.int .i64 1) 83
    refine ⟨.pointer (some ⟨w6.heap.size + 1, 0, none⟩), rfl, .inr ⟨by trivial, 1, w7.heap.size, by rw [hs7], ⟨.inr (by omega), hnew.2, by simp, .inr ⟨.leaf [x], _, hnew.1, hlf.keep (Keeps.alloc _), rfl, ⟨[x], rfl, by simp, by simp⟩, .inl rfl⟩⟩⟩, (below_then hb9 hw6 hB7).alloc (by omega) _⟩
  · have hE : pushE [] x = 3 := by unfold pushE; rw [if_neg hc]
    rw [if_neg hc] at HCK
    rw [hE]
    clear hE hc
    go_enter Tryd.func20, Tryd.ntmps20
    go_wp2_with (first | (go_at_call 51; refine HCK.out.mono ?_; rintro e w2 ⟨rfl, hb2⟩))
    go_ret2
    exact ⟨_, rfl, .inl ⟨by decide, rfl⟩, below_then hB1 hB1.size hb2⟩
theorem vvalue_calls (l : List V) (h b : Nat) (w : World) (S : Nat → Prop) (hr : IsR w S l h b) (hT : Lib.Utf8Tabs 0 1 w) :
    Calls Tryd.prog 29 #[.pointer (some ⟨b, 0, none⟩)] w fun e w' => ∃ v, e = .returned (.tuple #[v, .int .i64 (listV l).2]) ∧ IsV w' (fun b => w.heap.size ≤ b) (listV l).1 v ∧ Below w.heap.size w w' := by
  obtain ⟨w1, hw1, hB1, hsz, hb0⟩ := box0 w 31 (.int .i64 0) (.int .i64 0) (.string ⟨#[]⟩) (.slice none 0 0)
  have HR := Lib.hid (hr.below hB1)
  have HT := Lib.hid (tabs_below hT hB1)
  have HB0 := Lib.hid hb0
  obtain ⟨R, hR⟩ : ∃ R, listV l = R := ⟨_, rfl⟩
  have HRE := Lib.hid hR
  rw [hR]
  clear hr hT hR hb0
  go_enter Tryd.func29, Tryd.ntmps29
  go_wp2_with (first
    | (go_at_call 32; refine (items_calls l h b _ _ HR.out).mono ?_; rintro e w2 ⟨v, rfl, hv, hb2⟩; have HV := Lib.hid hv; clear hv)
    | (go_at_call 57; refine (list_calls l v w2 _ HV.out (tabs_below HT.out hb2)).mono ?_; rintro e w3 ⟨v3, rfl, hv3, hb3⟩; rw [HRE.out] at hv3; rw [HRE.out]; obtain ⟨hbd, A3, c3, rfl, hc3, hA3⟩ := hv3.eq; have HV3 := Lib.hid hv3; have hb4 := below_then hb2 hb2.size hb3; have hk3 := blockB hb4 HB0.out; obtain ⟨e0, e1, e2, e3⟩ := block4 hk3; have fz := free4 hk3; obtain ⟨w5, hw5, hk5, hs5, hot5, hbw5⟩ := store_box hk3 (.int .i64 R.1.kind) (.int .i64 R.1.num) (.string R.1.text) (.slice A3 R.1.items.length c3); obtain ⟨y0, y1, y2, y3⟩ := block4 hk5; clear hv3 hA3))
  have hs4 := hb2.size
  have hv5 : IsV w5 (fun b => w.heap.size ≤ b) R.1 _ := HV3.out.keep (fun b hb (hs : w2.heap.size ≤ b) => ⟨show w.heap.size ≤ b by omega, hot5 b (by omega)⟩)
  have hb5 := (below_then hB1 hB1.size hb4).trans (hbw5 _ (Nat.le_refl _))
  clear e0 e1 e2 e3 hot5 hbw5 hk5 HV3
  refine bodyPost_ret (v := .tuple #[.agg #[.int .i64 R.1.kind, .int .i64 R.1.num, .string R.1.text, .slice A3 R.1.items.length c3], .int .i64 R.2]) (by simp [results, Tryd.results29, go_sem, y0, y1, y2, y3]) rfl ⟨_, rfl, hv5, hb5⟩
end Go.Proofs.YtaeldfnihocljaaDoor
