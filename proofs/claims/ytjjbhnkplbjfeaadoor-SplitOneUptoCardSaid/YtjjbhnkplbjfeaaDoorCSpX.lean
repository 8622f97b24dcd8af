/- The law SplitOne. -/
import Derived.Test.YtjjbhnkplbjfeaaDoorCSpV
import Derived.Test.YtjjbhnkplbjfeaaDoorCSpS

set_option linter.unusedVariables false
set_option linter.unusedSimpArgs false
namespace Go.Proofs.YtjjbhnkplbjfeaaDoor
open Go.RowKit
attribute [local go_sem] lt_succ_of

/-- A deque, or none beside an error. -/
def OutP (w : World) (L : List V) (E : Int) (p : Option Addr) : Prop := (E = 0 ∧ ∃ b, p = some ⟨b, 0, none⟩ ∧ IsE w (fun _ => True) L b) ∨ (E ≠ 0 ∧ p = none)
/-- A list, or none beside an error. -/
def OutS (w : World) (L : List V) (E : Int) (v : Value) : Prop := (E = 0 ∧ IsS w (fun _ => True) L v) ∨ (E ≠ 0 ∧ ∃ A k c, v = .slice A k c)
theorem OutP.below {w w' : World} {L : List V} {E : Int} {p : Option Addr} (hb : Below w.heap.size w w') (h : OutP w L E p) : OutP w' L E p := by
  rcases h with ⟨h1, b, h2, h3⟩ | h
  · exact .inl ⟨h1, b, h2, h3.below hb⟩
  · exact .inr h
theorem OutS.below {w w' : World} {L : List V} {E : Int} {v : Value} (hb : Below w.heap.size w w') (h : OutS w L E v) : OutS w' L E v := by
  rcases h with ⟨h1, h2⟩ | h
  · exact .inl ⟨h1, h2.below hb⟩
  · exact .inr h
theorem is_not (n : Int) (vl : Value) (w : World) (hn : n ≠ 0) (h1 : -10 ≤ n ∧ n ≤ 10) (hv : ∃ A k c, vl = .slice A k c) :
    Calls Tryd.prog 45 #[.pointer none, .int .i64 n, vl, .int .i64 n] w fun e w' => e = .returned (.bool true) ∧ w = w' := by
  obtain ⟨A, k, c, rfl⟩ := hv
  have i1 : IntKind.i64.wrap n = n := IntWalk.i64_in _ (by omega)
  have i2 : (n != n) = false := by simp
  have i3 : (n != 0) = true := by simpa using hn
  clear h1
  go_enter Tryd.func45, Tryd.ntmps45
  go_wp2_with fail
  go_ret
  exact ⟨rfl, rfl⟩
theorem is_any {w : World} {L : List V} {E : Int} {p : Option Addr} {v : Value} (h1 : -10 ≤ E ∧ E ≤ 10) (hp : OutP w L E p) (hv : OutS w L E v) :
    Calls Tryd.prog 45 #[.pointer p, .int .i64 E, v, .int .i64 E] w fun e w' => e = .returned (.bool true) ∧ Below w.heap.size w w' := by
  rcases hp with ⟨rfl, b, rfl, hp⟩ | ⟨hn, rfl⟩
  · exact is_calls L b v w _ _ hp (hv.resolve_right (fun h => h.1 rfl)).2
  · refine (is_not E v w hn h1 (hv.resolve_left (fun h => hn h.1)).2).mono ?_
    rintro e w' ⟨rfl, rfl⟩
    exact ⟨rfl, Below.refl _ _⟩
theorem insE_range (l : List V) (i : Int) (x : V) : -10 ≤ insE l i x ∧ insE l i x ≤ 10 := by
  unfold insE
  split
  · split
    · split <;> omega
    · omega
  · omega
def remE (l : List V) (i : Int) : Int := if 0 ≤ i ∧ i < (l.length : Int) then 0 else 5
theorem remE_range (l : List V) (i : Int) : -10 ≤ remE l i ∧ remE l i ≤ 10 := by
  unfold remE
  split <;> omega
theorem insert_out (l : List V) (p : Option Addr) (i : Int) (x : V) (vx : Value) (w : World) (S : Nat → Prop) (h : IsD w S l p) (hx : IsV w S x vx) (hok : listE l = 0) (hT : Lib.Utf8Tabs 1 2 w) :
    Calls Tryd.prog 58 #[.pointer p, .int .i64 i, vx] w fun e w' => ∃ q, e = .returned (.tuple #[.pointer q, .int .i64 (insE l i x)]) ∧ OutP w' (insL l i.toNat x) (insE l i x) q ∧ Below w.heap.size w w' := by
  refine (insert_calls l p i x vx w S h hx hok hT).mono ?_
  rintro e w' (⟨h1, rfl, h2⟩ | ⟨h1, b, rfl, h3, h2⟩)
  · exact ⟨none, rfl, .inr ⟨h1, rfl⟩, h2⟩
  · exact ⟨_, by rw [h1], .inl ⟨h1, b, rfl, h3⟩, h2⟩
theorem refinsert_out (l : List V) (vl : Value) (i : Int) (x : V) (vx : Value) (w : World) (S : Nat → Prop) (h : IsS w S l vl) (hx : IsV w S x vx) (h65 : l.length ≤ 65536) :
    Calls Tryd.prog 59 #[vl, .int .i64 i, vx] w fun e w' => ∃ v, e = .returned (.tuple #[v, .int .i64 (insE l i x)]) ∧ OutS w' (insL l i.toNat x) (insE l i x) v ∧ Below w.heap.size w w' := by
  refine (refinsert_calls l vl i x vx w S h hx h65).mono ?_
  rintro e w' (⟨h1, rfl, h2⟩ | ⟨h1, v, rfl, h3, h2⟩)
  · exact ⟨_, rfl, .inr ⟨h1, _, _, _, rfl⟩, h2⟩
  · exact ⟨_, by rw [h1], .inl ⟨h1, h3⟩, h2⟩
theorem remove_out (l : List V) (p : Option Addr) (i : Int) (w : World) (S : Nat → Prop) (h : IsD w S l p) (hok : listE l = 0) (hT : Lib.Utf8Tabs 1 2 w) (hi0 : -9223372036854775808 ≤ i) (hi1 : i ≤ 9223372036854775807) :
    Calls Tryd.prog 60 #[.pointer p, .int .i64 i] w fun e w' => ∃ q v, e = .returned (.tuple #[.pointer q, v, .int .i64 (remE l i)]) ∧ OutP w' (remL l i.toNat) (remE l i) q ∧ IsV w' (fun _ => True) (nthV l i).1 v ∧ Below w.heap.size w w' := by
  refine (remove_calls l p i w S h hok hT hi0 hi1).mono ?_
  rintro e w' (⟨h1, v, rfl, h3, h2⟩ | ⟨h1, b, v, rfl, h3, h4, h2⟩)
  · have hE : remE l i = 5 := if_neg h1
    have hn : nthV l i = (V.zero, 5) := if_neg h1
    rw [hE, hn]
    exact ⟨_, _, rfl, .inr ⟨by decide, rfl⟩, h3, h2⟩
  · have hE : remE l i = 0 := if_pos h1
    have hn : nthV l i = (itemAt l i.toNat, 0) := if_pos h1
    rw [hE, hn]
    exact ⟨_, _, rfl, .inl ⟨rfl, b, rfl, h3⟩, h4, h2⟩
theorem refremove_out (l : List V) (vl : Value) (i : Int) (w : World) (S : Nat → Prop) (h : IsS w S l vl) (h65 : l.length ≤ 65536) :
    Calls Tryd.prog 61 #[vl, .int .i64 i] w fun e w' => ∃ q v, e = .returned (.tuple #[q, v, .int .i64 (remE l i)]) ∧ OutS w' (remL l i.toNat) (remE l i) q ∧ IsV w' (fun _ => True) (nthV l i).1 v ∧ Below w.heap.size w w' := by
  refine (refremove_calls l vl i w S h h65).mono ?_
  rintro e w' (⟨h1, v, rfl, h3, h2⟩ | ⟨h1, b, v, rfl, h3, h4, h2⟩)
  · have hE : remE l i = 5 := if_neg h1
    have hn : nthV l i = (V.zero, 5) := if_neg h1
    rw [hE, hn]
    exact ⟨_, _, rfl, .inr ⟨by decide, _, _, _, rfl⟩, h3, h2⟩
  · have hE : remE l i = 0 := if_pos h1
    have hn : nthV l i = (itemAt l i.toNat, 0) := if_pos h1
    rw [hE, hn]
    exact ⟨_, _, rfl, .inl ⟨rfl, h3⟩, h4, h2⟩
set_option maxRecDepth 100000 in
set_option maxHeartbeats 4000000 in
theorem splitone_calls (l : List V) (i : Int) (x : V) (A : Option Addr) (cA : Nat) (vx : Value) (w : World) (S : Nat → Prop) (hl : IsS w S l (.slice A l.length cA)) (hx : IsV w S x vx) (hT : Lib.Utf8Tabs 1 2 w) (hi0 : -9223372036854775808 ≤ i) (hi1 : i ≤ 9223372036854775807) :
    Calls Tryd.prog 12 #[.slice A l.length cA, .int .i64 i, vx] w fun e w' => e = .returned (.bool true) ∧ Below w.heap.size w w' := by
  obtain ⟨hbx, Ax, cx, rfl, hcx, hAx⟩ := hx.eq
  obtain ⟨w1, hw1, hB1, hsz, hb0⟩ := box0 w 33 (.int .i64 x.kind) (.int .i64 x.num) (.string x.text) (.slice Ax x.items.length cx)
  obtain ⟨x0, x1, x2, x3⟩ := block4 hb0
  have HB0 := Lib.hid hb0
  have HOF := Lib.hid (dof_calls l _ w1 S (hl.below hB1) (tabs_below hT hB1))
  have HL := Lib.hid (hl.below hB1)
  have HX := Lib.hid (hx.below hB1)
  have HT := Lib.hid (tabs_below hT hB1)
  have HI0 := Lib.hid hi0
  have HI1 := Lib.hid hi1
  clear hx hAx hi0 hi1 hb0
  by_cases h0 : listE l = 0
  · have HE := Lib.hid h0
    have H65 := Lib.hid (listE_len h0)
    rw [h0] at HOF
    obtain ⟨E1, hE1⟩ : ∃ E, insE l i x = E := ⟨_, rfl⟩
    obtain ⟨E2, hE2⟩ : ∃ E, remE l i = E := ⟨_, rfl⟩
    obtain ⟨NV, hNV⟩ : ∃ q, (nthV l i).1 = q := ⟨_, rfl⟩
    obtain ⟨L1, hL1⟩ : ∃ L, insL l i.toNat x = L := ⟨_, rfl⟩
    obtain ⟨L2, hL2⟩ : ∃ L, remL l i.toNat = L := ⟨_, rfl⟩
    have HE1 := Lib.hid hE1
    have HE2 := Lib.hid hE2
    have HNV := Lib.hid hNV
    have HL1 := Lib.hid hL1
    have HL2 := Lib.hid hL2
    have HR1 := Lib.hid (insE_range l i x)
    have HR2 := Lib.hid (remE_range l i)
    rw [hE1] at HR1
    rw [hE2] at HR2
    clear h0 hl hT hE1 hE2 hNV hL1 hL2
    go_enter Tryd.func12, Tryd.ntmps12
    go_wp2_with (first
      | (go_at_call 13; refine HOF.out.mono ?_; rintro e w2 ⟨p, rfl, hp, hb2⟩; obtain ⟨b, rfl, hv⟩ := (hp.resolve_left (fun h => h.1 rfl)).2; have HV := Lib.hid hv.all; have k2 := blockB hb2 HB0.out; obtain ⟨y0, y1, y2, y3⟩ := block4 k2; clear hp hv k2)
      | (go_at_call 58; refine (insert_out l _ i x _ w2 (fun _ => True) HV.out.is ((HX.out.below hb2).keep (Keeps.weak fun _ _ => trivial)) HE.out (tabs_below HT.out hb2)).mono ?_; rintro e w3 ⟨p3, rfl, hp3, hb3'⟩; rw [HE1.out, HL1.out] at hp3; rw [HE1.out]; have HP3 := Lib.hid hp3; have hb3 := chain_then hb2 hb3'; have k3 := blockB hb3 HB0.out; obtain ⟨z0, z1, z2, z3⟩ := block4 k3; clear hp3 k3)
      | (go_at_call 59; refine (refinsert_out l _ i x _ w3 S (HL.out.below hb3) (HX.out.below hb3) H65.out).mono ?_; rintro e w4 ⟨v4, rfl, hv4, hb4'⟩; rw [HE1.out, HL1.out] at hv4; rw [HE1.out]; have HV4 := Lib.hid hv4; have hb4 := chain_then hb3 hb4'; clear hv4))
    have HRM := remove_out l _ i w4 _ (HV.out.below (chain_then hb3' hb4')).is HE.out (tabs_below HT.out hb4) HI0.out HI1.out
    rw [HE2.out, HL2.out, HNV.out] at HRM
    have HRM := Lib.hid HRM
    go_wp2_with (go_at_call 60; refine HRM.out.mono ?_; rintro e w5 ⟨p5, v5, rfl, hp5, hv5, hb5'⟩; have hb5 := chain_then hb4 hb5'; have HP5 := Lib.hid hp5; have HV5 := Lib.hid hv5; obtain ⟨_, A5, c5, rfl, _, _⟩ := hv5.eq; obtain ⟨w6, hw6, hB6, hsz6, hk6⟩ := box0 w5 33 (.int .i64 0) (.int .i64 0) (.string ⟨#[]⟩) (.slice none 0 0); have fz6 := free4 hk6; obtain ⟨z0, z1, z2, z3⟩ := block4 hk6; obtain ⟨w7, hw7, hk7, hsz7, hot7, hB7⟩ := store_box hk6 (.int .i64 NV.kind) (.int .i64 NV.num) (.string NV.text) (.slice A5 NV.items.length c5); have hB57 := hB6.trans (hB7 _ (Nat.le_refl _)); have HK7 := Lib.hid hk7; have hlt7 : w5.heap.size < w6.heap.size := (by omega); clear hp5 hv5 hk7 HRM)
    have hb7 := chain_then hb5 hB57
    have HRR := refremove_out l _ i w7 S (HL.out.below hb7) H65.out
    rw [HE2.out, HL2.out, HNV.out] at HRR
    have HRR := Lib.hid HRR
    go_wp2_with (go_at_call 61; refine HRR.out.mono ?_; rintro e w8 ⟨u8, v8, rfl, hu8, hv8, hb8'⟩; have hb8 := chain_then hb7 hb8'; have HU8 := Lib.hid hu8; have HV8 := Lib.hid hv8; obtain ⟨_, A8, c8, rfl, _, _⟩ := hv8.eq; obtain ⟨w9, hw9, hB9, hsz9, hk9⟩ := box0 w8 33 (.int .i64 0) (.int .i64 0) (.string ⟨#[]⟩) (.slice none 0 0); have fz9 := free4 hk9; obtain ⟨z0, z1, z2, z3⟩ := block4 hk9; obtain ⟨wA, hwA, hkA, hszA, hotA, hBA⟩ := store_box hk9 (.int .i64 NV.kind) (.int .i64 NV.num) (.string NV.text) (.slice A8 NV.items.length c8); have hB8A := hB9.trans (hBA _ (Nat.le_refl _)); have HKA := Lib.hid hkA; have hlt9 : w8.heap.size < w9.heap.size := (by omega); have HIS1 := Lib.hid (is_any HR1.out (HP3.out.below (chain_then hb4' (chain_then hb5' (chain_then hB57 (chain_then hb8' hB8A))))) (HV4.out.below (chain_then hb5' (chain_then hB57 (chain_then hb8' hB8A))))); clear hu8 hv8 hkA HRR)
    have hbA := chain_then hb8 hB8A
    have hy7 := blockB (chain_then hb8' hB8A) HK7.out
    have HY7 := Lib.hid hy7
    have HKA2 := HKA.out
    go_wp2_with (first
      | (go_at_call 45; refine HIS1.out.mono ?_; rintro e wB ⟨rfl, hbB'⟩; have hbB := chain_then hbA hbB'; have HIS2 := Lib.hid (is_any HR2.out (HP5.out.below (chain_then hB57 (chain_then hb8' (chain_then hB8A hbB')))) (HU8.out.below (chain_then hB8A hbB'))); clear HIS1)
      | (go_at_call 45; refine HIS2.out.mono ?_; rintro e wC ⟨rfl, hbC'⟩; have hbC := chain_then hbB hbC'; have kY := blockB (chain_then hbB' hbC') HY7.out; have kZ := blockB (chain_then hbB' hbC') HKA.out; obtain ⟨y0, y1, y2, y3⟩ := block4 kY; obtain ⟨z0, z1, z2, z3⟩ := block4 kZ; have HYZ := Lib.hid (same_calls NV NV _ _ wC _ _ (HV5.out.below (chain_then hB57 (chain_then hb8' (chain_then hB8A (chain_then hbB' hbC'))))) (HV8.out.below (chain_then hB8A (chain_then hbB' hbC')))); rw [eqV_self] at HYZ; clear HIS2)
      | (go_at_call 21; refine HYZ.out.mono ?_; rintro e wD ⟨rfl, hbD'⟩; have hbD := chain_then hbC hbD'; have HIS3 := Lib.hid (is_calls l b _ wD _ S (HV.out.below (chain_then hb3' (chain_then hb4' (chain_then hb5' (chain_then hB57 (chain_then hb8' (chain_then hB8A (chain_then hbB' (chain_then hbC' hbD'))))))))) (HL.out.below hbD)))
      | (go_at_call 45; refine HIS3.out.mono ?_; rintro e wE ⟨rfl, hbE'⟩; have hbE := chain_then hbD hbE'; clear HIS3)
      | (go_at_call 38; refine (sspeaks_calls _ (tabs_below HT.out hbE)).mono ?_; rintro e wF ⟨rfl, hbF'⟩; have hbF := chain_then hB1 (chain_then hbE hbF')))
    go_ret
    exact ⟨rfl, hbF⟩
  · have HN := Lib.hid h0
    have h1 : (listE l == 0) = false := by simpa using h0
    have h2 : (listE l != 0) = true := by simpa using h0
    obtain ⟨E, hE⟩ : ∃ E, listE l = E := ⟨_, rfl⟩
    rw [hE] at HOF HN h0 h1 h2
    clear hl hT hE
    go_enter Tryd.func12, Tryd.ntmps12
    go_wp2_with (first
      | (go_at_call 13; refine HOF.out.mono ?_; rintro e w2 ⟨p, rfl, hp, hb2⟩; obtain rfl := (hp.resolve_right (fun h => HN.out h.1)).2; clear hp)
      | (go_at_call 38; refine (sspeaks_calls _ (tabs_below HT.out hb2)).mono ?_; rintro e w11 ⟨rfl, hb11'⟩; have hb11 := chain_then hB1 (chain_then hb2 hb11')))
    go_ret
    exact ⟨rfl, hb11⟩
end Go.Proofs.YtjjbhnkplbjfeaaDoor
