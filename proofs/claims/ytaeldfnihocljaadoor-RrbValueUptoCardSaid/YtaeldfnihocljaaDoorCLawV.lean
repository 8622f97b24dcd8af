/- The law RrbValue. -/
import Derived.Deep.RegionHeld3
import Derived.Test.YtaeldfnihocljaaDoorCRefV
import Derived.Test.YtaeldfnihocljaaDoorCRrbO

set_option linter.unusedVariables false
set_option linter.unusedSimpArgs false
namespace Go.Proofs.YtaeldfnihocljaaDoor
open Go.RowKit
attribute [local go_sem] lt_succ_of

set_option maxRecDepth 100000 in
set_option maxHeartbeats 8000000 in
theorem rrbvalue_calls (l : List V) (x : V) (vl vx : Value) (w : World) (S : Nat → Prop) (hl : IsS w S l vl) (hx : IsV w S x vx) (hT : Lib.Utf8Tabs 0 1 w) :
    Calls Tryd.prog 6 #[vl, vx] w fun e w' => e = .returned (.bool true) ∧ Below w.heap.size w w' := by
  obtain ⟨hbx, Ax, cx, rfl, hcx, hAx⟩ := hx.eq
  obtain ⟨w1, hw1, hB1, hsz, hb0⟩ := box0 w 31 (.int .i64 x.kind) (.int .i64 x.num) (.string x.text) (.slice Ax x.items.length cx)
  have HL := Lib.hid (hl.below hB1)
  have HX := Lib.hid (hx.below hB1)
  have HT := Lib.hid (tabs_below hT hB1)
  have HOF := Lib.hid (of_calls l vl w1 S HL.out HT.out)
  have HB0 := Lib.hid hb0
  clear hl hT hx hAx hb0
  by_cases h0 : listE l = 0
  · rw [h0] at HOF
    clear h0
    go_enter Tryd.func6, Tryd.ntmps6
    go_wp2_with (first | (go_at_call 11; refine HOF.out.mono ?_; rintro e w2 ⟨p, rfl, hp, hb2⟩; obtain ⟨h, b, rfl, hv⟩ := (hp.resolve_left (fun h => h.1 rfl)).2; have HV := Lib.hid hv; clear hp hv))
    obtain ⟨R, hR⟩ : ∃ R, listV l = R := ⟨_, rfl⟩
    have HRE := Lib.hid hR
    clear hR
    go_wp2_with (first
      | (go_at_call 29; refine (vvalue_calls l h b w2 _ HV.out (tabs_below HT.out hb2)).mono ?_; rintro e w3 ⟨va, rfl, hva, hb3⟩; rw [HRE.out] at hva; rw [HRE.out]; obtain ⟨_, Aa, ca, rfl, _, _⟩ := hva.eq; obtain ⟨w4, hw4, hB4, hs4, hk4⟩ := box0 w3 31 (.int .i64 R.1.kind) (.int .i64 R.1.num) (.string R.1.text) (.slice Aa R.1.items.length ca); have hb23 := below_then hb2 hb2.size hb3; have hb4 := below_then hb23 hb23.size hB4; have HA4 := Lib.hid (hva.below hB4); have HK4 := Lib.hid hk4; clear hva hk4)
      | (go_at_call 30; refine (reflist_calls l vl w4 S (HL.out.below hb4)).mono ?_; rintro e w5 ⟨vb, rfl, hvb, hb5⟩; rw [HRE.out] at hvb; rw [HRE.out]; obtain ⟨_, Ab, cb, rfl, _, _⟩ := hvb.eq; obtain ⟨w6, hw6, hB6, hs6, hk6⟩ := box0 w5 31 (.int .i64 R.1.kind) (.int .i64 R.1.num) (.string R.1.text) (.slice Ab R.1.items.length cb); have hb46 := below_then hb5 hb5.size hB6; have hb6 := below_then hb4 hb4.size hb46; have HA6 := Lib.hid (HA4.out.below hb46); have HB6 := Lib.hid (hvb.below hB6); have HK6 := Lib.hid hk6; have HKA := Lib.hid (blockB hb46 HK4.out); have hkx := blockB hb6 HB0.out; obtain ⟨x0, x1, x2, x3⟩ := block4 hkx; have lx := World.block_lt_of_cell? w6 _ x0; have HKX := Lib.hid hkx; have HP := Lib.hid (vpush_nil_calls x _ w6 S (HX.out.below hb6) (tabs_below HT.out hb6)); clear hvb hk6 hkx))
    by_cases he : pushE [] x = 0
    · have HPx := HP.out
      rw [he] at HPx
      have HE := Lib.hid he
      clear he HP
      refine HPx.mono ?_
      clear HPx
      rintro e w7 ⟨p, rfl, hp, hb7⟩
      obtain ⟨h', b', rfl, hv7⟩ := (hp.resolve_left (fun h => h.1 rfl)).2
      rw [List.nil_append] at hv7
      have HV7 := Lib.hid hv7
      have hb67 := below_then hb6 hb6.size hb7
      clear hp hv7
      have hkx7 := blockB hb7 HKX.out
      obtain ⟨y0, y1, y2, y3⟩ := block4 hkx7
      have ly := World.block_lt_of_cell? w7 _ y0
      have HKX7 := Lib.hid hkx7
      clear hkx7 x0 x1 x2 x3 lx
      go_wp2_with fail
      go_region_held3 (fun w' => w'.cell? ⟨w.heap.size, 0, none⟩ = some (.int .i64 x.kind) ∧ w'.cell? ⟨w.heap.size, 1, none⟩ = some (.int .i64 x.num) ∧ w'.cell? ⟨w.heap.size, 2, none⟩ = some (.string x.text) ∧ w'.cell? ⟨w.heap.size, 3, none⟩ = some (.slice Ax x.items.length cx))
        (first | go_keep | exact ⟨z0, z1, z2, z3⟩ | exact ⟨v0, v1, v2, v3⟩)
        (first
          | (go_at_call 31; refine (new_calls _).mono ?_; rintro e w8 ⟨b8, rfl, hn8, hb8⟩; have hb8 := below_undrew hb8; have hb78 := below_then hb7 hb7.size hb8; have hb68 := below_then hb6 hb6.size hb78; have HP2 := vpush_calls [] 0 b8 x _ w8 (fun _ => True) (hn8.keep (Keeps.weak fun _ _ => trivial)) ((HX.out.below hb68).keep (Keeps.weak fun _ _ => trivial)) (tabs_below HT.out hb68); rw [HE.out] at HP2; have HP2 := Lib.hid HP2; have hkx8 := blockB hb8 HKX7.out; obtain ⟨z0, z1, z2, z3⟩ := block4 hkx8; clear hn8)
          | (go_at_call 20; refine HP2.out.mono ?_; rintro e w9 ⟨p9, rfl, hp9, hb9⟩; obtain ⟨h9, b9, rfl, _⟩ := (hp9.resolve_left (fun h => h.1 rfl)).2; obtain ⟨v0, v1, v2, v3⟩ := block4 (blockB hb9 hkx8); clear hp9))
      have hb79 := below_then hb78 hb78.size hb9
      have hb69 := below_then hb6 hb6.size hb79
      have hka9 := blockB hb79 HKA.out
      have hkb9 := blockB hb79 HK6.out
      obtain ⟨a0, a1, a2, a3⟩ := block4 hka9
      obtain ⟨c0, c1, c2, c3⟩ := block4 hkb9
      have la := World.block_lt_of_cell? w9 _ a0
      have lc := World.block_lt_of_cell? w9 _ c0
      have lv := World.block_lt_of_cell? w9 _ v0
      have HV9 := Lib.hid (HV7.out.below (below_then hb8 hb8.size hb9))
      have HAB9 := Lib.hid (And.intro (HA6.out.below hb79) (HB6.out.below hb79))
      have HKX9 := Lib.hid (blockB hb9 hkx8)
      clear hka9 hkb9 y0 y1 y2 y3 z0 z1 z2 z3 ly hkx8
      go_wp2_with (first
        | (go_at_call 17; refine (same_calls R.1 R.1 _ _ _ _ _ HAB9.out.1 HAB9.out.2).mono ?_; rintro e w10 ⟨rfl, hb10⟩; rw [eqV_self]; have HV10 := Lib.hid (HV9.out.below hb10); have hb610 := below_then hb69 hb69.size hb10)
        | (go_at_call 21; refine (pop_nil_calls w10).mono ?_; rintro e w11 ⟨v11, rfl, hv11, hb11⟩; obtain ⟨_, A11, c11, rfl, _, _⟩ := hv11.eq; have HV11 := Lib.hid (HV10.out.below hb11); have hb611 := below_then hb610 hb610.size hb11; clear hv11))
      have hba := (Below.refl w11.heap.size w11).alloc (Nat.le_refl _) (.cells #[.int .i64 V.zero.kind, .int .i64 V.zero.num, .string V.zero.text, .slice A11 V.zero.items.length c11] 31)
      obtain ⟨w12, hw12⟩ : ∃ w12, w11.alloc (.cells #[.int .i64 V.zero.kind, .int .i64 V.zero.num, .string V.zero.text, .slice A11 V.zero.items.length c11] 31) = w12 := ⟨_, rfl⟩
      rw [hw12] at hba ⊢
      have HV12 := Lib.hid (HV11.out.below hba)
      have hb912 := below_then hb10 hb10.size (below_then hb11 hb11.size hba)
      have hb612 := below_then hb611 hb611.size hba
      have hw12 := Lib.hid hw12
      clear a0 a1 a2 a3 c0 c1 c2 c3 la lc v0 v1 v2 v3 lv
      obtain ⟨v0, v1, v2, v3⟩ := block4 (blockB hb912 HKX9.out)
      have lv := World.block_lt_of_cell? w12 _ v0
      go_wp2_with (first
        | (go_at_call 24; refine (len_nil_same w12).mono ?_; rintro e w13 ⟨rfl, rfl⟩)
        | (go_at_call 22; refine (height_nil_calls _).mono ?_; rintro e w13 ⟨rfl, hb13⟩; have hb613 := below_then hb612 hb612.size hb13; have HV13 := Lib.hid (HV12.out.below hb13); obtain ⟨t0, t1, t2, t3⟩ := block4 (blockB hb13 (blockB hb912 HKX9.out)); have lt := World.block_lt_of_cell? w13 _ t0)
        | (go_at_call 32; refine (items_nil_calls _).mono ?_; rintro e w14 ⟨v14, rfl, hv14, hb14⟩; obtain ⟨A14, c14, rfl, _⟩ := hv14; have hb614 := below_then hb613 hb613.size hb14; have HV14 := Lib.hid (HV13.out.below hb14); obtain ⟨s0, s1, s2, s3⟩ := block4 (blockB hb14 (blockB hb13 (blockB hb912 HKX9.out))); have ls := World.block_lt_of_cell? w14 _ s0))
      obtain ⟨w15, hw15, hB15, hs15, hk15⟩ := box0 w14 31 (.int .i64 x.kind) (.int .i64 x.num) (.string x.text) (.slice Ax x.items.length cx)
      rw [hw15]
      have hb615 := below_then hb614 hb614.size hB15
      have hx15 := (HX.out.below hb615).keep (Keeps.weak (S' := fun _ => True) fun _ _ => trivial)
      have HS15 : Hid (IsS w15 (fun _ => True) [x] (.slice (some ⟨w14.heap.size, 0, none⟩) 1 1)) := by
        obtain ⟨c15, hc15, e15⟩ := hx15
        simp only [Value.agg.injEq] at e15
        have e16 : c15 = [.int .i64 x.kind, .int .i64 x.num, .string x.text, .slice Ax x.items.length cx] := by
          have := congrArg Array.toList e15
          simpa using this.symm
        subst e16
        refine Lib.hid ⟨some ⟨w14.heap.size, 0, none⟩, 1, rfl, by simp, by simp, .inr ⟨_, rfl, ?_⟩⟩
        simp only [LC]
        refine ⟨trivial, ⟨_, hc15, fun j u hu => ?_⟩, trivial⟩
        rw [plus0, Nat.zero_add]
        simp only [World.cell?, hk15]
        simpa using hu
      have HV15 := Lib.hid (HV14.out.below hB15)
      refine (vsame_calls [x] [x] h' b' _ w15 _ _ HV15.out HS15.out).mono ?_
      rintro e w16 ⟨rfl, hb16⟩
      rw [eqL_self]
      have hb616 := below_then hb615 hb615.size hb16
      go_wp2_with (first | (go_at_call 13; refine (speaks_calls _ (tabs_below HT.out hb616)).mono ?_; rintro e w17 ⟨rfl, hb17⟩; have hb617 := below_then hb616 hb616.size hb17))
      go_ret
      exact ⟨rfl, below_then hB1 hB1.size hb617⟩
    · have HPx := HP.out
      obtain ⟨E, hE⟩ : ∃ E, pushE [] x = E := ⟨_, rfl⟩
      rw [hE] at HPx he
      have HE := Lib.hid hE
      have HNE := Lib.hid he
      have e3 : (E == 0) = false := by simpa using he
      have e4 : (E != 0) = true := by simpa using he
      have e5 : (E != E) = false := by simp
      clear he hE HP
      refine HPx.mono ?_
      clear HPx
      rintro e w7 ⟨p, rfl, hp, hb7⟩
      obtain rfl := (hp.resolve_right (fun h => HNE.out h.1)).2
      have hb67 := below_then hb6 hb6.size hb7
      clear hp
      have hkx7 := blockB hb7 HKX.out
      obtain ⟨y0, y1, y2, y3⟩ := block4 hkx7
      have ly := World.block_lt_of_cell? w7 _ y0
      have HKX7 := Lib.hid hkx7
      clear hkx7 x0 x1 x2 x3 lx
      go_wp2_with fail
      go_region_held3 (fun w' => w'.cell? ⟨w.heap.size, 0, none⟩ = some (.int .i64 x.kind) ∧ w'.cell? ⟨w.heap.size, 1, none⟩ = some (.int .i64 x.num) ∧ w'.cell? ⟨w.heap.size, 2, none⟩ = some (.string x.text) ∧ w'.cell? ⟨w.heap.size, 3, none⟩ = some (.slice Ax x.items.length cx))
        (first | go_keep | exact ⟨z0, z1, z2, z3⟩ | exact ⟨v0, v1, v2, v3⟩)
        (first
          | (go_at_call 31; refine (new_calls _).mono ?_; rintro e w8 ⟨b8, rfl, hn8, hb8⟩; have hb8 := below_undrew hb8; have hb78 := below_then hb7 hb7.size hb8; have hb68 := below_then hb6 hb6.size hb78; have HP2 := vpush_calls [] 0 b8 x _ w8 (fun _ => True) (hn8.keep (Keeps.weak fun _ _ => trivial)) ((HX.out.below hb68).keep (Keeps.weak fun _ _ => trivial)) (tabs_below HT.out hb68); rw [HE.out] at HP2; have HP2 := Lib.hid HP2; have hkx8 := blockB hb8 HKX7.out; obtain ⟨z0, z1, z2, z3⟩ := block4 hkx8; clear hn8)
          | (go_at_call 20; refine HP2.out.mono ?_; rintro e w9 ⟨p9, rfl, hp9, hb9⟩; obtain rfl := (hp9.resolve_right (fun h => HNE.out h.1)).2; obtain ⟨v0, v1, v2, v3⟩ := block4 (blockB hb9 hkx8); clear hp9))
      have hb79 := below_then hb78 hb78.size hb9
      have hb69 := below_then hb6 hb6.size hb79
      have hka9 := blockB hb79 HKA.out
      have hkb9 := blockB hb79 HK6.out
      obtain ⟨a0, a1, a2, a3⟩ := block4 hka9
      obtain ⟨c0, c1, c2, c3⟩ := block4 hkb9
      have la := World.block_lt_of_cell? w9 _ a0
      have lc := World.block_lt_of_cell? w9 _ c0
      have lv := World.block_lt_of_cell? w9 _ v0
      have HAB9 := Lib.hid (And.intro (HA6.out.below hb79) (HB6.out.below hb79))
      have HKX9 := Lib.hid (blockB hb9 hkx8)
      clear hka9 hkb9 y0 y1 y2 y3 z0 z1 z2 z3 ly hkx8
      go_wp2_with (first
        | (go_at_call 17; refine (same_calls R.1 R.1 _ _ _ _ _ HAB9.out.1 HAB9.out.2).mono ?_; rintro e w10 ⟨rfl, hb10⟩; rw [eqV_self]; have hb610 := below_then hb69 hb69.size hb10)
        | (go_at_call 21; refine (pop_nil_calls w10).mono ?_; rintro e w11 ⟨v11, rfl, hv11, hb11⟩; obtain ⟨_, A11, c11, rfl, _, _⟩ := hv11.eq; have hb611 := below_then hb610 hb610.size hb11; clear hv11))
      have hba := (Below.refl w11.heap.size w11).alloc (Nat.le_refl _) (.cells #[.int .i64 V.zero.kind, .int .i64 V.zero.num, .string V.zero.text, .slice A11 V.zero.items.length c11] 31)
      obtain ⟨w12, hw12⟩ : ∃ w12, w11.alloc (.cells #[.int .i64 V.zero.kind, .int .i64 V.zero.num, .string V.zero.text, .slice A11 V.zero.items.length c11] 31) = w12 := ⟨_, rfl⟩
      rw [hw12] at hba ⊢
      have hb912 := below_then hb10 hb10.size (below_then hb11 hb11.size hba)
      have hb612 := below_then hb611 hb611.size hba
      have hw12 := Lib.hid hw12
      clear a0 a1 a2 a3 c0 c1 c2 c3 la lc v0 v1 v2 v3 lv
      obtain ⟨v0, v1, v2, v3⟩ := block4 (blockB hb912 HKX9.out)
      have lv := World.block_lt_of_cell? w12 _ v0
      go_wp2_with (first
        | (go_at_call 24; refine (len_nil_same w12).mono ?_; rintro e w13 ⟨rfl, rfl⟩)
        | (go_at_call 22; refine (height_nil_calls _).mono ?_; rintro e w13 ⟨rfl, hb13⟩; have hb613 := below_then hb612 hb612.size hb13; obtain ⟨t0, t1, t2, t3⟩ := block4 (blockB hb13 (blockB hb912 HKX9.out)); have lt := World.block_lt_of_cell? w13 _ t0)
        | (go_at_call 32; refine (items_nil_calls _).mono ?_; rintro e w14 ⟨v14, rfl, hv14, hb14⟩; obtain ⟨A14, c14, rfl, _⟩ := hv14; have hb614 := below_then hb613 hb613.size hb14; obtain ⟨s0, s1, s2, s3⟩ := block4 (blockB hb14 (blockB hb13 (blockB hb912 HKX9.out))); have ls := World.block_lt_of_cell? w14 _ s0)
        | (go_at_call 13; refine (speaks_calls _ (tabs_below HT.out hb614)).mono ?_; rintro e w17 ⟨rfl, hb17⟩; have hb617 := below_then hb614 hb614.size hb17))
      go_ret
      exact ⟨rfl, below_then hB1 hB1.size hb617⟩
  · have h1 : (listE l != 0) = true := by simpa using h0
    have h2 : (listE l == 0) = false := by simpa using h0
    have HN := Lib.hid h0
    obtain ⟨E, hE⟩ : ∃ E, listE l = E := ⟨_, rfl⟩
    rw [hE] at HOF HN h1 h2 h0
    clear hE
    go_enter Tryd.func6, Tryd.ntmps6
    go_wp2_with (first | (go_at_call 11; refine HOF.out.mono ?_; rintro e w2 ⟨p, rfl, hp, hb2⟩; obtain rfl := (hp.resolve_right (fun h => HN.out h.1)).2; clear hp) | (go_at_call 13; refine (speaks_calls _ (tabs_below HT.out hb2)).mono ?_; rintro e w5 ⟨rfl, hb5⟩; have hb6 := below_then hb2 hb2.size hb5))
    go_ret
    exact ⟨rfl, below_then hB1 hB1.size hb6⟩
end Go.Proofs.YtaeldfnihocljaaDoor
