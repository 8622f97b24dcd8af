/- The reader's maps. -/
import Derived.Deep.QuietTactic
import Derived.BigQuiet
import Derived.StillTailTactics
import Derived.Deep.RegionLawGrows
import Derived.Test.YtoiipdknamgcmaaGreatDoorCStM
import Derived.Test.YtoiipdknamgcmaaGreatDoorCRdN

set_option linter.unusedVariables false
set_option linter.unusedSimpArgs false
namespace Go.Proofs.YtoiipdknamgcmaaGreatDoor
open Go.RowKit Go.Shelf
attribute [local go_sem] lt_succ_of

theorem sortP_length (l : List (V × V)) : (sortP l).length = l.length := (sortP_perm l).length_eq
set_option maxRecDepth 100000 in
set_option maxHeartbeats 16000000 in
theorem pairs_some (n : Nat) (ih : ItemsAt true n) : PairsAt true n := by
  intro d f p rb s w hr hp hd hout0
  have hout := R.next_in hout0
  have hb := byteAt_eq s
  have hs16 := hr.len
  have hrbw : rb < w.heap.size := hr.at'.lt
  obtain ⟨w1, hw1, hB1, hsz1, hb1⟩ := box1 w (.int .i64 0) (.int .i64 0) (.string ⟨#[]⟩) (.slice none 0 0) 24
  have hr1 := hr.keep hB1
  obtain ⟨a0, a1, a2, g1, g2⟩ := hr1.at'.cells
  have HR1 := Lib.hid hr1
  have HIT : Hid (∀ W, Rdr W rb s (p + 1) f → Calls Tryz.prog 41 #[.pointer (some ⟨rb, 0, none⟩), .int .u8 125, .int .i64 ((d : Int) + 1)] W (PostM (· = rb) s W (itemsF true n 125 (d + 1) f (sfx s (p + 1))) (ItemsG rb s W.heap.size))) := Lib.hid fun W hW => ih 125 (d + 1) f (p + 1) rb s W hW (by omega) hout
  have hd1 : IntKind.i64.wrap ((d : Int) + 1) = (d : Int) + 1 := IntWalk.i64_in _ (by omega)
  have HP2 := Lib.hid hp
  have hpp : s.size - (s.size - p) = p := by omega
  unfold pairsR at hout0 ⊢
  cases hA : itemsF true n 125 (d + 1) f (sfx s (p + 1)) with
  | out => exact absurd hA hout
  | bad er kk =>
    rw [hA] at HIT
    rw [R.next_bad]
    clear hout hA
    go_enter Tryz.func42, Tryz.ntmps42
    go_wp2_with (go_at_call 41; refine (HIT.out _ (HR1.out.moved 0 (p + 1) HP2.out)).mono ?_; rintro e w3 ⟨rfl, hb3⟩)
    exact ⟨rfl, rfl, ((But.of hB1).trans ((but_moved w1 rb 0 _).trans hb3))⟩
  | ok a =>
    have hcnt := itemsF_count true n 125 (d + 1) f _ a hA
    have hfs := itemsF_forms true n 125 (d + 1) f _ a hA hr.forms
    have hhd := itemsF_head true n 125 (d + 1) f _ a hA
    rw [sfx_length] at hcnt
    rw [hA] at HIT
    rw [hA, R.next_ok] at hout0
    rw [R.next_ok]
    have hlp : 0 < a.2.2.length := by
      cases h : a.2.2 with
      | nil => rw [h] at hhd; cases hhd
      | cons c t => simp
    by_cases hodd : a.1.length % 2 = 1
    · rw [if_pos hodd]
      have hm : ((a.1.length : Int).tmod 2 == 1) = true := by rw [tmod_two, hodd]; rfl
      have hm2 : (a.1.length : Int).tmod 2 = 1 := by rw [tmod_two, hodd]; rfl
      have hm3 : (a.1.length : Int) % 2 = 1 := by omega
      unfold PostM
      dsimp only
      clear hout hA hout0
      obtain ⟨LL, hLL⟩ : ∃ LL, a.1.length = LL := ⟨_, rfl⟩
      go_enter Tryz.func42, Tryz.ntmps42
      go_wp2_with (first
        | (go_at_call 41; refine (HIT.out _ (HR1.out.moved 0 (p + 1) HP2.out)).mono ?_; rintro e w3 ⟨⟨v3, rfl, hv3, q3, hq3, hR3, hs3⟩, hb3⟩; have hl3 := congrArg List.length hs3; rw [sfx_length] at hl3; have hb3' := (but_moved w1 rb 0 _).trans hb3; have hr3 := (HR1.out.but hb3' hR3 hq3 hfs); obtain ⟨c0, c1, c2, f1, f2⟩ := hr3.at'.cells; obtain ⟨A3, ca3, rfl, hca3, hl32, hA3⟩ := hv3; have HB3 := Lib.hid ((But.of hB1).trans hb3'); have HQ3 := Lib.hid (show s.size - a.2.2.length = q3 by omega); clear hb3 hb3' hr3 hA3 hR3)
        | (go_at_call 25; refine (fail_calls _ _ _ _).mono ?_; rintro e w8 ⟨rfl, rfl⟩))
      rw [HQ3.out]
      exact ⟨rfl, rfl, HB3.out⟩
    · rw [if_neg hodd]
      have hm : ((a.1.length : Int).tmod 2 == 1) = false := by rw [tmod_two, show a.1.length % 2 = 0 by omega]; rfl
      have hm2 : (a.1.length : Int).tmod 2 = 0 := by rw [tmod_two, show a.1.length % 2 = 0 by omega]; rfl
      have hm3 : ¬ (a.1.length : Int) % 2 = 1 := by omega
      have hm4 : (a.1.length : Int) % 2 = 0 := by omega
      have HEV := Lib.hid (show a.1.length % 2 = 0 by omega)
      by_cases hok : MapOk a.1
      · have HOK := Lib.hid hok
        rw [mapR_eq, if_pos hok, R.next_ok]
        obtain ⟨M, hMe⟩ : ∃ M, V.map (flatP (sortP (pairsV a.1))) = M := ⟨_, rfl⟩
        have HME := Lib.hid hMe
        rw [hMe]
        clear hMe hok
        clear hout hA hout0 hodd
        go_enter Tryz.func42, Tryz.ntmps42
        go_wp2_with (first
          | (go_at_call 41; refine (HIT.out _ (HR1.out.moved 0 (p + 1) HP2.out)).mono ?_; rintro e w3 ⟨⟨v3, rfl, hv3, q3, hq3, hR3, hs3⟩, hb3⟩; have hl3 := congrArg List.length hs3; rw [sfx_length] at hl3; have hb3' := (but_moved w1 rb 0 _).trans hb3; have hr3 := (HR1.out.but hb3' hR3 hq3 hfs); obtain ⟨c0, c1, c2, f1, f2⟩ := hr3.at'.cells; have HV3 := Lib.hid (hv3.keep (Keeps.weak (S' := fun b => w1.heap.size ≤ b) fun b hb => Nat.le_trans (but_moved w1 rb 0 (.int .i64 ((p : Int) + 1))).size hb)); obtain ⟨A3, ca3, rfl, hca3, hl32, hA3⟩ := hv3; have HR3 := Lib.hid hr3; have HB3 := Lib.hid ((But.of hB1).trans hb3'); have HBI := Lib.hid hb3'; clear hb3 hb3' hr3 hA3 hR3))
        obtain ⟨m, hm0⟩ : ∃ m, a.1.length = 2 * m := ⟨a.1.length / 2, by have := HEV.out; omega⟩
        have HM := Lib.hid hm0
        have hmb : m ≤ 65536 := by omega
        clear hm0
        have HX4 := Lib.hid (but_moved w3 rb 0 (.int .i64 ((q3 : Int) + 1)))
        have HR4 : Hid (Rdr (w3.setCell ⟨rb, 1, none⟩ (.int .i64 ((q3 : Int) + 1))) rb s (q3 + 1) a.2.1) := Lib.hid (HR3.out.moved 0 (q3 + 1) (by omega))
        have HV4 : Hid (IsS (w3.setCell ⟨rb, 1, none⟩ (.int .i64 ((q3 : Int) + 1))) (fun b => w1.heap.size ≤ b) a.1 (.slice A3 a.1.length ca3)) := Lib.hid (HV3.out.keep (HX4.out.keeps fun b hb e => Nat.lt_irrefl _ (Nat.lt_of_lt_of_le (Nat.lt_trans hrbw hsz1) (e ▸ hb))))
        have HW3 := Lib.hid (show w1.heap.size ≤ (w3.setCell ⟨rb, 1, none⟩ (.int .i64 ((q3 : Int) + 1))).heap.size from Nat.le_trans HBI.out.size HX4.out.size)
        have HB4 : Hid (But (· = rb) w (w3.setCell ⟨rb, 1, none⟩ (.int .i64 ((q3 : Int) + 1)))) := Lib.hid (HB3.out.trans HX4.out)
        have hk4 : (w3.setCell ⟨rb, 1, none⟩ (.int .i64 ((q3 : Int) + 1))).heap[w.heap.size]? = some (.cells #[.int .i64 0, .int .i64 0, .string ⟨#[]⟩, .slice none 0 0] 24 (0, 0)) := ((HBI.out.trans HX4.out).block w.heap.size hsz1 (Nat.ne_of_gt hrbw)).trans hb1
        have HK4 := Lib.hid hk4
        have HS3 := Lib.hid hs3
        clear hk4 hs3 hb1 a0 a1 a2 g1 g2 c0 c1 c2 f1 f2 hm hm2 hm3 hm4 HX4 HR3 HV3 HBI HB3
        generalize w3.setCell ⟨rb, 1, none⟩ (.int .i64 ((q3 : Int) + 1)) = w4 at HR4 HV4 HW3 HB4 HK4 ⊢
        obtain ⟨A3', ca3', he3, _, hl3l, hA4⟩ := HV4.out
        obtain ⟨he3a, he3b⟩ : A3 = A3' ∧ ca3 = ca3' := by injection he3 with e1 e2 e3; exact ⟨e1, e3⟩
        subst he3a he3b
        have HA4 : Hid (LA w4 (fun b => b < w4.heap.size) a.1 A3) := Lib.hid (hA4.keep fun b hb _ => ⟨hb, rfl⟩)
        clear hA4 he3
        obtain ⟨base, hbase⟩ : ∃ base, w4.heap.size = base := ⟨_, rfl⟩
        rw [hbase] at HA4
        have HBS := Lib.hid hbase
        clear hbase
        obtain ⟨LL, hLL⟩ : ∃ LL, a.1.length = LL := ⟨_, rfl⟩
        have HLL := Lib.hid hLL
        rw [hLL] at hca3 hl32 hl3l HM ⊢
        clear hLL
        go_loopw [7, 8] (fun v7 vi wr => ∃ (j i : Nat) (L : List V), vi = .int .i64 j ∧ j ≤ LL ∧ Hid (j = 2 * i) ∧ Hid (L = a.1.take j) ∧ Hid (OwnP wr base (fun b => b < base) L i v7) ∧ Hid (Below w4.heap.size w4 wr)) (fun _ vi _ => LL - (intOf vi).toNat)
        case atStart => exact ⟨0, 0, [], rfl, Nat.zero_le _, Lib.hid rfl, Lib.hid rfl, Lib.hid (OwnP.nil _ _ _), Lib.hid (Below.refl _ _)⟩
        case round =>
          obtain ⟨j, i, L, rfl, hjl, hji, hL, hO, hbr⟩ := hrel
          by_cases hlt : j < LL
          · have hz : (j : Int) < (LL : Int) := by omega
            have hj1 : j + 1 < LL := by have := hji.out; have := HM.out; omega
            obtain ⟨j1, hj1e⟩ : ∃ j1, j1 = j + 1 := ⟨_, rfl⟩
            have hjz : IntKind.i64.wrap ((j : Int) + 1) = (j1 : Int) := by rw [show (j : Int) + 1 = (j1 : Int) by omega]; exact IntWalk.i64_in _ (by omega)
            have hj1z : (j1 : Int) < (LL : Int) := by omega
            have HJ1 := Lib.hid hj1e
            clear hj1e
            obtain ⟨ad, A1, c1, had, hla', hbd1, f0, f1, f2, f3, hc1, hA1⟩ := (HA4.out.below hbr.out).at j (by have := HLL.out; omega)
            obtain ⟨ad', A2, c2, had2, hlb', hbd2, g0, g1, g2, g3, hc2, hA2⟩ := (HA4.out.below hbr.out).at j1 (by have := HLL.out; have := HJ1.out; omega)
            subst had
            obtain rfl : ad = ad' := by injection had2
            obtain ⟨X, hXe⟩ : ∃ X, itemAt a.1 j = X := ⟨_, rfl⟩
            obtain ⟨Y, hYe⟩ : ∃ Y, itemAt a.1 j1 = Y := ⟨_, rfl⟩
            have hT2 : a.1.take (j + 2) = L ++ [X, Y] := by
              have h2 := take_two (l := a.1) (i := i) (by have := hji.out; have := HLL.out; omega)
              rw [← hji.out, show 2 * (i + 1) = j + 2 by have := hji.out; omega, ← HJ1.out, hXe, hYe, ← hL.out] at h2
              exact h2
            have HT2 := Lib.hid hT2
            have hX := IsV.mk hbd1 hc1 hA1
            have hY := IsV.mk hbd2 hc2 hA2
            rw [hXe] at f0 f1 f2 f3 hX
            rw [hYe] at g0 g1 g2 g3 hY
            clear hXe hYe hT2 had2 hbd1 hbd2 hc1 hc2 hA1 hA2
            have hbs7 : base ≤ wr.drew.heap.size := by have := HBS.out; have := hbr.out.size; show base ≤ wr.heap.size; omega
            obtain ⟨A8, c8, hv6, h8⟩ := hO.out.form
            subst hv6
            have hown := hO.out.own_lt
            have HX7 : Hid (VC wr.drew (fun b => b < base ∧ some b ≠ (Value.slice A8 i c8).ownBlock) X [.int .i64 X.kind, .int .i64 X.num, .string X.text, .slice A1 X.items.length c1]) := Lib.hid (by
              obtain ⟨c, h1, h2⟩ := hX
              have h3 : c = [.int .i64 X.kind, .int .i64 X.num, .string X.text, .slice A1 X.items.length c1] := by injection h2 with h2; exact (Array.toList_inj.2 h2).symm
              rw [← h3]
              exact (h1.keep (Keeps.drew (S := _))).keep (Keeps.weak fun b hb => ⟨hb, fun e => by have := (hown b e.symm).1; omega⟩))
            have HY7 : Hid (VC wr.drew (fun b => b < base ∧ some b ≠ (Value.slice A8 i c8).ownBlock) Y [.int .i64 Y.kind, .int .i64 Y.num, .string Y.text, .slice A2 Y.items.length c2]) := Lib.hid (by
              obtain ⟨c, h1, h2⟩ := hY
              have h3 : c = [.int .i64 Y.kind, .int .i64 Y.num, .string Y.text, .slice A2 Y.items.length c2] := by injection h2 with h2; exact (Array.toList_inj.2 h2).symm
              rw [← h3]
              exact (h1.keep (Keeps.drew (S := _))).keep (Keeps.weak fun b hb => ⟨hb, fun e => by have := (hown b e.symm).1; omega⟩))
            clear hX hY h8 hown
            have HI6 := Lib.hid (show i ≤ 65536 by have := hji.out; have := HM.out; omega)
            have hbs6 : w4.heap.size ≤ wr.drew.heap.size := by have := HBS.out; omega
            have HO7 : Hid (OwnP wr.drew base (fun b => b < base) L i (.slice A8 i c8)) := Lib.hid (hO.out.keep Keeps.drew (fun k _ => rfl))
            have HBD : Hid (Below w4.heap.size w4 wr.drew) := Lib.hid hbr.out.drew
            go_wp2_with fail
            go_region_law (refine step_pair (W := wr.drew) base (fun b => b < base) rfl (.tmp 49) (.tmp 60) rfl (.slice A8 i c8) L i X Y (.int .i64 X.kind) (.int .i64 X.num) (.string X.text) (.slice A1 X.items.length c1) (.int .i64 Y.kind) (.int .i64 Y.num) (.string Y.text) (.slice A2 Y.items.length c2) (by simp [Act.eval, Act.put]) (by simp [Act.eval, Act.put]) HO7.out HX7.out HY7.out hbs7 HI6.out ?_; intro v1 w8 hO8 hg8; have HB8 := Lib.hid (HBD.out.grown hg8 hbs6 (fun k e => by have h1 := (HO7.out.own_lt k e).1; have h2 := HBS.out; omega)); have HO8 := Lib.hid hO8; clear hO8 hg8)
            all_goals go_wp2_with fail
            all_goals exact ⟨⟨j + 2, i + 1, L ++ [X, Y], by simp, by omega, Lib.hid (by have := hji.out; omega), Lib.hid HT2.out.symm, HO8, HB8⟩, by
              show LL - ((j : Int) + 2).toNat < LL - ((j : Int)).toNat
              omega⟩
          · have hz : ¬ (j : Int) < (LL : Int) := by omega
            have hjd : decide ((j : Int) < (LL : Int)) = false := decide_eq_false hz
            have hi : i = m := by have := hji.out; have := HM.out; omega
            have hLe : L = a.1 := by rw [hL.out]; exact List.take_of_length_le (by have := HLL.out; omega)
            subst hi hLe
            obtain ⟨A8, c8, hv6, h8⟩ := hO.out.form
            subst hv6
            have HSP : Hid (IsSP wr (fun _ => True) a.1 i (.slice A8 i c8)) := Lib.hid (hO.out.row.is (fun _ _ => trivial) (fun _ _ => trivial))
            have HRr : Hid (Rdr wr rb s (q3 + 1) a.2.1) := Lib.hid (HR4.out.keep hbr.out)
            have HMC := map_calls a.1 i _ wr (fun _ => True) HSP.out HRr.out.tabs (by have := HLL.out; omega)
            have HKr := Lib.hid (blockB hbr.out HK4.out)
            have HBr := Lib.hid (HB4.out.trans (But.of hbr.out))
            have HWr := Lib.hid (show w1.heap.size ≤ wr.heap.size from Nat.le_trans HW3.out hbr.out.size)
            clear h8 HA4 hO hL HSP HR4 HV4 HK4 HB4 HW3 hl3l hca3 hl32 hbr
            have HSL : Hid (M.items.length = LL) := Lib.hid (by rw [← HME.out]; show (flatP (sortP (pairsV a.1))).length = LL; rw [flatP_len, sortP_length, (pairsV_length i a.1 (by have := HLL.out; have := HM.out; omega)).1]; exact HM.out.symm)
            have HMC : Hid (Calls Tryz.prog 57 #[.slice A8 i c8] wr fun e w' => ∃ v er, e = .returned (.tuple #[v, .int .i64 er]) ∧ IsV w' (fun b => wr.heap.size ≤ b) (V.map (flatP (sortP (pairsV a.1)))) v ∧ Below wr.heap.size wr w') := Lib.hid (HMC.mono (by
              rintro e w' ⟨v, x, er, h1, h2, h3, h4⟩
              rcases h4 with ⟨_, rfl⟩ | ⟨h4, _⟩
              · exact ⟨v, er, h1, h2, h3⟩
              · exact absurd HOK.out h4))
            rw [HME.out] at HMC
            clear HME
            go_wp2_with (first
              | (go_at_call 57; refine HMC.out.mono ?_; rintro e w5 ⟨v5, er5, rfl, hv5, hb5⟩; obtain ⟨hbd5, A5, c5, rfl, hc5, hA5⟩ := hv5.eq; have hxl : M.items.length = LL := HSL.out; have HB5 := Lib.hid (HBr.out.trans (But.of hb5)); have HR5 := Lib.hid (HRr.out.keep hb5); have HV5 := Lib.hid hv5; have hk5 := blockB hb5 HKr.out; obtain ⟨w6, hw6, hB6, hsz6, hb6⟩ := box1 w5 (.int .i64 M.kind) (.int .i64 M.num) (.string M.text) (.slice A5 LL c5) 24; have hk6 := blockB hB6 hk5; obtain ⟨k0, k1, k2, k3⟩ := block4 hk6; have z0 := free4 hk6 0; have z1 := free4 hk6 1; have z2 := free4 hk6 2; have z3 := free4 hk6 3; obtain ⟨m0, m1, m2, m3⟩ := block4 hb6; clear hv5 hA5 hk5 hk6 hb6))
            have hsz5 : w.heap.size < w5.heap.size := Nat.lt_of_lt_of_le hsz1 (Nat.le_trans HWr.out hb5.size)
            have hn1 : ¬ w5.heap.size = w.heap.size := Nat.ne_of_gt hsz5
            have hn2 : rb ≠ w.heap.size := Nat.ne_of_lt hrbw
            refine bodyPost_ret (v := .agg #[.int .i64 M.kind, .int .i64 M.num, .string M.text, .slice A5 LL c5]) (by simp [results, Tryz.results42, go_sem, k0, k1, k2, k3]) rfl ?_
            have hv := HV5.out
            rw [HSL.out] at hv
            have hr6 := HR5.out.at'.keep hB6
            refine ⟨⟨_, rfl, (hv.keep (S' := fun b => w.heap.size < b) ?_).keep (Keeps.weak fun b (h : w.heap.size < b) => Nat.le_of_lt h), q3 + 1, by omega, (((hr6.other hn2 _).other hn2 _).other hn2 _).other hn2 _, by rw [sfx_tail, HS3.out]⟩, ((((HB5.out.trans (But.of hB6)).set (.inl (Nat.le_refl _)) _).set (.inl (Nat.le_refl _)) _).set (.inl (Nat.le_refl _)) _).set (.inl (Nat.le_refl _)) _⟩
            have hn : ∀ a : Addr, a.block = w.heap.size → ¬ (fun b => w.heap.size < b) a.block := fun a h (h2 : w.heap.size < a.block) => by omega
            refine Keeps.set_after ?_ (hn _ rfl) _
            refine Keeps.set_after ?_ (hn _ rfl) _
            refine Keeps.set_after ?_ (hn _ rfl) _
            refine Keeps.set_after ?_ (hn _ rfl) _
            exact Keeps.below_to hB6 fun b hb h1 => Nat.lt_of_lt_of_le hsz1 (Nat.le_trans HWr.out h1)
      · have HOK := Lib.hid hok
        rw [mapR_eq, if_neg hok, R.next_bad]
        unfold PostM
        dsimp only
        rw [hpp]
        clear hok
        clear hout hA hout0 hodd
        go_enter Tryz.func42, Tryz.ntmps42
        go_wp2_with (first
          | (go_at_call 41; refine (HIT.out _ (HR1.out.moved 0 (p + 1) HP2.out)).mono ?_; rintro e w3 ⟨⟨v3, rfl, hv3, q3, hq3, hR3, hs3⟩, hb3⟩; have hl3 := congrArg List.length hs3; rw [sfx_length] at hl3; have hb3' := (but_moved w1 rb 0 _).trans hb3; have hr3 := (HR1.out.but hb3' hR3 hq3 hfs); obtain ⟨c0, c1, c2, f1, f2⟩ := hr3.at'.cells; have HV3 := Lib.hid (hv3.keep (Keeps.weak (S' := fun b => w1.heap.size ≤ b) fun b hb => Nat.le_trans (but_moved w1 rb 0 (.int .i64 ((p : Int) + 1))).size hb)); obtain ⟨A3, ca3, rfl, hca3, hl32, hA3⟩ := hv3; have HR3 := Lib.hid hr3; have HB3 := Lib.hid ((But.of hB1).trans hb3'); have HBI := Lib.hid hb3'; clear hb3 hb3' hr3 hA3 hR3))
        obtain ⟨m, hm0⟩ : ∃ m, a.1.length = 2 * m := ⟨a.1.length / 2, by have := HEV.out; omega⟩
        have HM := Lib.hid hm0
        have hmb : m ≤ 65536 := by omega
        clear hm0
        have HX4 := Lib.hid (but_moved w3 rb 0 (.int .i64 ((q3 : Int) + 1)))
        have HR4 : Hid (Rdr (w3.setCell ⟨rb, 1, none⟩ (.int .i64 ((q3 : Int) + 1))) rb s (q3 + 1) a.2.1) := Lib.hid (HR3.out.moved 0 (q3 + 1) (by omega))
        have HV4 : Hid (IsS (w3.setCell ⟨rb, 1, none⟩ (.int .i64 ((q3 : Int) + 1))) (fun b => w1.heap.size ≤ b) a.1 (.slice A3 a.1.length ca3)) := Lib.hid (HV3.out.keep (HX4.out.keeps fun b hb e => Nat.lt_irrefl _ (Nat.lt_of_lt_of_le (Nat.lt_trans hrbw hsz1) (e ▸ hb))))
        have HW3 := Lib.hid (show w1.heap.size ≤ (w3.setCell ⟨rb, 1, none⟩ (.int .i64 ((q3 : Int) + 1))).heap.size from Nat.le_trans HBI.out.size HX4.out.size)
        have HB4 : Hid (But (· = rb) w (w3.setCell ⟨rb, 1, none⟩ (.int .i64 ((q3 : Int) + 1)))) := Lib.hid (HB3.out.trans HX4.out)
        have hk4 : (w3.setCell ⟨rb, 1, none⟩ (.int .i64 ((q3 : Int) + 1))).heap[w.heap.size]? = some (.cells #[.int .i64 0, .int .i64 0, .string ⟨#[]⟩, .slice none 0 0] 24 (0, 0)) := ((HBI.out.trans HX4.out).block w.heap.size hsz1 (Nat.ne_of_gt hrbw)).trans hb1
        have HK4 := Lib.hid hk4
        have HS3 := Lib.hid hs3
        clear hk4 hs3 hb1 a0 a1 a2 g1 g2 c0 c1 c2 f1 f2 hm hm2 hm3 hm4 HX4 HR3 HV3 HBI HB3
        generalize w3.setCell ⟨rb, 1, none⟩ (.int .i64 ((q3 : Int) + 1)) = w4 at HR4 HV4 HW3 HB4 HK4 ⊢
        obtain ⟨A3', ca3', he3, _, hl3l, hA4⟩ := HV4.out
        obtain ⟨he3a, he3b⟩ : A3 = A3' ∧ ca3 = ca3' := by injection he3 with e1 e2 e3; exact ⟨e1, e3⟩
        subst he3a he3b
        have HA4 : Hid (LA w4 (fun b => b < w4.heap.size) a.1 A3) := Lib.hid (hA4.keep fun b hb _ => ⟨hb, rfl⟩)
        clear hA4 he3
        obtain ⟨base, hbase⟩ : ∃ base, w4.heap.size = base := ⟨_, rfl⟩
        rw [hbase] at HA4
        have HBS := Lib.hid hbase
        clear hbase
        obtain ⟨LL, hLL⟩ : ∃ LL, a.1.length = LL := ⟨_, rfl⟩
        have HLL := Lib.hid hLL
        rw [hLL] at hca3 hl32 hl3l HM ⊢
        clear hLL
        go_loopw [7, 8] (fun v7 vi wr => ∃ (j i : Nat) (L : List V), vi = .int .i64 j ∧ j ≤ LL ∧ Hid (j = 2 * i) ∧ Hid (L = a.1.take j) ∧ Hid (OwnP wr base (fun b => b < base) L i v7) ∧ Hid (Below w4.heap.size w4 wr)) (fun _ vi _ => LL - (intOf vi).toNat)
        case atStart => exact ⟨0, 0, [], rfl, Nat.zero_le _, Lib.hid rfl, Lib.hid rfl, Lib.hid (OwnP.nil _ _ _), Lib.hid (Below.refl _ _)⟩
        case round =>
          obtain ⟨j, i, L, rfl, hjl, hji, hL, hO, hbr⟩ := hrel
          by_cases hlt : j < LL
          · have hz : (j : Int) < (LL : Int) := by omega
            have hj1 : j + 1 < LL := by have := hji.out; have := HM.out; omega
            obtain ⟨j1, hj1e⟩ : ∃ j1, j1 = j + 1 := ⟨_, rfl⟩
            have hjz : IntKind.i64.wrap ((j : Int) + 1) = (j1 : Int) := by rw [show (j : Int) + 1 = (j1 : Int) by omega]; exact IntWalk.i64_in _ (by omega)
            have hj1z : (j1 : Int) < (LL : Int) := by omega
            have HJ1 := Lib.hid hj1e
            clear hj1e
            obtain ⟨ad, A1, c1, had, hla', hbd1, f0, f1, f2, f3, hc1, hA1⟩ := (HA4.out.below hbr.out).at j (by have := HLL.out; omega)
            obtain ⟨ad', A2, c2, had2, hlb', hbd2, g0, g1, g2, g3, hc2, hA2⟩ := (HA4.out.below hbr.out).at j1 (by have := HLL.out; have := HJ1.out; omega)
            subst had
            obtain rfl : ad = ad' := by injection had2
            obtain ⟨X, hXe⟩ : ∃ X, itemAt a.1 j = X := ⟨_, rfl⟩
            obtain ⟨Y, hYe⟩ : ∃ Y, itemAt a.1 j1 = Y := ⟨_, rfl⟩
            have hT2 : a.1.take (j + 2) = L ++ [X, Y] := by
              have h2 := take_two (l := a.1) (i := i) (by have := hji.out; have := HLL.out; omega)
              rw [← hji.out, show 2 * (i + 1) = j + 2 by have := hji.out; omega, ← HJ1.out, hXe, hYe, ← hL.out] at h2
              exact h2
            have HT2 := Lib.hid hT2
            have hX := IsV.mk hbd1 hc1 hA1
            have hY := IsV.mk hbd2 hc2 hA2
            rw [hXe] at f0 f1 f2 f3 hX
            rw [hYe] at g0 g1 g2 g3 hY
            clear hXe hYe hT2 had2 hbd1 hbd2 hc1 hc2 hA1 hA2
            have hbs7 : base ≤ wr.drew.heap.size := by have := HBS.out; have := hbr.out.size; show base ≤ wr.heap.size; omega
            obtain ⟨A8, c8, hv6, h8⟩ := hO.out.form
            subst hv6
            have hown := hO.out.own_lt
            have HX7 : Hid (VC wr.drew (fun b => b < base ∧ some b ≠ (Value.slice A8 i c8).ownBlock) X [.int .i64 X.kind, .int .i64 X.num, .string X.text, .slice A1 X.items.length c1]) := Lib.hid (by
              obtain ⟨c, h1, h2⟩ := hX
              have h3 : c = [.int .i64 X.kind, .int .i64 X.num, .string X.text, .slice A1 X.items.length c1] := by injection h2 with h2; exact (Array.toList_inj.2 h2).symm
              rw [← h3]
              exact (h1.keep (Keeps.drew (S := _))).keep (Keeps.weak fun b hb => ⟨hb, fun e => by have := (hown b e.symm).1; omega⟩))
            have HY7 : Hid (VC wr.drew (fun b => b < base ∧ some b ≠ (Value.slice A8 i c8).ownBlock) Y [.int .i64 Y.kind, .int .i64 Y.num, .string Y.text, .slice A2 Y.items.length c2]) := Lib.hid (by
              obtain ⟨c, h1, h2⟩ := hY
              have h3 : c = [.int .i64 Y.kind, .int .i64 Y.num, .string Y.text, .slice A2 Y.items.length c2] := by injection h2 with h2; exact (Array.toList_inj.2 h2).symm
              rw [← h3]
              exact (h1.keep (Keeps.drew (S := _))).keep (Keeps.weak fun b hb => ⟨hb, fun e => by have := (hown b e.symm).1; omega⟩))
            clear hX hY h8 hown
            have HI6 := Lib.hid (show i ≤ 65536 by have := hji.out; have := HM.out; omega)
            have hbs6 : w4.heap.size ≤ wr.drew.heap.size := by have := HBS.out; omega
            have HO7 : Hid (OwnP wr.drew base (fun b => b < base) L i (.slice A8 i c8)) := Lib.hid (hO.out.keep Keeps.drew (fun k _ => rfl))
            have HBD : Hid (Below w4.heap.size w4 wr.drew) := Lib.hid hbr.out.drew
            go_wp2_with fail
            go_region_law (refine step_pair (W := wr.drew) base (fun b => b < base) rfl (.tmp 49) (.tmp 60) rfl (.slice A8 i c8) L i X Y (.int .i64 X.kind) (.int .i64 X.num) (.string X.text) (.slice A1 X.items.length c1) (.int .i64 Y.kind) (.int .i64 Y.num) (.string Y.text) (.slice A2 Y.items.length c2) (by simp [Act.eval, Act.put]) (by simp [Act.eval, Act.put]) HO7.out HX7.out HY7.out hbs7 HI6.out ?_; intro v1 w8 hO8 hg8; have HB8 := Lib.hid (HBD.out.grown hg8 hbs6 (fun k e => by have h1 := (HO7.out.own_lt k e).1; have h2 := HBS.out; omega)); have HO8 := Lib.hid hO8; clear hO8 hg8)
            all_goals go_wp2_with fail
            all_goals exact ⟨⟨j + 2, i + 1, L ++ [X, Y], by simp, by omega, Lib.hid (by have := hji.out; omega), Lib.hid HT2.out.symm, HO8, HB8⟩, by
              show LL - ((j : Int) + 2).toNat < LL - ((j : Int)).toNat
              omega⟩
          · have hz : ¬ (j : Int) < (LL : Int) := by omega
            have hjd : decide ((j : Int) < (LL : Int)) = false := decide_eq_false hz
            have hi : i = m := by have := hji.out; have := HM.out; omega
            have hLe : L = a.1 := by rw [hL.out]; exact List.take_of_length_le (by have := HLL.out; omega)
            subst hi hLe
            obtain ⟨A8, c8, hv6, h8⟩ := hO.out.form
            subst hv6
            have HSP : Hid (IsSP wr (fun _ => True) a.1 i (.slice A8 i c8)) := Lib.hid (hO.out.row.is (fun _ _ => trivial) (fun _ _ => trivial))
            have HRr : Hid (Rdr wr rb s (q3 + 1) a.2.1) := Lib.hid (HR4.out.keep hbr.out)
            have HMC := map_calls a.1 i _ wr (fun _ => True) HSP.out HRr.out.tabs (by have := HLL.out; omega)
            have HKr := Lib.hid (blockB hbr.out HK4.out)
            have HBr := Lib.hid (HB4.out.trans (But.of hbr.out))
            have HWr := Lib.hid (show w1.heap.size ≤ wr.heap.size from Nat.le_trans HW3.out hbr.out.size)
            clear h8 HA4 hO hL HSP HR4 HV4 HK4 HB4 HW3 hl3l hca3 hl32 hbr
            have HMC : Hid (Calls Tryz.prog 57 #[.slice A8 i c8] wr fun e w' => ∃ v x er, e = .returned (.tuple #[v, .int .i64 er]) ∧ IsV w' (fun b => wr.heap.size ≤ b) x v ∧ Below wr.heap.size wr w' ∧ x.items.length < LL) := Lib.hid (HMC.mono (by
              rintro e w' ⟨v, x, er, h1, h2, h3, h4⟩
              rcases h4 with ⟨h4, _⟩ | ⟨_, h4⟩
              · exact absurd h4 HOK.out
              · exact ⟨v, x, er, h1, h2, h3, by rw [← HLL.out]; exact h4⟩))
            go_wp2_with (first
              | (go_at_call 57; refine HMC.out.mono ?_; rintro e w5 ⟨v5, x5, er5, rfl, hv5, hb5, hxl⟩; obtain ⟨hbd5, A5, c5, rfl, hc5, hA5⟩ := hv5.eq; have HB5 := Lib.hid (HBr.out.trans (But.of hb5)); clear hv5 hA5)
              | (go_at_call 25; refine (fail_calls _ _ _ _).mono ?_; rintro e w8 ⟨rfl, rfl⟩))
            exact ⟨rfl, rfl, HB5.out.trans (But.of ((Below.refl _ _).alloc (Nat.le_refl _) _))⟩
end Go.Proofs.YtoiipdknamgcmaaGreatDoor
