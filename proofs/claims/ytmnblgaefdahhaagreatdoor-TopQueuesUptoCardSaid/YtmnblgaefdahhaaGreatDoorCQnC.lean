/- Right values: the world grows, and no draw is taken back (written by mkBd.py). -/
import Derived.Test.YtmnblgaefdahhaaGreatDoorCQnB

set_option linter.unusedVariables false
set_option linter.unusedSimpArgs false
namespace Go.Proofs.YtmnblgaefdahhaaGreatDoor
open Go.RowKit Go.Shelf
attribute [local go_sem] lt_succ_of

set_option maxHeartbeats 1000000 in
set_option maxRecDepth 100000 in
theorem countd_calls (x : V) : ∀ (deep most : Int) (vx : Value) (w : World) (S : Nat → Prop) (hx : IsV w S x vx) (hT : Lib.Utf8Tabs 1 2 w) (hd : 0 ≤ deep) (hd2 : deep ≤ 16) (hm : -4294967296 ≤ most) (hm2 : most ≤ 1024) (hgood : okIn x deep most),
    Calls Tryz.prog 58 #[vx, .int .i64 deep, .int .i64 most] w fun e w' => e = .returned (.int .i64 (V.size x)) ∧ Bd w w' := by
  induction x using V.induct with
  | h x ih =>
  intro deep most vx w S hx hT hd hd2 hm hm2 hgood
  have HPOS : Hid (countV x deep most ≠ 0) := Lib.hid (by have := (countV_zero x deep most); intro h; exact this.1 h hgood)
  have HSZ : Hid (((V.size x : Nat) : Int) = countV x deep most) := Lib.hid (by unfold countV; rw [if_pos hgood])
  clear hgood
  obtain ⟨hbx, A, ca, rfl, hca, hA⟩ := hx.eq
  have IH := Lib.hid ih
  have HT := Lib.hid hT
  have hl1 := hbx.l1
  have HX := Lib.hid hx
  clear ih hT hx
  have hiff := okIn_iff x deep most hd
  obtain ⟨CX, hCX⟩ : ∃ c, countV x deep most = c := ⟨_, rfl⟩
  rw [hCX] at HPOS HSZ
  rw [HSZ.out]
  obtain ⟨w1, hw1, hB1, hsz, hb0⟩ := box1d w (.int .i64 x.kind) (.int .i64 x.num) (.string x.text) (.slice A x.items.length ca) 39
  obtain ⟨a0, a1, a2, a3⟩ := block4 hb0
  clear hb0
  have hlen := length_sizes x.items
  by_cases h1 : most < 1
  · have HC : Hid (CX = 0) := Lib.hid (by rw [← hCX, countV_zero, hiff]; omega)
    exact absurd HC.out HPOS.out
  · by_cases h2 : most ≤ x.items.length
    · have HC : Hid (CX = 0) := Lib.hid (by rw [← hCX, countV_zero, hiff]; unfold okInL; omega)
      exact absurd HC.out HPOS.out
    · by_cases h3 : 0 < x.items.length ∧ deep = 0
      · have HC : Hid (CX = 0) := Lib.hid (by rw [← hCX, countV_zero, hiff]; omega)
        exact absurd HC.out HPOS.out
      · have cs : (¬ 0 < x.items.length) ∨ (0 < x.items.length ∧ (deep == 0) = false) := by
          by_cases h0 : 0 < x.items.length
          · exact .inr ⟨h0, by simp; omega⟩
          · exact .inl h0
        have hdl : 0 < x.items.length → 1 ≤ deep := by omega
        have HDL := Lib.hid hdl
        clear hdl h3
        have hok : okB x = (plainB x && formB x) := rfl
        cases hp : plainB x with
        | false =>
          rw [hp] at hok
          have HC : Hid (CX = 0) := Lib.hid (by rw [← hCX, countV_zero, hiff, hok]; simp)
          exact absurd HC.out HPOS.out
        | true =>
          rw [hp] at hok
          have HP := Lib.hid (plaind_calls x _ w1 S (HX.out.below hB1.below) hp (tabs_d HT.out hB1))
          have HIFF := Lib.hid hiff
          have HCX := Lib.hid hCX
          have HOK := Lib.hid hok
          clear hCX hiff hp hok
          rcases cs with c1 | ⟨c1, c2⟩
          all_goals
            go_enter Tryz.func58, Tryz.ntmps58
            go_wp2_with (go_at_call 72; refine HP.out.mono ?_; rintro e w2 ⟨rfl, hb2⟩; have a3' := cellD hb2 a3; have a0' := cellD hb2 a0; have a1' := cellD hb2 a1; have a2' := cellD hb2 a2)
            have hB2 := Bd.trans hB1 hb2
            have hs2 : w.heap.size < w2.heap.size := by have := hb2.size; omega
            clear a0 a1 a2 a3 hw1 hb2
            go_loopw [7, 38] (fun a b wr => ∃ i N : Nat, a = .int .i64 N ∧ b = .int .i64 i ∧ i ≤ x.items.length ∧ Hid (N = 1 + V.sizes (x.items.take i)) ∧ (N : Int) ≤ most ∧ Hid (okInL (x.items.take i) (deep - 1) (most - 1)) ∧ Bd w2 wr) (fun _ b _ => x.items.length - (intOf b).toNat)
            case atStart => exact ⟨0, 1, rfl, rfl, by omega, Lib.hid (by simp [V.sizes]), by omega, Lib.hid (okInL_zero _ (by omega)), Bd.refl _⟩
            case round =>
              obtain ⟨i, N, rfl, rfl, hi, hN, hNm, hOI, hbr⟩ := hrel
              clear c1
              have hf := Bd.trans hB2 hbr
              have hA' := hA.below hf.below
              have r0 := cellD hbr a0'
              have r1 := cellD hbr a1'
              have r2 := cellD hbr a2'
              have r3 := cellD hbr a3'
              have hsr : w.heap.size < wr.heap.size := by have := hbr.size; omega
              clear a0' a1' a2' a3' hA
              by_cases hlt : i < x.items.length
              · have hdp : 1 ≤ deep := HDL.out (by omega)
                obtain ⟨ad, A1, cap1, rfl, hla, hbd, f0, f1, f2, f3, hl, hLA⟩ := hA'.at i hlt
                have hX := IsV.mk hbd hl hLA
                have htk := okInL_take hlt (deep - 1) (most - 1)
                have hst := sizes_take hlt
                by_cases hok : okIn (itemAt x.items i) (deep - 1) (most - N)
                · have e : countV (itemAt x.items i) (deep - 1) (most - N) = ((V.size (itemAt x.items i) : Nat) : Int) := by unfold countV; rw [if_pos hok]
                  have HK := fun (w' : World) (hb' : Bd wr w') => IH.out _ (itemAt_mem hlt) (deep - 1) (most - N) _ w' S (hX.below hb'.below) (tabs_d HT.out (Bd.trans hf hb')) (by omega) (by omega) (by omega) (by omega) hok
                  have hpos := V.size_pos (itemAt x.items i)
                  have hne : (((V.size (itemAt x.items i) : Nat) : Int) == 0) = false := by simp; omega
                  have hle : (V.size (itemAt x.items i) : Int) ≤ most - N := hok.2.2
                  have HN2 : Hid (N + V.size (itemAt x.items i) = 1 + V.sizes (x.items.take (i + 1))) := Lib.hid (by rw [hst]; have := hN.out; omega)
                  have HO2 : Hid (okInL (x.items.take (i + 1)) (deep - 1) (most - 1)) := Lib.hid (htk.2 ⟨⟨hOI.out.1, hOI.out.2.1, by have := hN.out; omega⟩, by
                    have h5 : most - 1 - (V.sizes (x.items.take i) : Int) = most - N := by have := hN.out; omega
                    rw [h5]; exact hok⟩)
                  have HK := Lib.hid HK
                  clear e hok htk hst
                  go_wp2_with (go_at_call 58; refine (HK.out _ (Bd.box _ _)).mono ?_; rintro e w3 ⟨rfl, hb3⟩)
                  go_roundw
                  case rel => exact ⟨i + 1, N + V.size (itemAt x.items i), by go_num, by go_num, by omega, HN2, by omega, HO2, Bd.trans hbr ((Bd.box _ _).trans hb3)⟩
                  case measure => simp [intOf]; omega
                · have e : countV (itemAt x.items i) (deep - 1) (most - N) = 0 := (countV_zero _ _ _).2 hok
                  have HC : Hid (CX = 0) := Lib.hid (by
                    rw [← HCX.out, countV_zero, HIFF.out]
                    rintro ⟨_, _, h6, _⟩
                    have h7 := (htk.1 (okInL_prefix h6)).2
                    have h5 : most - 1 - (V.sizes (x.items.take i) : Int) = most - N := by have := hN.out; omega
                    rw [h5] at h7
                    exact hok h7)
                  exact absurd HC.out HPOS.out
              · have he : i = x.items.length := by omega
                have HF := formd_calls x _ wr S (HX.out.below hf.below)
                have HE := Lib.hid he
                clear he
                cases hfo : formB x with
                | true =>
                  rw [hfo] at HF
                  have HF := Lib.hid HF
                  have HC : Hid (CX = N) := Lib.hid (by
                    rw [← HCX.out]
                    unfold countV
                    have h8 := hOI.out
                    rw [HE.out, okInL_all] at h8
                    have h9 := hN.out
                    rw [HE.out, List.take_length] at h9
                    rw [if_pos (HIFF.out.2 ⟨by rw [HOK.out, hfo]; rfl, (by by_cases h0 : 0 < x.items.length; exact .inr (by have := HDL.out h0; omega); exact .inl (by omega)), h8, by omega⟩), size_eq, h9])
                  clear hfo
                  go_wp2_with (go_at_call 73; refine HF.out.mono ?_; rintro e w3 ⟨rfl, hb3⟩)
                  go_ret
                  exact ⟨ret_i HC.out.symm, Bd.trans hf hb3⟩
                | false =>
                  rw [hfo] at HF
                  have HF := Lib.hid HF
                  have HC : Hid (CX = 0) := Lib.hid (by
                    rw [← HCX.out, countV_zero, HIFF.out, HOK.out, hfo]
                    simp)
                  exact absurd HC.out HPOS.out
theorem rightd_calls (x : V) (vx : Value) (w : World) (S : Nat → Prop) (hx : IsV w S x vx) (hT : Lib.Utf8Tabs 1 2 w) (hr : rightB x = true) :
    Calls Tryz.prog 42 #[vx] w fun e w' => e = .returned (.bool true) ∧ Bd w w' := by
  obtain ⟨hbx, A, ca, rfl, hca, hA⟩ := hx.eq
  obtain ⟨w1, hw1, hB1, hsz, hb0⟩ := box1d w (.int .i64 x.kind) (.int .i64 x.num) (.string x.text) (.slice A x.items.length ca) 39
  obtain ⟨a0, a1, a2, a3⟩ := block4 hb0
  clear hb0
  have HC := Lib.hid (countd_calls x 16 1024 _ w1 S (hx.below hB1.below) (tabs_d hT hB1) (by omega) (by omega) (by omega) (by omega) (of_decide_eq_true hr))
  clear hx hT
  have HR := Lib.hid (V.size_pos x)
  go_enter Tryz.func42, Tryz.ntmps42
  go_wp2_with (go_at_call 58; refine HC.out.mono ?_; rintro e w2 ⟨rfl, hb2⟩)
  go_ret
  exact ⟨ret_b (decide_eq_true (by have := HR.out; omega)), Bd.trans hB1 hb2⟩
theorem checkd_calls (x : V) (vx : Value) (w : World) (S : Nat → Prop) (hx : IsV w S x vx) (hT : Lib.Utf8Tabs 1 2 w) (hr : rightB x = true) :
    Calls Tryz.prog 24 #[vx] w fun e w' => e = .returned (.int .i64 0) ∧ Bd w w' := by
  obtain ⟨hbx, A, ca, rfl, hca, hA⟩ := hx.eq
  obtain ⟨w1, hw1, hB1, hsz, hb0⟩ := box1d w (.int .i64 x.kind) (.int .i64 x.num) (.string x.text) (.slice A x.items.length ca) 39
  obtain ⟨a0, a1, a2, a3⟩ := block4 hb0
  clear hb0
  have HC := Lib.hid (rightd_calls x _ w1 S (hx.below hB1.below) (tabs_d hT hB1) hr)
  clear hx hT hr
  go_enter Tryz.func24, Tryz.ntmps24
  go_wp2_with (go_at_call 42; refine HC.out.mono ?_; rintro e w2 ⟨rfl, hb2⟩)
  go_ret
  exact ⟨rfl, Bd.trans hB1 hb2⟩
end Go.Proofs.YtmnblgaefdahhaaGreatDoor
