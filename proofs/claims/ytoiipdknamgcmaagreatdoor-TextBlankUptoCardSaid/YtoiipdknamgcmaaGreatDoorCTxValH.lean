/- The reference's right values. -/
import Derived.Test.YtoiipdknamgcmaaGreatDoorCValF

set_option linter.unusedVariables false
set_option linter.unusedSimpArgs false
namespace Go.Proofs.YtoiipdknamgcmaaGreatDoor
open Go.RowKit Go.Shelf
attribute [local go_sem] lt_succ_of

theorem fits_bad {x : V} {d m : Int} (h : ¬ okIn x d m) : fitsV x d m = -1 := by unfold fitsV; rw [if_neg h]
set_option maxHeartbeats 1000000 in
set_option maxRecDepth 100000 in
theorem fits_calls (x : V) : ∀ (deep most : Int) (vx : Value) (w : World) (S : Nat → Prop) (hx : IsV w S x vx) (hd : 0 ≤ deep) (hd2 : deep ≤ 16) (hm : -4294967296 ≤ most) (hm2 : most ≤ 1024),
    Calls Tryz.prog 32 #[vx, .int .i64 deep, .int .i64 most] w fun e w' => e = .returned (.int .i64 (fitsV x deep most)) ∧ Below w.heap.size w w' := by
  induction x using V.induct with
  | h x ih =>
  intro deep most vx w S hx hd hd2 hm hm2
  obtain ⟨hbx, A, ca, rfl, hca, hA⟩ := hx.eq
  have IH := Lib.hid ih
  have hl1 := hbx.l1
  have HX := Lib.hid hx
  clear ih hx
  have hiff := okIn_iff x deep most hd
  obtain ⟨CX, hCX⟩ : ∃ c, fitsV x deep most = c := ⟨_, rfl⟩
  rw [hCX]
  obtain ⟨w1, hw1, hB1, hsz, hb0⟩ := box1 w (.int .i64 x.kind) (.int .i64 x.num) (.string x.text) (.slice A x.items.length ca) 24
  obtain ⟨a0, a1, a2, a3⟩ := block4 hb0
  clear hb0
  have hlen := length_sizes x.items
  by_cases h1 : most < 1
  · have HC : Hid (CX = -1) := Lib.hid (by rw [← hCX]; refine fits_bad ?_; rw [hiff]; omega)
    clear hCX hiff
    go_enter Tryz.func32, Tryz.ntmps32
    go_wp2_with fail
    go_ret
    exact ⟨ret_i HC.out.symm, hB1⟩
  · by_cases h3 : 0 < x.items.length ∧ deep = 0
    · have HC : Hid (CX = -1) := Lib.hid (by rw [← hCX]; refine fits_bad ?_; rw [hiff]; omega)
      obtain ⟨h4, rfl⟩ := h3
      clear hCX hiff
      go_enter Tryz.func32, Tryz.ntmps32
      go_wp2_with fail
      go_ret
      exact ⟨ret_i HC.out.symm, hB1⟩
    · have cs : (¬ 0 < x.items.length) ∨ (0 < x.items.length ∧ (deep == 0) = false) := by
        by_cases h0 : 0 < x.items.length
        · exact .inr ⟨h0, by simp; omega⟩
        · exact .inl h0
      have hdl : 0 < x.items.length → 1 ≤ deep := by omega
      have HDL := Lib.hid hdl
      clear hdl h3
      by_cases h2 : most < x.items.length
      · have HC : Hid (CX = -1) := Lib.hid (by rw [← hCX]; refine fits_bad ?_; rw [hiff]; unfold okInL; omega)
        clear hCX hiff
        rcases cs with c1 | ⟨c1, c2⟩
        · exfalso
          omega
        · go_enter Tryz.func32, Tryz.ntmps32
          go_wp2_with fail
          go_ret
          exact ⟨ret_i HC.out.symm, hB1⟩
      · have HIFF := Lib.hid hiff
        have HCX := Lib.hid hCX
        clear hCX hiff
        rcases cs with c1 | ⟨c1, c2⟩
        all_goals
          go_enter Tryz.func32, Tryz.ntmps32
          go_wp2_with fail
          have hw1 := Lib.hid hw1
          go_loopw [7, 33] (fun a b wr => ∃ i N : Nat, a = .int .i64 N ∧ b = .int .i64 i ∧ i ≤ x.items.length ∧ Hid (N = 1 + V.sizes (x.items.take i)) ∧ (N : Int) ≤ most ∧ Hid (okInL (x.items.take i) (deep - 1) (most - 1)) ∧ Below w1.heap.size w1 wr) (fun _ b _ => x.items.length - (intOf b).toNat)
          case atStart => exact ⟨0, 1, rfl, rfl, by omega, Lib.hid (by simp [V.sizes]), by omega, Lib.hid (okInL_zero _ (by omega)), Below.refl _ _⟩
          case round =>
            obtain ⟨i, N, rfl, rfl, hi, hN, hNm, hOI, hbr⟩ := hrel
            clear c1
            have hf := below_then hB1 hB1.size hbr
            have hA' := hA.below hf
            have r0 := cellB hbr a0
            have r1 := cellB hbr a1
            have r2 := cellB hbr a2
            have r3 := cellB hbr a3
            have hsr : w.heap.size < wr.heap.size := by have := hbr.size; omega
            clear a0 a1 a2 a3 hA
            by_cases hlt : i < x.items.length
            · have hdp : 1 ≤ deep := HDL.out (by omega)
              obtain ⟨ad, A1, cap1, rfl, hla, hbd, f0, f1, f2, f3, hl, hLA⟩ := hA'.at i hlt
              have hX := IsV.mk hbd hl hLA
              have HK := fun (w' : World) (hb' : Below wr.heap.size wr w') => IH.out _ (itemAt_mem hlt) (deep - 1) (most - N) _ w' S (hX.below hb') (by omega) (by omega) (by omega) (by omega)
              have htk := okInL_take hlt (deep - 1) (most - 1)
              have hst := sizes_take hlt
              by_cases hok : okIn (itemAt x.items i) (deep - 1) (most - N)
              · have e : fitsV (itemAt x.items i) (deep - 1) (most - N) = ((V.size (itemAt x.items i) : Nat) : Int) := by unfold fitsV; rw [if_pos hok]
                rw [e] at HK
                have hpos := V.size_pos (itemAt x.items i)
                have hle : (V.size (itemAt x.items i) : Int) ≤ most - N := hok.2.2
                have HN2 : Hid (N + V.size (itemAt x.items i) = 1 + V.sizes (x.items.take (i + 1))) := Lib.hid (by rw [hst]; have := hN.out; omega)
                have HO2 : Hid (okInL (x.items.take (i + 1)) (deep - 1) (most - 1)) := Lib.hid (htk.2 ⟨⟨hOI.out.1, hOI.out.2.1, by have := hN.out; omega⟩, by
                  have h5 : most - 1 - (V.sizes (x.items.take i) : Int) = most - N := by have := hN.out; omega
                  rw [h5]; exact hok⟩)
                have HK := Lib.hid HK
                clear e hok htk hst
                go_wp2_with (go_at_call 32; refine (HK.out _ ((Below.refl _ _).alloc (Nat.le_refl _) _)).mono ?_; rintro e w3 ⟨rfl, hb3⟩)
                go_roundw
                case rel => exact ⟨i + 1, N + V.size (itemAt x.items i), by go_num, by go_num, by omega, HN2, by omega, HO2, below_then hbr hbr.size (below_then ((Below.refl _ _).alloc (Nat.le_refl _) _) (by simp) hb3)⟩
                case measure => simp [intOf]; omega
              · have e : fitsV (itemAt x.items i) (deep - 1) (most - N) = -1 := fits_bad hok
                rw [e] at HK
                have HC : Hid (CX = -1) := Lib.hid (by
                  rw [← HCX.out]
                  refine fits_bad ?_
                  rw [HIFF.out]
                  rintro ⟨_, _, h6, _⟩
                  have h7 := (htk.1 (okInL_prefix h6)).2
                  have h5 : most - 1 - (V.sizes (x.items.take i) : Int) = most - N := by have := hN.out; omega
                  rw [h5] at h7
                  exact hok h7)
                have HK := Lib.hid HK
                clear e hok htk hst
                go_wp2_with (go_at_call 32; refine (HK.out _ ((Below.refl _ _).alloc (Nat.le_refl _) _)).mono ?_; rintro e w3 ⟨rfl, hb3⟩)
                go_ret
                exact ⟨ret_i HC.out.symm, below_then hf hf.size (below_then ((Below.refl _ _).alloc (Nat.le_refl _) _) (by simp) hb3)⟩
            · have he : i = x.items.length := by omega
              have HF := refown_calls x _ wr S (HX.out.below hf)
              have HE := Lib.hid he
              clear he
              cases hfo : okB x with
              | true =>
                rw [hfo] at HF
                have HF := Lib.hid HF
                have HC : Hid (CX = N) := Lib.hid (by
                  rw [← HCX.out]
                  unfold fitsV
                  have h8 := hOI.out
                  rw [HE.out, okInL_all] at h8
                  have h9 := hN.out
                  rw [HE.out, List.take_length] at h9
                  rw [if_pos (HIFF.out.2 ⟨hfo, (by by_cases h0 : 0 < x.items.length; exact .inr (by have := HDL.out h0; omega); exact .inl (by omega)), h8, by omega⟩), size_eq, h9])
                clear hfo
                go_wp2_with (go_at_call 51; refine HF.out.mono ?_; rintro e w3 ⟨rfl, hb3⟩)
                go_ret
                exact ⟨ret_i HC.out.symm, below_then hf hf.size hb3⟩
              | false =>
                rw [hfo] at HF
                have HF := Lib.hid HF
                have HC : Hid (CX = -1) := Lib.hid (by
                  rw [← HCX.out]
                  refine fits_bad ?_
                  rw [HIFF.out, hfo]
                  simp)
                clear hfo
                go_wp2_with (go_at_call 51; refine HF.out.mono ?_; rintro e w3 ⟨rfl, hb3⟩)
                go_ret
                exact ⟨ret_i HC.out.symm, below_then hf hf.size hb3⟩

theorem rightref_calls (x : V) (vx : Value) (w : World) (S : Nat → Prop) (hx : IsV w S x vx) :
    Calls Tryz.prog 17 #[vx] w fun e w' => e = .returned (.bool (rightB x)) ∧ Below w.heap.size w w' := by
  obtain ⟨hbx, A, ca, rfl, hca, hA⟩ := hx.eq
  obtain ⟨w1, hw1, hB1, hsz, hb0⟩ := box1 w (.int .i64 x.kind) (.int .i64 x.num) (.string x.text) (.slice A x.items.length ca) 24
  obtain ⟨a0, a1, a2, a3⟩ := block4 hb0
  clear hb0
  have HC := Lib.hid (fits_calls x 16 1024 _ w1 S (hx.below hB1) (by omega) (by omega) (by omega) (by omega))
  clear hx
  have HR := Lib.hid (rightB_fits x)
  go_enter Tryz.func17, Tryz.ntmps17
  go_wp2_with (go_at_call 32; refine HC.out.mono ?_; rintro e w2 ⟨rfl, hb2⟩)
  go_ret
  exact ⟨ret_b HR.out, below_then hB1 hB1.size hb2⟩

end Go.Proofs.YtoiipdknamgcmaaGreatDoor
