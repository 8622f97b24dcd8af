/- Right values: the program's count, the reference's fits, and what stands upon them. Right values and lists of them, in the program and in the reference. -/
import Derived.Test.YtmnblgaefdahhaaGreatDoorCValD
/- Right values: the program's count, the reference's fits, and what stands upon them. -/
set_option linter.unusedVariables false
set_option linter.unusedSimpArgs false
namespace Go.Proofs.YtmnblgaefdahhaaGreatDoor
open Go.RowKit Go.Shelf
attribute [local go_sem] lt_succ_of

/-- What the loop over the items knows at place i: all that went by is right, and n parts are counted. -/
theorem okInL_all {l : List V} {d m : Int} : okInL (l.take l.length) d m ↔ okInL l d m := by rw [List.take_length]
theorem okInL_zero (l : List V) {d m : Int} (h : 0 ≤ m) : okInL (l.take 0) d m := by
  rw [List.take_zero]
  exact ⟨by simp [okAlls], by simp, by simpa [V.sizes] using h⟩
theorem okInL_prefix {l : List V} {d m : Int} {i : Nat} (h : okInL l d m) : okInL (l.take i) d m := by
  obtain ⟨h1, h2, h3⟩ := h
  have h0 : ∀ a b : List V, okAlls (a ++ b) = (okAlls a && okAlls b) := by
    intro a b
    induction a with
    | nil => simp [okAlls]
    | cons x xs ih => simp only [List.cons_append, okAlls, ih, Bool.and_assoc]
  have h4 : ∀ a b : List V, V.sizes (a ++ b) = V.sizes a + V.sizes b := by
    intro a b
    induction a with
    | nil => simp [V.sizes]
    | cons x xs ih => simp only [List.cons_append, V.sizes, ih]; omega
  have e := List.take_append_drop i l
  rw [← e, h0, Bool.and_eq_true] at h1
  rw [← e, h4] at h3
  exact ⟨h1.1, fun x hx => h2 x (List.mem_of_mem_take hx), by omega⟩

set_option maxHeartbeats 1000000 in
set_option maxRecDepth 100000 in
theorem count_calls (x : V) : ∀ (deep most : Int) (vx : Value) (w : World) (S : Nat → Prop) (hx : IsV w S x vx) (hT : Lib.Utf8Tabs 1 2 w) (hd : 0 ≤ deep) (hd2 : deep ≤ 16) (hm : -4294967296 ≤ most) (hm2 : most ≤ 1024),
    Calls Tryz.prog 58 #[vx, .int .i64 deep, .int .i64 most] w fun e w' => e = .returned (.int .i64 (countV x deep most)) ∧ Below w.heap.size w w' := by
  induction x using V.induct with
  | h x ih =>
  intro deep most vx w S hx hT hd hd2 hm hm2
  obtain ⟨hbx, A, ca, rfl, hca, hA⟩ := hx.eq
  have IH := Lib.hid ih
  have HT := Lib.hid hT
  have hl1 := hbx.l1
  have HX := Lib.hid hx
  clear ih hT hx
  have hiff := okIn_iff x deep most hd
  obtain ⟨CX, hCX⟩ : ∃ c, countV x deep most = c := ⟨_, rfl⟩
  rw [hCX]
  obtain ⟨w1, hw1, hB1, hsz, hb0⟩ := box1 w (.int .i64 x.kind) (.int .i64 x.num) (.string x.text) (.slice A x.items.length ca) 39
  obtain ⟨a0, a1, a2, a3⟩ := block4 hb0
  clear hb0
  have hlen := length_sizes x.items
  by_cases h1 : most < 1
  · have HC : Hid (CX = 0) := Lib.hid (by rw [← hCX, countV_zero, hiff]; omega)
    clear hCX hiff
    go_enter Tryz.func58, Tryz.ntmps58
    go_wp2_with fail
    go_ret
    exact ⟨ret_i HC.out.symm, hB1⟩
  · by_cases h2 : most ≤ x.items.length
    · have HC : Hid (CX = 0) := Lib.hid (by rw [← hCX, countV_zero, hiff]; unfold okInL; omega)
      clear hCX hiff
      go_enter Tryz.func58, Tryz.ntmps58
      go_wp2_with fail
      go_ret
      exact ⟨ret_i HC.out.symm, hB1⟩
    · by_cases h3 : 0 < x.items.length ∧ deep = 0
      · have HC : Hid (CX = 0) := Lib.hid (by rw [← hCX, countV_zero, hiff]; omega)
        obtain ⟨h4, rfl⟩ := h3
        clear hCX hiff
        go_enter Tryz.func58, Tryz.ntmps58
        go_wp2_with fail
        go_ret
        exact ⟨ret_i HC.out.symm, hB1⟩
      · have cs : (¬ 0 < x.items.length) ∨ (0 < x.items.length ∧ (deep == 0) = false) := by
          by_cases h0 : 0 < x.items.length
          · exact .inr ⟨h0, by simp; omega⟩
          · exact .inl h0
        have hdl : 0 < x.items.length → 1 ≤ deep := by omega
        have HDL := Lib.hid hdl
        clear hdl h3
        have HP := plain_calls x _ w1 S (HX.out.below hB1) (tabs_below HT.out hB1)
        have hok : okB x = (plainB x && formB x) := rfl
        cases hp : plainB x with
        | false =>
          rw [hp] at HP hok
          have HP := Lib.hid HP
          have HC : Hid (CX = 0) := Lib.hid (by rw [← hCX, countV_zero, hiff, hok]; simp)
          clear hCX hiff hp hok
          rcases cs with c1 | ⟨c1, c2⟩
          all_goals
            go_enter Tryz.func58, Tryz.ntmps58
            go_wp2_with (go_at_call 72; refine HP.out.mono ?_; rintro e w' ⟨rfl, hb3⟩)
            go_ret
            exact ⟨ret_i HC.out.symm, below_then hB1 hB1.size hb3⟩
        | true =>
          rw [hp] at HP hok
          have HP := Lib.hid HP
          have HIFF := Lib.hid hiff
          have HCX := Lib.hid hCX
          have HOK := Lib.hid hok
          clear hCX hiff hp hok
          rcases cs with c1 | ⟨c1, c2⟩
          all_goals
            go_enter Tryz.func58, Tryz.ntmps58
            go_wp2_with (go_at_call 72; refine HP.out.mono ?_; rintro e w2 ⟨rfl, hb2⟩; have a3' := cellB hb2 a3; have a0' := cellB hb2 a0; have a1' := cellB hb2 a1; have a2' := cellB hb2 a2)
            have hB2 := below_then hB1 hB1.size hb2
            have hs2 : w.heap.size < w2.heap.size := by have := hb2.size; omega
            clear a0 a1 a2 a3 hw1 hb2
            go_loopw [7, 38] (fun a b wr => ∃ i N : Nat, a = .int .i64 N ∧ b = .int .i64 i ∧ i ≤ x.items.length ∧ Hid (N = 1 + V.sizes (x.items.take i)) ∧ (N : Int) ≤ most ∧ Hid (okInL (x.items.take i) (deep - 1) (most - 1)) ∧ Below w2.heap.size w2 wr) (fun _ b _ => x.items.length - (intOf b).toNat)
            case atStart => exact ⟨0, 1, rfl, rfl, by omega, Lib.hid (by simp [V.sizes]), by omega, Lib.hid (okInL_zero _ (by omega)), Below.refl _ _⟩
            case round =>
              obtain ⟨i, N, rfl, rfl, hi, hN, hNm, hOI, hbr⟩ := hrel
              clear c1
              have hf := below_then hB2 hB2.size hbr
              have hA' := hA.below hf
              have r0 := cellB hbr a0'
              have r1 := cellB hbr a1'
              have r2 := cellB hbr a2'
              have r3 := cellB hbr a3'
              have hsr : w.heap.size < wr.heap.size := by have := hbr.size; omega
              clear a0' a1' a2' a3' hA
              by_cases hlt : i < x.items.length
              · have hdp : 1 ≤ deep := HDL.out (by omega)
                obtain ⟨ad, A1, cap1, rfl, hla, hbd, f0, f1, f2, f3, hl, hLA⟩ := hA'.at i hlt
                have hX := IsV.mk hbd hl hLA
                have HK := fun (w' : World) (hb' : Below wr.heap.size wr w') => IH.out _ (itemAt_mem hlt) (deep - 1) (most - N) _ w' S (hX.below hb') (tabs_below HT.out (below_then hf hf.size hb')) (by omega) (by omega) (by omega) (by omega)
                have htk := okInL_take hlt (deep - 1) (most - 1)
                have hst := sizes_take hlt
                by_cases hok : okIn (itemAt x.items i) (deep - 1) (most - N)
                · have e : countV (itemAt x.items i) (deep - 1) (most - N) = ((V.size (itemAt x.items i) : Nat) : Int) := by unfold countV; rw [if_pos hok]
                  rw [e] at HK
                  have hpos := V.size_pos (itemAt x.items i)
                  have hne : (((V.size (itemAt x.items i) : Nat) : Int) == 0) = false := by simp; omega
                  have hle : (V.size (itemAt x.items i) : Int) ≤ most - N := hok.2.2
                  have HN2 : Hid (N + V.size (itemAt x.items i) = 1 + V.sizes (x.items.take (i + 1))) := Lib.hid (by rw [hst]; have := hN.out; omega)
                  have HO2 : Hid (okInL (x.items.take (i + 1)) (deep - 1) (most - 1)) := Lib.hid (htk.2 ⟨⟨hOI.out.1, hOI.out.2.1, by have := hN.out; omega⟩, by
                    have h5 : most - 1 - (V.sizes (x.items.take i) : Int) = most - N := by have := hN.out; omega
                    rw [h5]; exact hok⟩)
                  have HK := Lib.hid HK
                  clear e hok htk hst
                  go_wp2_with (go_at_call 58; refine (HK.out _ ((Below.refl _ _).alloc (Nat.le_refl _) _)).mono ?_; rintro e w3 ⟨rfl, hb3⟩)
                  go_roundw
                  case rel => exact ⟨i + 1, N + V.size (itemAt x.items i), by go_num, by go_num, by omega, HN2, by omega, HO2, below_then hbr hbr.size (below_then ((Below.refl _ _).alloc (Nat.le_refl _) _) (by simp) hb3)⟩
                  case measure => simp [intOf]; omega
                · have e : countV (itemAt x.items i) (deep - 1) (most - N) = 0 := (countV_zero _ _ _).2 hok
                  rw [e] at HK
                  have HC : Hid (CX = 0) := Lib.hid (by
                    rw [← HCX.out, countV_zero, HIFF.out]
                    rintro ⟨_, _, h6, _⟩
                    have h7 := (htk.1 (okInL_prefix h6)).2
                    have h5 : most - 1 - (V.sizes (x.items.take i) : Int) = most - N := by have := hN.out; omega
                    rw [h5] at h7
                    exact hok h7)
                  have HK := Lib.hid HK
                  clear e hok htk hst
                  go_wp2_with (go_at_call 58; refine (HK.out _ ((Below.refl _ _).alloc (Nat.le_refl _) _)).mono ?_; rintro e w3 ⟨rfl, hb3⟩)
                  go_ret
                  exact ⟨ret_i HC.out.symm, below_then hf hf.size (below_then ((Below.refl _ _).alloc (Nat.le_refl _) _) (by simp) hb3)⟩
              · have he : i = x.items.length := by omega
                have HF := form_calls x _ wr S (HX.out.below hf)
                have HE := Lib.hid he
                clear he
                cases hfo : formB x with
                | true =>
                  rw [hfo] at HF
                  have HF := Lib.hid HF
                  have HC : Hid (CX = N) := Lib.hid (by
                    rw [← HCX.out]
                    unfold countV
                    have h8 := hOI.out
                    rw [HE.out, okInL_all] at h8
                    have h9 := hN.out
                    rw [HE.out, List.take_length] at h9
                    rw [if_pos (HIFF.out.2 ⟨by rw [HOK.out, hfo]; rfl, (by by_cases h0 : 0 < x.items.length; exact .inr (by have := HDL.out h0; omega); exact .inl (by omega)), h8, by omega⟩), size_eq, h9])
                  clear hfo
                  go_wp2_with (go_at_call 73; refine HF.out.mono ?_; rintro e w3 ⟨rfl, hb3⟩)
                  go_ret
                  exact ⟨ret_i HC.out.symm, below_then hf hf.size hb3⟩
                | false =>
                  rw [hfo] at HF
                  have HF := Lib.hid HF
                  have HC : Hid (CX = 0) := Lib.hid (by
                    rw [← HCX.out, countV_zero, HIFF.out, HOK.out, hfo]
                    simp)
                  clear hfo
                  go_wp2_with (go_at_call 73; refine HF.out.mono ?_; rintro e w3 ⟨rfl, hb3⟩)
                  go_ret
                  exact ⟨ret_i HC.out.symm, below_then hf hf.size hb3⟩
end Go.Proofs.YtmnblgaefdahhaaGreatDoor

/- Right values and lists of them, in the program and in the reference. -/
set_option linter.unusedVariables false
set_option linter.unusedSimpArgs false
namespace Go.Proofs.YtmnblgaefdahhaaGreatDoor
open Go.RowKit Go.Shelf
attribute [local go_sem] lt_succ_of

def rightsB (l : List V) : Bool := l.all rightB
/-- What is wrong with a list of values. -/
def listE (l : List V) : Int := if 65536 < l.length then 2 else if rightsB l = true then 0 else 3
theorem rightsB_take {l : List V} {i : Nat} (hi : i < l.length) : rightsB (l.take (i + 1)) = (rightsB (l.take i) && rightB (itemAt l i)) := by
  rw [itemAt_take hi]
  unfold rightsB
  simp
theorem rightsB_false {l : List V} {i : Nat} (hi : i < l.length) (h : rightB (itemAt l i) = false) : rightsB l = false := by
  unfold rightsB
  rw [List.all_eq_false]
  exact ⟨_, itemAt_mem hi, by simp [h]⟩
theorem rightB_pos (x : V) : decide (0 < countV x 16 1024) = rightB x := by
  unfold rightB
  exact decide_eq_decide.2 (countV_pos x 16 1024)
theorem rightB_fits (x : V) : decide (0 ≤ fitsV x 16 1024) = rightB x := by
  unfold rightB
  refine decide_eq_decide.2 ?_
  have := fitsV_neg x 16 1024
  constructor
  · intro h
    exact Classical.byContradiction fun h' => by have := this.2 h'; omega
  · intro h
    exact Int.not_lt.1 fun h' => this.1 h' h

theorem right_calls (x : V) (vx : Value) (w : World) (S : Nat → Prop) (hx : IsV w S x vx) (hT : Lib.Utf8Tabs 1 2 w) :
    Calls Tryz.prog 42 #[vx] w fun e w' => e = .returned (.bool (rightB x)) ∧ Below w.heap.size w w' := by
  obtain ⟨hbx, A, ca, rfl, hca, hA⟩ := hx.eq
  obtain ⟨w1, hw1, hB1, hsz, hb0⟩ := box1 w (.int .i64 x.kind) (.int .i64 x.num) (.string x.text) (.slice A x.items.length ca) 39
  obtain ⟨a0, a1, a2, a3⟩ := block4 hb0
  clear hb0
  have HC := Lib.hid (count_calls x 16 1024 _ w1 S (hx.below hB1) (tabs_below hT hB1) (by omega) (by omega) (by omega) (by omega))
  clear hx hT
  have HR := Lib.hid (rightB_pos x)
  go_enter Tryz.func42, Tryz.ntmps42
  go_wp2_with (go_at_call 58; refine HC.out.mono ?_; rintro e w2 ⟨rfl, hb2⟩)
  go_ret
  exact ⟨ret_b HR.out, below_then hB1 hB1.size hb2⟩
theorem check_calls (x : V) (vx : Value) (w : World) (S : Nat → Prop) (hx : IsV w S x vx) (hT : Lib.Utf8Tabs 1 2 w) :
    Calls Tryz.prog 24 #[vx] w fun e w' => e = .returned (.int .i64 (if rightB x = true then 0 else 3)) ∧ Below w.heap.size w w' := by
  obtain ⟨hbx, A, ca, rfl, hca, hA⟩ := hx.eq
  obtain ⟨w1, hw1, hB1, hsz, hb0⟩ := box1 w (.int .i64 x.kind) (.int .i64 x.num) (.string x.text) (.slice A x.items.length ca) 39
  obtain ⟨a0, a1, a2, a3⟩ := block4 hb0
  clear hb0
  have HC := right_calls x _ w1 S (hx.below hB1) (tabs_below hT hB1)
  clear hx hT
  cases hr : rightB x with
  | true =>
    rw [hr] at HC
    have HC := Lib.hid HC
    clear hr
    go_enter Tryz.func24, Tryz.ntmps24
    go_wp2_with (go_at_call 42; refine HC.out.mono ?_; rintro e w2 ⟨rfl, hb2⟩)
    go_ret
    exact ⟨rfl, below_then hB1 hB1.size hb2⟩
  | false =>
    rw [hr] at HC
    have HC := Lib.hid HC
    clear hr
    go_enter Tryz.func24, Tryz.ntmps24
    go_wp2_with (go_at_call 42; refine HC.out.mono ?_; rintro e w2 ⟨rfl, hb2⟩)
    go_ret
    exact ⟨rfl, below_then hB1 hB1.size hb2⟩

end Go.Proofs.YtmnblgaefdahhaaGreatDoor
