/- The orders' own functions. -/
import Derived.Deep.RegionHeld3
import Derived.Test.YtmnblgaefdahhaaGreatDoorCQoB

set_option linter.unusedVariables false
set_option linter.unusedSimpArgs false
namespace Go.Proofs.YtmnblgaefdahhaaGreatDoor
open Go.RowKit Go.Shelf
attribute [local go_sem] lt_succ_of

set_option maxRecDepth 100000 in
set_option maxHeartbeats 2000000 in
theorem near_calls (x y : V) (vx vy : Value) (w : World) (S S' : Nat → Prop) (hx : IsV w S x vx) (hy : IsV w S' y vy) :
    Calls Tryz.prog 66 #[vx, vy] w fun e w' => e = .returned (.int .i64 (kindBy 2 awayM x y)) ∧ Bd w w' := by
  have hX := hx
  have hY := hy
  obtain ⟨hbx, A, ca, rfl, hca, hA⟩ := hx.eq
  obtain ⟨hby, B, cb, rfl, hcb, hB⟩ := hy.eq
  obtain ⟨w1, hw1, hB1, hsz, hT⟩ := box2d w x y A B ca cb
  have HT := Lib.hid hT
  have HV := Lib.hid (fun (w' : World) (hb : Bd w1 w') => compared_calls x y _ _ w' S S' (hX.below (hB1.trans hb).below) (hY.below (hB1.trans hb).below))
  have HB1 := Lib.hid hB1
  unfold Two at hT
  obtain ⟨a0, a1, a2, a3, b0, b1, b2, b3⟩ := hT
  clear hx hy hX hY hA hB hbx hby hB1
  by_cases hk : x.kind = 2 ∧ y.kind = 2
  · obtain ⟨k1, k2⟩ := hk
    have HF : Hid (orF [sgn (awayN x.num) (awayN y.num), sgn x.num y.num] = kindBy 2 awayM x y) := Lib.hid (by
      unfold kindBy
      rw [if_pos ⟨k1, k2⟩, orF_two]
      have : cmpV x y = sgn x.num y.num := by rw [cmpV_eq, if_pos (by rw [k1, k2]), if_pos (.inr k1)]
      rw [this]
      rfl)
    have e1 : (x.kind == 2) = true := beq_iff_eq.2 k1
    have e2 : (y.kind == 2) = true := beq_iff_eq.2 k2
    clear k1 k2
    go_enter Tryz.func66, Tryz.ntmps66
    go_wp2_with fail
    go_region_held3 (fun w' => w'.cell? ⟨w.heap.size, 0, none⟩ = some (.int .i64 x.kind) ∧ w'.cell? ⟨w.heap.size, 1, none⟩ = some (.int .i64 x.num) ∧ w'.cell? ⟨w.heap.size, 2, none⟩ = some (.string x.text) ∧ w'.cell? ⟨w.heap.size, 3, none⟩ = some (.slice A x.items.length ca) ∧ w'.cell? ⟨w.heap.size + 1, 0, none⟩ = some (.int .i64 y.kind) ∧ w'.cell? ⟨w.heap.size + 1, 1, none⟩ = some (.int .i64 y.num) ∧ w'.cell? ⟨w.heap.size + 1, 2, none⟩ = some (.string y.text) ∧ w'.cell? ⟨w.heap.size + 1, 3, none⟩ = some (.slice B y.items.length cb))
      (first | exact HT.out.keep (Bd.drew _) | exact HT.out.keep (Bd.refl _) | exact HT.out.keep (Bd.box _ _) | exact HT.out.keep (Bd.trans (Bd.box _ _) (Bd.drew _)))
      (first
        | (go_at_call 86; refine (away_calls _ _).mono ?_; rintro e w2 ⟨rfl, rfl⟩)
        | (go_at_call 85; refine (cmpl_calls _ _ _).mono ?_; rintro e w2 ⟨rfl, rfl⟩)
        | (go_at_call 75; refine (cmp64_calls _ _ _).mono ?_; rintro e w2 ⟨rfl, rfl⟩)
        | (go_at_call 79; refine (or_calls _ _ _ ((isx_two w1 3 eI (sgn (awayN x.num) (awayN y.num)) (sgn x.num y.num)).below (Bd.drew _).below)).mono ?_; rintro e w2 ⟨rfl, rfl⟩; have hbr := Bd.trans (Bd.box w1 (.cells #[.int .i64 (sgn (awayN x.num) (awayN y.num)), .int .i64 (sgn x.num y.num)] 3)) (Bd.drew _)))
    go_wp2_with fail
    go_ret
    exact ⟨by rw [← HF.out]; rfl, HB1.out.trans hbr⟩
  · have HF : Hid (cmpV x y = kindBy 2 awayM x y) := Lib.hid (by unfold kindBy; rw [if_neg hk])
    have HVV := Lib.hid (HV.out w1 (Bd.refl _))
    by_cases k1 : x.kind = 2
    · have k2 : (y.kind == 2) = false := by rw [beq_eq_false_iff_ne]; exact fun e => hk ⟨k1, e⟩
      have e1 : (x.kind == 2) = true := beq_iff_eq.2 k1
      clear hk k1
      go_enter Tryz.func66, Tryz.ntmps66
      go_wp2_with (go_at_call 59; refine HVV.out.mono ?_; rintro e w2 ⟨rfl, hb2⟩)
      go_ret
      exact ⟨by rw [← HF.out]; rfl, HB1.out.trans hb2⟩
    · have k2 : (x.kind == 2) = false := by rw [beq_eq_false_iff_ne]; exact k1
      clear hk k1
      go_enter Tryz.func66, Tryz.ntmps66
      go_wp2_with (go_at_call 59; refine HVV.out.mono ?_; rintro e w2 ⟨rfl, hb2⟩)
      go_ret
      exact ⟨by rw [← HF.out]; rfl, HB1.out.trans hb2⟩
set_option maxRecDepth 100000 in
theorem back_calls (x y : V) (vx vy : Value) (w : World) (S S' : Nat → Prop) (hx : IsV w S x vx) (hy : IsV w S' y vy) :
    Calls Tryz.prog 60 #[vx, vy] w fun e w' => e = .returned (.int .i64 (cmpV y x)) ∧ Bd w w' := by
  have hX := hx
  have hY := hy
  obtain ⟨hbx, A, ca, rfl, hca, hA⟩ := hx.eq
  obtain ⟨hby, B, cb, rfl, hcb, hB⟩ := hy.eq
  obtain ⟨w1, hw1, hB1, hsz, hT⟩ := box2d w x y A B ca cb
  have HV := Lib.hid (compared_calls y x _ _ w1 S' S (hY.below hB1.below) (hX.below hB1.below))
  unfold Two at hT
  obtain ⟨a0, a1, a2, a3, b0, b1, b2, b3⟩ := hT
  clear hx hy hX hY hA hB hbx hby
  go_enter Tryz.func60, Tryz.ntmps60
  go_wp2_with (go_at_call 59; refine HV.out.mono ?_; rintro e w2 ⟨rfl, hb2⟩)
  go_ret
  exact ⟨rfl, hB1.trans hb2⟩
end Go.Proofs.YtmnblgaefdahhaaGreatDoor
