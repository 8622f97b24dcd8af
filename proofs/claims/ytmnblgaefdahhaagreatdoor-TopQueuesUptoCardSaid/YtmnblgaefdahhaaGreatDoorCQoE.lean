/- The orders' own functions. -/
import Derived.Deep.RegionHeld3
import Derived.Test.YtmnblgaefdahhaaGreatDoorCQoB

set_option linter.unusedVariables false
set_option linter.unusedSimpArgs false
namespace Go.Proofs.YtmnblgaefdahhaaGreatDoor
open Go.RowKit Go.Shelf
attribute [local go_sem] lt_succ_of

def partM (x : V) : Int := V.size x
set_option maxRecDepth 100000 in
set_option maxHeartbeats 2000000 in
theorem byint_calls (x y : V) (vx vy : Value) (w : World) (S S' : Nat → Prop) (b : Nat) (hx : IsV w S x vx) (hy : IsV w S' y vy) (hrx : rightB x = true) (hry : rightB y = true) (hTab : Lib.Utf8Tabs 1 2 w) (hM : w.cell? ⟨b, 0, none⟩ = some (.func (.func 64) #[] #[])) :
    Calls Tryz.prog 82 #[vx, vy, .pointer (some ⟨b, 0, none⟩)] w fun e w' => e = .returned (.int .i64 (orI (sgn (partM x) (partM y)) (cmpV x y))) ∧ Bd w w' := by
  have hMl := World.block_lt_of_cell? w _ hM
  have hX := hx
  have hY := hy
  obtain ⟨hbx, A, ca, rfl, hca, hA⟩ := hx.eq
  obtain ⟨hby, B, cb, rfl, hcb, hB⟩ := hy.eq
  obtain ⟨w1, hw1, hB1, hsz, hT⟩ := box2d w x y A B ca cb
  have HT := Lib.hid hT
  have HV := Lib.hid (fun (w' : World) (hb : Bd w1 w') => compared_calls x y _ _ w' S S' (hX.below (hB1.trans hb).below) (hY.below (hB1.trans hb).below))
  have HB1 := Lib.hid hB1
  unfold Two at hT
  obtain ⟨a0, a1, a2, a3, b0, b1, b2, b3⟩ := hT
  have HMZ : Hid (∀ (z : V) (Z : Option Addr) (cz : Nat) (w' : World), Bd w1 w' → ((z = x ∧ Z = A ∧ cz = ca) ∨ (z = y ∧ Z = B ∧ cz = cb)) → Calls Tryz.prog 64 #[.agg #[.int .i64 z.kind, .int .i64 z.num, .string z.text, .slice Z z.items.length cz]] w' fun e w2 => e = .returned (.int .i64 (partM z)) ∧ Bd w' w2) := Lib.hid (fun z Z cz w' hb hz => by
    rcases hz with ⟨rfl, rfl, rfl⟩ | ⟨rfl, rfl, rfl⟩
    · exact oparts_calls _ _ w' S (hX.below (hB1.trans hb).below) (tabs_d hTab (hB1.trans hb)) hrx
    · exact oparts_calls _ _ w' S' (hY.below (hB1.trans hb).below) (tabs_d hTab (hB1.trans hb)) hry)
  have hM1 := cellD hB1 hM
  have HM := Lib.hid hM1
  clear hx hy hM hTab hX hY hA hB hbx hby hB1
  have HF : Hid (orF [sgn (partM x) (partM y), cmpV x y] = orI (sgn (partM x) (partM y)) (cmpV x y)) := Lib.hid (orF_two _ _)
  have hbr : Bd w1 w1.drew := Bd.drew w1
  go_enter Tryz.func82, Tryz.ntmps82
  go_wp2_with fail
  go_region_held3 (fun w' => w'.cell? ⟨w.heap.size, 0, none⟩ = some (.int .i64 x.kind) ∧ w'.cell? ⟨w.heap.size, 1, none⟩ = some (.int .i64 x.num) ∧ w'.cell? ⟨w.heap.size, 2, none⟩ = some (.string x.text) ∧ w'.cell? ⟨w.heap.size, 3, none⟩ = some (.slice A x.items.length ca) ∧ w'.cell? ⟨w.heap.size + 1, 0, none⟩ = some (.int .i64 y.kind) ∧ w'.cell? ⟨w.heap.size + 1, 1, none⟩ = some (.int .i64 y.num) ∧ w'.cell? ⟨w.heap.size + 1, 2, none⟩ = some (.string y.text) ∧ w'.cell? ⟨w.heap.size + 1, 3, none⟩ = some (.slice B y.items.length cb) ∧ w'.cell? ⟨b, 0, none⟩ = some (.func (.func 64) #[] #[]))
    (first | exact two_and (HT.out.keep (by assumption)) (cellD (by assumption) HM.out) | exact two_and (HT.out.keep (Bd.trans (by assumption) (Bd.box _ _))) (cellD (Bd.trans (by assumption) (Bd.box _ _)) HM.out))
    (first
      | (go_at_call 64; refine (HMZ.out _ _ _ _ hbr (by first | exact .inl ⟨rfl, rfl, rfl⟩ | exact .inr ⟨rfl, rfl, rfl⟩)).mono ?_; rintro e w2 ⟨rfl, hb2⟩; have hbr := Bd.trans hbr hb2)
      | (go_at_call 74; refine (cmp_calls _ _ _).mono ?_; rintro e w2 ⟨rfl, rfl⟩)
      | (go_at_call 59; refine (HV.out _ hbr).mono ?_; rintro e w2 ⟨rfl, hb2⟩; have hbr := Bd.trans hbr hb2)
      | (go_at_call 79; refine (or_calls _ _ _ (isx_two _ 3 eI (sgn (partM x) (partM y)) (cmpV x y))).mono ?_; rintro e w2 ⟨rfl, rfl⟩; have hbr := Bd.trans hbr (Bd.box _ (.cells #[.int .i64 (sgn (partM x) (partM y)), .int .i64 (cmpV x y)] 3))))
  go_wp2_with fail
  go_ret
  exact ⟨by rw [← HF.out]; rfl, HB1.out.trans hbr⟩
end Go.Proofs.YtmnblgaefdahhaaGreatDoor
