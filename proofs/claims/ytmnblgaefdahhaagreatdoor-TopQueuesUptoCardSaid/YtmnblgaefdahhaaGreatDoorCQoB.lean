/- The orders' own functions. -/
import Derived.Deep.RegionHeld3
import Derived.Test.YtmnblgaefdahhaaGreatDoorCQoA

set_option linter.unusedVariables false
set_option linter.unusedSimpArgs false
namespace Go.Proofs.YtmnblgaefdahhaaGreatDoor
open Go.RowKit Go.Shelf
attribute [local go_sem] lt_succ_of

theorem isx_two (W : World) (T : TypeId) (e : Int → Value) (a b : Int) : IsX e (W.alloc (.cells #[e a, e b] T)) [a, b] (.slice (some ⟨W.heap.size, 0, none⟩) 2 2) := by
  refine ⟨_, 2, rfl, Nat.le_refl _, two_le, .inr ⟨_, rfl, by rw [size_box]; exact Nat.lt_succ_self _, fun i hi => ?_⟩⟩
  refine block_cells (c := [e a, e b]) (heap_alloc_new W _) i _ ?_ |> fun h => by rwa [Nat.zero_add] at h
  have h2 : i < 2 := hi
  have : i = 0 ∨ i = 1 := by omega
  rcases this with rfl | rfl
  · rfl
  · rfl
theorem rcount (s : ByteArray) (W : World) (hs : s.size ≤ 140737488355328) : Calls Tryz.prog 84 #[.string s] W fun e w' => e = .returned (.int .i64 (Lib.runeCount s)) ∧ Bd W w' :=
  (Tryz.utf8_RuneCountInString s W (by omega)).mono fun e w' ⟨h1, pos, h2⟩ => ⟨h1, by rw [h2]; exact Bd.box _ _⟩
/-- Two values in boxes. -/
def Two (b c : Nat) (x y : V) (A B : Option Addr) (ca cb : Nat) (w : World) : Prop :=
  w.cell? ⟨b, 0, none⟩ = some (.int .i64 x.kind) ∧ w.cell? ⟨b, 1, none⟩ = some (.int .i64 x.num) ∧ w.cell? ⟨b, 2, none⟩ = some (.string x.text) ∧ w.cell? ⟨b, 3, none⟩ = some (.slice A x.items.length ca) ∧
  w.cell? ⟨c, 0, none⟩ = some (.int .i64 y.kind) ∧ w.cell? ⟨c, 1, none⟩ = some (.int .i64 y.num) ∧ w.cell? ⟨c, 2, none⟩ = some (.string y.text) ∧ w.cell? ⟨c, 3, none⟩ = some (.slice B y.items.length cb)
theorem Two.keep {b c : Nat} {x y : V} {A B : Option Addr} {ca cb : Nat} {w w' : World} (h : Two b c x y A B ca cb w) (hb : Bd w w') : Two b c x y A B ca cb w' := by
  obtain ⟨h0, h1, h2, h3, h4, h5, h6, h7⟩ := h
  exact ⟨cellD hb h0, cellD hb h1, cellD hb h2, cellD hb h3, cellD hb h4, cellD hb h5, cellD hb h6, cellD hb h7⟩
theorem two_and {b c : Nat} {x y : V} {A B : Option Addr} {ca cb : Nat} {w : World} {q : Prop} (h : Two b c x y A B ca cb w) (hq : q) :
    w.cell? ⟨b, 0, none⟩ = some (.int .i64 x.kind) ∧ w.cell? ⟨b, 1, none⟩ = some (.int .i64 x.num) ∧ w.cell? ⟨b, 2, none⟩ = some (.string x.text) ∧ w.cell? ⟨b, 3, none⟩ = some (.slice A x.items.length ca) ∧
    w.cell? ⟨c, 0, none⟩ = some (.int .i64 y.kind) ∧ w.cell? ⟨c, 1, none⟩ = some (.int .i64 y.num) ∧ w.cell? ⟨c, 2, none⟩ = some (.string y.text) ∧ w.cell? ⟨c, 3, none⟩ = some (.slice B y.items.length cb) ∧ q := by
  obtain ⟨h0, h1, h2, h3, h4, h5, h6, h7⟩ := h
  exact ⟨h0, h1, h2, h3, h4, h5, h6, h7, hq⟩
theorem box2d (w : World) (x y : V) (A B : Option Addr) (ca cb : Nat) : ∃ w1, (w.alloc (.cells #[.int .i64 x.kind, .int .i64 x.num, .string x.text, .slice A x.items.length ca] 39)).alloc (.cells #[.int .i64 y.kind, .int .i64 y.num, .string y.text, .slice B y.items.length cb] 39) = w1 ∧ Bd w w1 ∧ w.heap.size + 1 < w1.heap.size ∧ Two w.heap.size (w.heap.size + 1) x y A B ca cb w1 := by
  refine ⟨_, rfl, (Bd.box _ _).trans (Bd.box _ _), by simp, ?_⟩
  obtain ⟨h0, h1, h2, h3⟩ := block4 (heap_alloc_new w (.cells #[.int .i64 x.kind, .int .i64 x.num, .string x.text, .slice A x.items.length ca] 39))
  obtain ⟨g0, g1, g2, g3⟩ := block4 (heap_alloc_new (w.alloc (.cells #[.int .i64 x.kind, .int .i64 x.num, .string x.text, .slice A x.items.length ca] 39)) (.cells #[.int .i64 y.kind, .int .i64 y.num, .string y.text, .slice B y.items.length cb] 39))
  rw [size_box] at g0 g1 g2 g3
  have hb := Bd.box (w.alloc (.cells #[.int .i64 x.kind, .int .i64 x.num, .string x.text, .slice A x.items.length ca] 39)) (.cells #[.int .i64 y.kind, .int .i64 y.num, .string y.text, .slice B y.items.length cb] 39)
  exact ⟨cellD hb h0, cellD hb h1, cellD hb h2, cellD hb h3, g0, g1, g2, g3⟩
def runeM (x : V) : Int := Lib.runeCount x.text
noncomputable def awayM (x : V) : Int := awayN x.num
set_option maxRecDepth 100000 in
set_option maxHeartbeats 2000000 in
theorem runes_calls (x y : V) (vx vy : Value) (w : World) (S S' : Nat → Prop) (hx : IsV w S x vx) (hy : IsV w S' y vy) :
    Calls Tryz.prog 65 #[vx, vy] w fun e w' => e = .returned (.int .i64 (kindBy 3 runeM x y)) ∧ Bd w w' := by
  have hX := hx
  have hY := hy
  obtain ⟨hbx, A, ca, rfl, hca, hA⟩ := hx.eq
  obtain ⟨hby, B, cb, rfl, hcb, hB⟩ := hy.eq
  obtain ⟨w1, hw1, hB1, hsz, hT⟩ := box2d w x y A B ca cb
  have HT := Lib.hid hT
  have htx := hbx.t1
  have hty := hby.t1
  have HV := Lib.hid (fun (w' : World) (hb : Bd w1 w') => compared_calls x y _ _ w' S S' (hX.below (hB1.trans hb).below) (hY.below (hB1.trans hb).below))
  have HTX := Lib.hid htx
  have HTY := Lib.hid hty
  have HB1 := Lib.hid hB1
  unfold Two at hT
  obtain ⟨a0, a1, a2, a3, b0, b1, b2, b3⟩ := hT
  clear hx hy hX hY hA hB hbx hby htx hty hB1
  by_cases hk : x.kind = 3 ∧ y.kind = 3
  · obtain ⟨k1, k2⟩ := hk
    have HF : Hid (orF [sgn (Lib.runeCount x.text) (Lib.runeCount y.text), cmpV x y] = kindBy 3 runeM x y) := Lib.hid (by unfold kindBy; rw [if_pos ⟨k1, k2⟩, orF_two]; rfl)
    have e1 : (x.kind == 3) = true := beq_iff_eq.2 k1
    have e2 : (y.kind == 3) = true := beq_iff_eq.2 k2
    have hbr : Bd w1 w1.drew := Bd.drew w1
    clear k1 k2
    go_enter Tryz.func65, Tryz.ntmps65
    go_wp2_with fail
    go_region_held3 (fun w' => w'.cell? ⟨w.heap.size, 0, none⟩ = some (.int .i64 x.kind) ∧ w'.cell? ⟨w.heap.size, 1, none⟩ = some (.int .i64 x.num) ∧ w'.cell? ⟨w.heap.size, 2, none⟩ = some (.string x.text) ∧ w'.cell? ⟨w.heap.size, 3, none⟩ = some (.slice A x.items.length ca) ∧ w'.cell? ⟨w.heap.size + 1, 0, none⟩ = some (.int .i64 y.kind) ∧ w'.cell? ⟨w.heap.size + 1, 1, none⟩ = some (.int .i64 y.num) ∧ w'.cell? ⟨w.heap.size + 1, 2, none⟩ = some (.string y.text) ∧ w'.cell? ⟨w.heap.size + 1, 3, none⟩ = some (.slice B y.items.length cb))
      (first | exact HT.out.keep (by assumption) | exact HT.out.keep (Bd.trans (by assumption) (Bd.box _ _)))
      (first
        | (go_at_call 84; refine (rcount _ _ (by first | exact HTX.out | exact HTY.out)).mono ?_; rintro e w2 ⟨rfl, hb2⟩; have hbr := Bd.trans hbr hb2)
        | (go_at_call 74; refine (cmp_calls _ _ _).mono ?_; rintro e w2 ⟨rfl, rfl⟩)
        | (go_at_call 59; refine (HV.out _ hbr).mono ?_; rintro e w2 ⟨rfl, hb2⟩; have hbr := Bd.trans hbr hb2)
        | (go_at_call 79; refine (or_calls _ _ _ (isx_two _ 3 eI (sgn (Lib.runeCount x.text) (Lib.runeCount y.text)) (cmpV x y))).mono ?_; rintro e w2 ⟨rfl, rfl⟩; have hbr := Bd.trans hbr (Bd.box _ (.cells #[.int .i64 (sgn (Lib.runeCount x.text) (Lib.runeCount y.text)), .int .i64 (cmpV x y)] 3))))
    go_wp2_with fail
    go_ret
    exact ⟨by rw [← HF.out]; rfl, HB1.out.trans hbr⟩
  · have HF : Hid (cmpV x y = kindBy 3 runeM x y) := Lib.hid (by unfold kindBy; rw [if_neg hk])
    have HVV := Lib.hid (HV.out w1 (Bd.refl _))
    by_cases k1 : x.kind = 3
    · have k2 : (y.kind == 3) = false := by rw [beq_eq_false_iff_ne]; exact fun e => hk ⟨k1, e⟩
      have e1 : (x.kind == 3) = true := beq_iff_eq.2 k1
      clear hk k1
      go_enter Tryz.func65, Tryz.ntmps65
      go_wp2_with (go_at_call 59; refine HVV.out.mono ?_; rintro e w2 ⟨rfl, hb2⟩)
      go_ret
      exact ⟨by rw [← HF.out]; rfl, HB1.out.trans hb2⟩
    · have k2 : (x.kind == 3) = false := by rw [beq_eq_false_iff_ne]; exact k1
      clear hk k1
      go_enter Tryz.func65, Tryz.ntmps65
      go_wp2_with (go_at_call 59; refine HVV.out.mono ?_; rintro e w2 ⟨rfl, hb2⟩)
      go_ret
      exact ⟨by rw [← HF.out]; rfl, HB1.out.trans hb2⟩
end Go.Proofs.YtmnblgaefdahhaaGreatDoor
