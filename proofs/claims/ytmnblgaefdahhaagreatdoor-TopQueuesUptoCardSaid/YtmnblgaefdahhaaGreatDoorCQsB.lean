/- A black node with two trees below (written by mkQsB.py). -/
import Derived.Test.YtmnblgaefdahhaaGreatDoorCQsA

set_option linter.unusedVariables false
set_option linter.unusedSimpArgs false
namespace Go.Proofs.YtmnblgaefdahhaaGreatDoor
open Go.RowKit Go.Shelf
attribute [local go_sem] lt_succ_of

theorem isRed_mk (b : Bool) (l r : Nd) (k v : V) : (Nd.mk b l r k v).isRed = b := rfl
theorem left_mk (b : Bool) (l r : Nd) (k v : V) : (Nd.mk b l r k v).left = l := rfl
theorem right_mk (b : Bool) (l r : Nd) (k v : V) : (Nd.mk b l r k v).right = r := rfl
theorem like_mk (b : Bool) (l r : Nd) (k v : V) (red : Bool) (l2 r2 : Nd) : (Nd.mk b l r k v).like red l2 r2 = .mk red l2 r2 k v := rfl
theorem bal_chain {w w1 w2 : World} (h1 : Below w.heap.size w w1) (h2 : Below w1.heap.size w1 w2) : Below w.heap.size w w2 := below_then h1 h1.size h2
/-- A pointer's colour. -/
structure RedAt (w : World) (p : Option Addr) (b : Bool) : Prop where
  out : Calls Tryz.prog 69 #[.pointer p] w fun e w' => e = .returned (.bool b) ∧ w = w'
theorem red_is {t : Nd} {b : Bool} (h : t.isRed = b) {p : Option Addr} {w : World} {S : Nat → Prop} (hn : IsN w S t p) : RedAt w p b := by
  subst h
  exact ⟨isred_calls t p w S hn⟩
set_option maxRecDepth 100000 in
set_option maxHeartbeats 1000000 in
theorem bal_c1 (x0 : Bool) (xl xr : Nd) (xk xv : V) (la lb rc rd : Nd) (lk lv rk rv : V)  (px pl pr : Option Addr) (w : World) (S : Nat → Prop) (hS : ∀ m, w.heap.size ≤ m → S m) (hx : IsN w S (.mk x0 xl xr xk xv) px) (hl : IsN w S (.mk true la lb lk lv) pl) (hr : IsN w S (.mk true rc rd rk rv) pr) :
    Calls Tryz.prog 71 #[.pointer px, .pointer pl, .pointer pr] w fun e w' => ∃ q, e = .returned (.pointer q) ∧ IsN w' S (balN (.mk x0 xl xr xk xv) (.mk true la lb lk lv) (.mk true rc rd rk rv)) q ∧ Below w.heap.size w w' := by
  have HE : Hid (balN (.mk x0 xl xr xk xv) (.mk true la lb lk lv) (.mk true rc rd rk rv) = (.mk true (.mk false la lb lk lv) (.mk false rc rd rk rv) xk xv)) := Lib.hid (by clear hx hl hr hS; simp [balN, isRed_mk, left_mk, right_mk, like_mk, *])
  obtain ⟨bl, pll, plr, Al, cl, Bl, dl, rfl, nl, hll, hlr⟩ := (show IsN w S _ _ from hl).eq
  obtain ⟨br, prl, prr, Ar, cr, Br, dr, rfl, nr, hrl, hrr⟩ := (show IsN w S _ _ from hr).eq
  have Rl := red_is (b := true) rfl hl
  have Rr := red_is (b := true) rfl hr
  have HA := Lib.hid (fun (W : World) (hb : Below w.heap.size w W) => like_calls true la lb lk lv false la lb _ _ _ W S (fun m hm => hS m (Nat.le_trans hb.size hm)) (hl.below hb) (hll.below hb) (hlr.below hb))
  have HB := Lib.hid (fun (W : World) (hb : Below w.heap.size w W) => like_calls true rc rd rk rv false rc rd _ _ _ W S (fun m hm => hS m (Nat.le_trans hb.size hm)) (hr.below hb) (hrl.below hb) (hrr.below hb))
  have HC := Lib.hid (fun (W : World) (hb : Below w.heap.size w W) (q1 q2 : Option Addr) (h1 : IsN W S (.mk false la lb lk lv) q1) (h2 : IsN W S (.mk false rc rd rk rv) q2) => like_calls x0 xl xr xk xv true (.mk false la lb lk lv) (.mk false rc rd rk rv) _ q1 q2 W S (fun m hm => hS m (Nat.le_trans hb.size hm)) (hx.below hb) h1 h2)
  have kl1 := nl.c1
  have kl2 := nl.c2
  have kr1 := nr.c1
  have kr2 := nr.c2
  have ltl := nl.lt
  have ltr := nr.lt
  have HK : Hid (∀ W, Below w.heap.size w W → W.cell? ⟨bl, 1, none⟩ = some (.pointer pll) ∧ W.cell? ⟨bl, 2, none⟩ = some (.pointer plr) ∧ W.cell? ⟨br, 1, none⟩ = some (.pointer prl) ∧ W.cell? ⟨br, 2, none⟩ = some (.pointer prr)) := Lib.hid fun W hb => ⟨cellB hb kl1, cellB hb kl2, cellB hb kr1, cellB hb kr2⟩
  clear hS hx hl hr nl nr hll hlr hrl hrr
  go_enter Tryz.func71, Tryz.ntmps71
  go_wp2_with (first | (go_at_call 69; refine (RedAt.out (by assumption)).mono ?_; rintro e w' ⟨rfl, rfl⟩))
  have hbr : Below w.heap.size w w.drew := (Below.refl _ _).drew
  go_region_held3 (fun W => W.cell? ⟨bl, 1, none⟩ = some (.pointer pll) ∧ W.cell? ⟨bl, 2, none⟩ = some (.pointer plr) ∧ W.cell? ⟨br, 1, none⟩ = some (.pointer prl) ∧ W.cell? ⟨br, 2, none⟩ = some (.pointer prr))
    (exact HK.out _ (by with_reducible assumption))
    (first
      | (go_at_call 70; refine (HA.out _ hbr).mono ?_; rintro e w5 ⟨q5, rfl, h5, hb5⟩; have hbr := bal_chain hbr hb5; have IA := Lib.hid h5; clear h5 hb5 HA)
      | (go_at_call 70; refine (HB.out _ hbr).mono ?_; rintro e w6 ⟨q6, rfl, h6, hb6⟩; have hbr := bal_chain hbr hb6; have IB := Lib.hid h6; have IA := Lib.hid (IA.out.below hb6); clear h6 hb6 HB)
      | (go_at_call 70; refine (HC.out _ hbr _ _ IA.out IB.out).mono ?_; rintro e w7 ⟨q7, rfl, h7, hb7⟩; have hbr := bal_chain hbr hb7; have IC := Lib.hid h7; clear h7 hb7))
  go_wp2_with fail
  go_ret
  exact ⟨_, rfl, by rw [HE.out]; exact IC.out, hbr⟩
set_option maxRecDepth 100000 in
set_option maxHeartbeats 1000000 in
theorem bal_c2 (x0 : Bool) (xl xr : Nd) (xk xv : V) (a1 a2 lb r : Nd) (ak av lk lv : V) (hr0 : r.isRed = false) (px pl pr : Option Addr) (w : World) (S : Nat → Prop) (hS : ∀ m, w.heap.size ≤ m → S m) (hx : IsN w S (.mk x0 xl xr xk xv) px) (hl : IsN w S (.mk true (.mk true a1 a2 ak av) lb lk lv) pl) (hr : IsN w S r pr) :
    Calls Tryz.prog 71 #[.pointer px, .pointer pl, .pointer pr] w fun e w' => ∃ q, e = .returned (.pointer q) ∧ IsN w' S (balN (.mk x0 xl xr xk xv) (.mk true (.mk true a1 a2 ak av) lb lk lv) r) q ∧ Below w.heap.size w w' := by
  have HE : Hid (balN (.mk x0 xl xr xk xv) (.mk true (.mk true a1 a2 ak av) lb lk lv) r = (.mk true (blackN (.mk true a1 a2 ak av)) (.mk false lb r xk xv) lk lv)) := Lib.hid (by clear hx hl hr hS; simp [balN, isRed_mk, left_mk, right_mk, like_mk, *])
  obtain ⟨bl, pll, plr, Al, cl, Bl, dl, rfl, nl, hll, hlr⟩ := (show IsN w S _ _ from hl).eq
  have Rl := red_is (b := true) rfl hl
  have Rr := red_is (b := false) hr0 hr
  have Rll := red_is (b := true) rfl hll
  have HA := Lib.hid (fun (W : World) (hb : Below w.heap.size w W) => black_calls (.mk true a1 a2 ak av) _ W S (fun m hm => hS m (Nat.le_trans hb.size hm)) (hll.below hb))
  have HB := Lib.hid (fun (W : World) (hb : Below w.heap.size w W) => like_calls x0 xl xr xk xv false lb r _ _ _ W S (fun m hm => hS m (Nat.le_trans hb.size hm)) (hx.below hb) (hlr.below hb) (hr.below hb))
  have HC := Lib.hid (fun (W : World) (hb : Below w.heap.size w W) (q1 q2 : Option Addr) (h1 : IsN W S (blackN (.mk true a1 a2 ak av)) q1) (h2 : IsN W S (.mk false lb r xk xv) q2) => like_calls true (.mk true a1 a2 ak av) lb lk lv true (blackN (.mk true a1 a2 ak av)) (.mk false lb r xk xv) _ q1 q2 W S (fun m hm => hS m (Nat.le_trans hb.size hm)) (hl.below hb) h1 h2)
  have kl1 := nl.c1
  have kl2 := nl.c2
  have ltl := nl.lt
  have HK : Hid (∀ W, Below w.heap.size w W → W.cell? ⟨bl, 1, none⟩ = some (.pointer pll) ∧ W.cell? ⟨bl, 2, none⟩ = some (.pointer plr)) := Lib.hid fun W hb => ⟨cellB hb kl1, cellB hb kl2⟩
  clear hS hx hl hr nl hll hlr
  go_enter Tryz.func71, Tryz.ntmps71
  go_wp2_with (first | (go_at_call 69; refine (RedAt.out (by assumption)).mono ?_; rintro e w' ⟨rfl, rfl⟩))
  have hbr : Below w.heap.size w w.drew := (Below.refl _ _).drew
  go_region_held3 (fun W => W.cell? ⟨bl, 1, none⟩ = some (.pointer pll) ∧ W.cell? ⟨bl, 2, none⟩ = some (.pointer plr))
    (exact HK.out _ (by with_reducible assumption))
    (first
      | (go_at_call 51; refine (HA.out _ hbr).mono ?_; rintro e w5 ⟨q5, rfl, h5, hb5⟩; have hbr := bal_chain hbr hb5; have IA := Lib.hid h5; clear h5; have hb0 := hb5; clear hb5)
      | (go_at_call 70; refine (HB.out _ hbr).mono ?_; rintro e w6 ⟨q6, rfl, h6, hb6⟩; have hbr := bal_chain hbr hb6; have IB := Lib.hid h6; clear h6; have IA := Lib.hid (IA.out.below hb6); clear hb6 HB)
      | (go_at_call 70; refine (HC.out _ hbr _ _ IA.out IB.out).mono ?_; rintro e w7 ⟨q7, rfl, h7, hb7⟩; have hbr := bal_chain hbr hb7; have IC := Lib.hid h7; clear h7 hb7))
  go_wp2_with fail
  go_ret
  exact ⟨_, rfl, by rw [HE.out]; exact IC.out, hbr⟩
set_option maxRecDepth 100000 in
set_option maxHeartbeats 1000000 in
theorem bal_c3 (x0 : Bool) (xl xr : Nd) (xk xv : V) (a b1 b2 r : Nd) (bk bv lk lv : V) (ha0 : a.isRed = false) (hr0 : r.isRed = false) (px pl pr : Option Addr) (w : World) (S : Nat → Prop) (hS : ∀ m, w.heap.size ≤ m → S m) (hx : IsN w S (.mk x0 xl xr xk xv) px) (hl : IsN w S (.mk true a (.mk true b1 b2 bk bv) lk lv) pl) (hr : IsN w S r pr) :
    Calls Tryz.prog 71 #[.pointer px, .pointer pl, .pointer pr] w fun e w' => ∃ q, e = .returned (.pointer q) ∧ IsN w' S (balN (.mk x0 xl xr xk xv) (.mk true a (.mk true b1 b2 bk bv) lk lv) r) q ∧ Below w.heap.size w w' := by
  have HE : Hid (balN (.mk x0 xl xr xk xv) (.mk true a (.mk true b1 b2 bk bv) lk lv) r = (.mk true (.mk false a b1 lk lv) (.mk false b2 r xk xv) bk bv)) := Lib.hid (by clear hx hl hr hS; simp [balN, isRed_mk, left_mk, right_mk, like_mk, *])
  obtain ⟨bl, pll, plr, Al, cl, Bl, dl, rfl, nl, hll, hlr⟩ := (show IsN w S _ _ from hl).eq
  obtain ⟨blr, plrl, plrr, Alr, clr, Blr, dlr, rfl, nlr, hlrl, hlrr⟩ := (show IsN w S _ _ from hlr).eq
  have Rl := red_is (b := true) rfl hl
  have Rr := red_is (b := false) hr0 hr
  have Rll := red_is (b := false) ha0 hll
  have Rlr := red_is (b := true) rfl hlr
  have HA := Lib.hid (fun (W : World) (hb : Below w.heap.size w W) => like_calls true a (.mk true b1 b2 bk bv) lk lv false a b1 _ _ _ W S (fun m hm => hS m (Nat.le_trans hb.size hm)) (hl.below hb) (hll.below hb) (hlrl.below hb))
  have HB := Lib.hid (fun (W : World) (hb : Below w.heap.size w W) => like_calls x0 xl xr xk xv false b2 r _ _ _ W S (fun m hm => hS m (Nat.le_trans hb.size hm)) (hx.below hb) (hlrr.below hb) (hr.below hb))
  have HC := Lib.hid (fun (W : World) (hb : Below w.heap.size w W) (q1 q2 : Option Addr) (h1 : IsN W S (.mk false a b1 lk lv) q1) (h2 : IsN W S (.mk false b2 r xk xv) q2) => like_calls true b1 b2 bk bv true (.mk false a b1 lk lv) (.mk false b2 r xk xv) _ q1 q2 W S (fun m hm => hS m (Nat.le_trans hb.size hm)) (hlr.below hb) h1 h2)
  have kl1 := nl.c1
  have kl2 := nl.c2
  have klr1 := nlr.c1
  have klr2 := nlr.c2
  have ltl := nl.lt
  have ltlr := nlr.lt
  have HK : Hid (∀ W, Below w.heap.size w W → W.cell? ⟨bl, 1, none⟩ = some (.pointer pll) ∧ W.cell? ⟨bl, 2, none⟩ = some (.pointer (some ⟨blr, 0, none⟩)) ∧ W.cell? ⟨blr, 1, none⟩ = some (.pointer plrl) ∧ W.cell? ⟨blr, 2, none⟩ = some (.pointer plrr)) := Lib.hid fun W hb => ⟨cellB hb kl1, cellB hb kl2, cellB hb klr1, cellB hb klr2⟩
  clear hS hx hl hr nl nlr hll hlr hlrl hlrr
  go_enter Tryz.func71, Tryz.ntmps71
  go_wp2_with (first | (go_at_call 69; refine (RedAt.out (by assumption)).mono ?_; rintro e w' ⟨rfl, rfl⟩))
  have hbr : Below w.heap.size w w.drew := (Below.refl _ _).drew
  go_region_held3 (fun W => W.cell? ⟨bl, 1, none⟩ = some (.pointer pll) ∧ W.cell? ⟨bl, 2, none⟩ = some (.pointer (some ⟨blr, 0, none⟩)) ∧ W.cell? ⟨blr, 1, none⟩ = some (.pointer plrl) ∧ W.cell? ⟨blr, 2, none⟩ = some (.pointer plrr))
    (exact HK.out _ (by with_reducible assumption))
    (first
      | (go_at_call 70; refine (HA.out _ hbr).mono ?_; rintro e w5 ⟨q5, rfl, h5, hb5⟩; have hbr := bal_chain hbr hb5; have IA := Lib.hid h5; clear h5 hb5 HA)
      | (go_at_call 70; refine (HB.out _ hbr).mono ?_; rintro e w6 ⟨q6, rfl, h6, hb6⟩; have hbr := bal_chain hbr hb6; have IB := Lib.hid h6; have IA := Lib.hid (IA.out.below hb6); clear h6 hb6 HB)
      | (go_at_call 70; refine (HC.out _ hbr _ _ IA.out IB.out).mono ?_; rintro e w7 ⟨q7, rfl, h7, hb7⟩; have hbr := bal_chain hbr hb7; have IC := Lib.hid h7; clear h7 hb7))
  go_wp2_with fail
  go_ret
  exact ⟨_, rfl, by rw [HE.out]; exact IC.out, hbr⟩
set_option maxRecDepth 100000 in
set_option maxHeartbeats 1000000 in
theorem bal_c4 (x0 : Bool) (xl xr : Nd) (xk xv : V) (a b r : Nd) (lk lv : V) (ha0 : a.isRed = false) (hb0 : b.isRed = false) (hr0 : r.isRed = false) (px pl pr : Option Addr) (w : World) (S : Nat → Prop) (hS : ∀ m, w.heap.size ≤ m → S m) (hx : IsN w S (.mk x0 xl xr xk xv) px) (hl : IsN w S (.mk true a b lk lv) pl) (hr : IsN w S r pr) :
    Calls Tryz.prog 71 #[.pointer px, .pointer pl, .pointer pr] w fun e w' => ∃ q, e = .returned (.pointer q) ∧ IsN w' S (balN (.mk x0 xl xr xk xv) (.mk true a b lk lv) r) q ∧ Below w.heap.size w w' := by
  have HE : Hid (balN (.mk x0 xl xr xk xv) (.mk true a b lk lv) r = (.mk false (.mk true a b lk lv) r xk xv)) := Lib.hid (by clear hx hl hr hS; simp [balN, isRed_mk, left_mk, right_mk, like_mk, *])
  obtain ⟨bl, pll, plr, Al, cl, Bl, dl, rfl, nl, hll, hlr⟩ := (show IsN w S _ _ from hl).eq
  have Rl := red_is (b := true) rfl hl
  have Rr := red_is (b := false) hr0 hr
  have Rll := red_is (b := false) ha0 hll
  have Rlr := red_is (b := false) hb0 hlr
  have HA := Lib.hid (fun (W : World) (hb : Below w.heap.size w W) => like_calls x0 xl xr xk xv false (.mk true a b lk lv) r _ _ _ W S (fun m hm => hS m (Nat.le_trans hb.size hm)) (hx.below hb) (hl.below hb) (hr.below hb))
  have kl1 := nl.c1
  have kl2 := nl.c2
  have ltl := nl.lt
  clear hS hx hl hr nl hll hlr
  go_enter Tryz.func71, Tryz.ntmps71
  go_wp2_with (first
    | (go_at_call 69; refine (RedAt.out (by assumption)).mono ?_; rintro e w' ⟨rfl, rfl⟩)
    | (go_at_call 70; refine (HA.out _ (Below.refl _ _)).mono ?_; rintro e w5 ⟨q5, rfl, h5, hb5⟩; have IA := Lib.hid h5; clear h5))
  go_ret
  exact ⟨_, rfl, by rw [HE.out]; exact IA.out, hb5⟩
set_option maxRecDepth 100000 in
set_option maxHeartbeats 1000000 in
theorem bal_c5 (x0 : Bool) (xl xr : Nd) (xk xv : V) (l c d1 d2 : Nd) (dk dv rk rv : V) (hl0 : l.isRed = false) (px pl pr : Option Addr) (w : World) (S : Nat → Prop) (hS : ∀ m, w.heap.size ≤ m → S m) (hx : IsN w S (.mk x0 xl xr xk xv) px) (hl : IsN w S l pl) (hr : IsN w S (.mk true c (.mk true d1 d2 dk dv) rk rv) pr) :
    Calls Tryz.prog 71 #[.pointer px, .pointer pl, .pointer pr] w fun e w' => ∃ q, e = .returned (.pointer q) ∧ IsN w' S (balN (.mk x0 xl xr xk xv) l (.mk true c (.mk true d1 d2 dk dv) rk rv)) q ∧ Below w.heap.size w w' := by
  have HE : Hid (balN (.mk x0 xl xr xk xv) l (.mk true c (.mk true d1 d2 dk dv) rk rv) = (.mk true (.mk false l c xk xv) (blackN (.mk true d1 d2 dk dv)) rk rv)) := Lib.hid (by clear hx hl hr hS; simp [balN, isRed_mk, left_mk, right_mk, like_mk, *])
  obtain ⟨br, prl, prr, Ar, cr, Br, dr, rfl, nr, hrl, hrr⟩ := (show IsN w S _ _ from hr).eq
  have Rl := red_is (b := false) hl0 hl
  have Rr := red_is (b := true) rfl hr
  have Rrr := red_is (b := true) rfl hrr
  have HA := Lib.hid (fun (W : World) (hb : Below w.heap.size w W) => like_calls x0 xl xr xk xv false l c _ _ _ W S (fun m hm => hS m (Nat.le_trans hb.size hm)) (hx.below hb) (hl.below hb) (hrl.below hb))
  have HB := Lib.hid (fun (W : World) (hb : Below w.heap.size w W) => black_calls (.mk true d1 d2 dk dv) _ W S (fun m hm => hS m (Nat.le_trans hb.size hm)) (hrr.below hb))
  have HC := Lib.hid (fun (W : World) (hb : Below w.heap.size w W) (q1 q2 : Option Addr) (h1 : IsN W S (.mk false l c xk xv) q1) (h2 : IsN W S (blackN (.mk true d1 d2 dk dv)) q2) => like_calls true c (.mk true d1 d2 dk dv) rk rv true (.mk false l c xk xv) (blackN (.mk true d1 d2 dk dv)) _ q1 q2 W S (fun m hm => hS m (Nat.le_trans hb.size hm)) (hr.below hb) h1 h2)
  have kr1 := nr.c1
  have kr2 := nr.c2
  have ltr := nr.lt
  have HK : Hid (∀ W, Below w.heap.size w W → W.cell? ⟨br, 1, none⟩ = some (.pointer prl) ∧ W.cell? ⟨br, 2, none⟩ = some (.pointer prr)) := Lib.hid fun W hb => ⟨cellB hb kr1, cellB hb kr2⟩
  clear hS hx hl hr nr hrl hrr
  go_enter Tryz.func71, Tryz.ntmps71
  go_wp2_with (first | (go_at_call 69; refine (RedAt.out (by assumption)).mono ?_; rintro e w' ⟨rfl, rfl⟩))
  have hbr : Below w.heap.size w w.drew := (Below.refl _ _).drew
  go_region_held3 (fun W => W.cell? ⟨br, 1, none⟩ = some (.pointer prl) ∧ W.cell? ⟨br, 2, none⟩ = some (.pointer prr))
    (exact HK.out _ (by with_reducible assumption))
    (first
      | (go_at_call 51; refine (HB.out _ hbr).mono ?_; rintro e w5 ⟨q5, rfl, h5, hb5⟩; have hbr := bal_chain hbr hb5; have IB := Lib.hid h5; clear h5; have IA := Lib.hid (IA.out.below hb5); clear hb5)
      | (go_at_call 70; refine (HA.out _ hbr).mono ?_; rintro e w6 ⟨q6, rfl, h6, hb6⟩; have hbr := bal_chain hbr hb6; have IA := Lib.hid h6; clear h6; clear hb6 HA)
      | (go_at_call 70; refine (HC.out _ hbr _ _ IA.out IB.out).mono ?_; rintro e w7 ⟨q7, rfl, h7, hb7⟩; have hbr := bal_chain hbr hb7; have IC := Lib.hid h7; clear h7 hb7))
  go_wp2_with fail
  go_ret
  exact ⟨_, rfl, by rw [HE.out]; exact IC.out, hbr⟩
set_option maxRecDepth 100000 in
set_option maxHeartbeats 1000000 in
theorem bal_c6 (x0 : Bool) (xl xr : Nd) (xk xv : V) (l c1 c2 d : Nd) (ck cv rk rv : V) (hl0 : l.isRed = false) (hd0 : d.isRed = false) (px pl pr : Option Addr) (w : World) (S : Nat → Prop) (hS : ∀ m, w.heap.size ≤ m → S m) (hx : IsN w S (.mk x0 xl xr xk xv) px) (hl : IsN w S l pl) (hr : IsN w S (.mk true (.mk true c1 c2 ck cv) d rk rv) pr) :
    Calls Tryz.prog 71 #[.pointer px, .pointer pl, .pointer pr] w fun e w' => ∃ q, e = .returned (.pointer q) ∧ IsN w' S (balN (.mk x0 xl xr xk xv) l (.mk true (.mk true c1 c2 ck cv) d rk rv)) q ∧ Below w.heap.size w w' := by
  have HE : Hid (balN (.mk x0 xl xr xk xv) l (.mk true (.mk true c1 c2 ck cv) d rk rv) = (.mk true (.mk false l c1 xk xv) (.mk false c2 d rk rv) ck cv)) := Lib.hid (by clear hx hl hr hS; simp [balN, isRed_mk, left_mk, right_mk, like_mk, *])
  obtain ⟨br, prl, prr, Ar, cr, Br, dr, rfl, nr, hrl, hrr⟩ := (show IsN w S _ _ from hr).eq
  obtain ⟨brl, prll, prlr, Arl, crl, Brl, drl, rfl, nrl, hrll, hrlr⟩ := (show IsN w S _ _ from hrl).eq
  have Rl := red_is (b := false) hl0 hl
  have Rr := red_is (b := true) rfl hr
  have Rrr := red_is (b := false) hd0 hrr
  have Rrl := red_is (b := true) rfl hrl
  have HA := Lib.hid (fun (W : World) (hb : Below w.heap.size w W) => like_calls x0 xl xr xk xv false l c1 _ _ _ W S (fun m hm => hS m (Nat.le_trans hb.size hm)) (hx.below hb) (hl.below hb) (hrll.below hb))
  have HB := Lib.hid (fun (W : World) (hb : Below w.heap.size w W) => like_calls true (.mk true c1 c2 ck cv) d rk rv false c2 d _ _ _ W S (fun m hm => hS m (Nat.le_trans hb.size hm)) (hr.below hb) (hrlr.below hb) (hrr.below hb))
  have HC := Lib.hid (fun (W : World) (hb : Below w.heap.size w W) (q1 q2 : Option Addr) (h1 : IsN W S (.mk false l c1 xk xv) q1) (h2 : IsN W S (.mk false c2 d rk rv) q2) => like_calls true c1 c2 ck cv true (.mk false l c1 xk xv) (.mk false c2 d rk rv) _ q1 q2 W S (fun m hm => hS m (Nat.le_trans hb.size hm)) (hrl.below hb) h1 h2)
  have kr1 := nr.c1
  have kr2 := nr.c2
  have krl1 := nrl.c1
  have krl2 := nrl.c2
  have ltr := nr.lt
  have ltrl := nrl.lt
  have HK : Hid (∀ W, Below w.heap.size w W → W.cell? ⟨br, 1, none⟩ = some (.pointer (some ⟨brl, 0, none⟩)) ∧ W.cell? ⟨br, 2, none⟩ = some (.pointer prr) ∧ W.cell? ⟨brl, 1, none⟩ = some (.pointer prll) ∧ W.cell? ⟨brl, 2, none⟩ = some (.pointer prlr)) := Lib.hid fun W hb => ⟨cellB hb kr1, cellB hb kr2, cellB hb krl1, cellB hb krl2⟩
  clear hS hx hl hr nr nrl hrl hrr hrll hrlr
  go_enter Tryz.func71, Tryz.ntmps71
  go_wp2_with (first | (go_at_call 69; refine (RedAt.out (by assumption)).mono ?_; rintro e w' ⟨rfl, rfl⟩))
  have hbr : Below w.heap.size w w.drew := (Below.refl _ _).drew
  go_region_held3 (fun W => W.cell? ⟨br, 1, none⟩ = some (.pointer (some ⟨brl, 0, none⟩)) ∧ W.cell? ⟨br, 2, none⟩ = some (.pointer prr) ∧ W.cell? ⟨brl, 1, none⟩ = some (.pointer prll) ∧ W.cell? ⟨brl, 2, none⟩ = some (.pointer prlr))
    (exact HK.out _ (by with_reducible assumption))
    (first
      | (go_at_call 70; refine (HA.out _ hbr).mono ?_; rintro e w5 ⟨q5, rfl, h5, hb5⟩; have hbr := bal_chain hbr hb5; have IA := Lib.hid h5; clear h5 hb5 HA)
      | (go_at_call 70; refine (HB.out _ hbr).mono ?_; rintro e w6 ⟨q6, rfl, h6, hb6⟩; have hbr := bal_chain hbr hb6; have IB := Lib.hid h6; have IA := Lib.hid (IA.out.below hb6); clear h6 hb6 HB)
      | (go_at_call 70; refine (HC.out _ hbr _ _ IA.out IB.out).mono ?_; rintro e w7 ⟨q7, rfl, h7, hb7⟩; have hbr := bal_chain hbr hb7; have IC := Lib.hid h7; clear h7 hb7))
  go_wp2_with fail
  go_ret
  exact ⟨_, rfl, by rw [HE.out]; exact IC.out, hbr⟩
set_option maxRecDepth 100000 in
set_option maxHeartbeats 1000000 in
theorem bal_c7 (x0 : Bool) (xl xr : Nd) (xk xv : V) (l c d : Nd) (rk rv : V) (hl0 : l.isRed = false) (hc0 : c.isRed = false) (hd0 : d.isRed = false) (px pl pr : Option Addr) (w : World) (S : Nat → Prop) (hS : ∀ m, w.heap.size ≤ m → S m) (hx : IsN w S (.mk x0 xl xr xk xv) px) (hl : IsN w S l pl) (hr : IsN w S (.mk true c d rk rv) pr) :
    Calls Tryz.prog 71 #[.pointer px, .pointer pl, .pointer pr] w fun e w' => ∃ q, e = .returned (.pointer q) ∧ IsN w' S (balN (.mk x0 xl xr xk xv) l (.mk true c d rk rv)) q ∧ Below w.heap.size w w' := by
  have HE : Hid (balN (.mk x0 xl xr xk xv) l (.mk true c d rk rv) = (.mk false l (.mk true c d rk rv) xk xv)) := Lib.hid (by clear hx hl hr hS; simp [balN, isRed_mk, left_mk, right_mk, like_mk, *])
  obtain ⟨br, prl, prr, Ar, cr, Br, dr, rfl, nr, hrl, hrr⟩ := (show IsN w S _ _ from hr).eq
  have Rl := red_is (b := false) hl0 hl
  have Rr := red_is (b := true) rfl hr
  have Rrr := red_is (b := false) hd0 hrr
  have Rrl := red_is (b := false) hc0 hrl
  have HA := Lib.hid (fun (W : World) (hb : Below w.heap.size w W) => like_calls x0 xl xr xk xv false l (.mk true c d rk rv) _ _ _ W S (fun m hm => hS m (Nat.le_trans hb.size hm)) (hx.below hb) (hl.below hb) (hr.below hb))
  have kr1 := nr.c1
  have kr2 := nr.c2
  have ltr := nr.lt
  clear hS hx hl hr nr hrl hrr
  go_enter Tryz.func71, Tryz.ntmps71
  go_wp2_with (first
    | (go_at_call 69; refine (RedAt.out (by assumption)).mono ?_; rintro e w' ⟨rfl, rfl⟩)
    | (go_at_call 70; refine (HA.out _ (Below.refl _ _)).mono ?_; rintro e w5 ⟨q5, rfl, h5, hb5⟩; have IA := Lib.hid h5; clear h5))
  go_ret
  exact ⟨_, rfl, by rw [HE.out]; exact IA.out, hb5⟩
set_option maxRecDepth 100000 in
set_option maxHeartbeats 1000000 in
theorem bal_c8 (x0 : Bool) (xl xr : Nd) (xk xv : V) (l r : Nd) (hl0 : l.isRed = false) (hr0 : r.isRed = false) (px pl pr : Option Addr) (w : World) (S : Nat → Prop) (hS : ∀ m, w.heap.size ≤ m → S m) (hx : IsN w S (.mk x0 xl xr xk xv) px) (hl : IsN w S l pl) (hr : IsN w S r pr) :
    Calls Tryz.prog 71 #[.pointer px, .pointer pl, .pointer pr] w fun e w' => ∃ q, e = .returned (.pointer q) ∧ IsN w' S (balN (.mk x0 xl xr xk xv) l r) q ∧ Below w.heap.size w w' := by
  have HE : Hid (balN (.mk x0 xl xr xk xv) l r = (.mk false l r xk xv)) := Lib.hid (by clear hx hl hr hS; simp [balN, isRed_mk, left_mk, right_mk, like_mk, *])
  have Rl := red_is (b := false) hl0 hl
  have Rr := red_is (b := false) hr0 hr
  have HA := Lib.hid (fun (W : World) (hb : Below w.heap.size w W) => like_calls x0 xl xr xk xv false l r _ _ _ W S (fun m hm => hS m (Nat.le_trans hb.size hm)) (hx.below hb) (hl.below hb) (hr.below hb))
  clear hS hx hl hr
  go_enter Tryz.func71, Tryz.ntmps71
  go_wp2_with (first
    | (go_at_call 69; refine (RedAt.out (by assumption)).mono ?_; rintro e w' ⟨rfl, rfl⟩)
    | (go_at_call 70; refine (HA.out _ (Below.refl _ _)).mono ?_; rintro e w5 ⟨q5, rfl, h5, hb5⟩; have IA := Lib.hid h5; clear h5))
  go_ret
  exact ⟨_, rfl, by rw [HE.out]; exact IA.out, hb5⟩
/-- A black node's key and value with two trees below. -/
theorem bal_calls (x0 : Bool) (xl xr : Nd) (xk xv : V) (l r : Nd) (px pl pr : Option Addr) (w : World) (S : Nat → Prop) (hS : ∀ m, w.heap.size ≤ m → S m) (hx : IsN w S (.mk x0 xl xr xk xv) px) (hl : IsN w S l pl) (hr : IsN w S r pr) :
    Calls Tryz.prog 71 #[.pointer px, .pointer pl, .pointer pr] w fun e w' => ∃ q, e = .returned (.pointer q) ∧ IsN w' S (balN (.mk x0 xl xr xk xv) l r) q ∧ Below w.heap.size w w' := by
  cases hl0 : l.isRed with
  | true =>
    obtain ⟨a, b, lk, lv, rfl⟩ : ∃ a b lk lv, l = .mk true a b lk lv := ⟨_, _, _, _, red_mk hl0⟩
    cases hr0 : r.isRed with
    | true =>
      obtain ⟨c, d, rk, rv, rfl⟩ : ∃ a b lk lv, r = .mk true a b lk lv := ⟨_, _, _, _, red_mk hr0⟩
      exact bal_c1 x0 xl xr xk xv a b c d lk lv rk rv px pl pr w S hS hx hl hr
    | false =>
      cases ha0 : a.isRed with
      | true =>
        obtain ⟨a1, a2, ak, av, rfl⟩ : ∃ a1 b lk lv, a = .mk true a1 b lk lv := ⟨_, _, _, _, red_mk ha0⟩
        exact bal_c2 x0 xl xr xk xv a1 a2 b r ak av lk lv hr0 px pl pr w S hS hx hl hr
      | false =>
        cases hb0 : b.isRed with
        | true =>
          obtain ⟨b1, b2, bk, bv, rfl⟩ : ∃ a1 b2 lk lv, b = .mk true a1 b2 lk lv := ⟨_, _, _, _, red_mk hb0⟩
          exact bal_c3 x0 xl xr xk xv a b1 b2 r bk bv lk lv ha0 hr0 px pl pr w S hS hx hl hr
        | false => exact bal_c4 x0 xl xr xk xv a b r lk lv ha0 hb0 hr0 px pl pr w S hS hx hl hr
  | false =>
    cases hr0 : r.isRed with
    | true =>
      obtain ⟨c, d, rk, rv, rfl⟩ : ∃ a b lk lv, r = .mk true a b lk lv := ⟨_, _, _, _, red_mk hr0⟩
      cases hd0 : d.isRed with
      | true =>
        obtain ⟨d1, d2, dk, dv, rfl⟩ : ∃ a1 b lk lv, d = .mk true a1 b lk lv := ⟨_, _, _, _, red_mk hd0⟩
        exact bal_c5 x0 xl xr xk xv l c d1 d2 dk dv rk rv hl0 px pl pr w S hS hx hl hr
      | false =>
        cases hc0 : c.isRed with
        | true =>
          obtain ⟨c1, c2, ck, cv, rfl⟩ : ∃ a1 b2 lk lv, c = .mk true a1 b2 lk lv := ⟨_, _, _, _, red_mk hc0⟩
          exact bal_c6 x0 xl xr xk xv l c1 c2 d ck cv rk rv hl0 hd0 px pl pr w S hS hx hl hr
        | false => exact bal_c7 x0 xl xr xk xv l c d rk rv hl0 hc0 hd0 px pl pr w S hS hx hl hr
    | false => exact bal_c8 x0 xl xr xk xv l r hl0 hr0 px pl pr w S hS hx hl hr
end Go.Proofs.YtmnblgaefdahhaaGreatDoor
