/- A key put into a tree. -/
import Derived.Test.YtmnblgaefdahhaaGreatDoorCQsB
import Derived.Test.YtmnblgaefdahhaaGreatDoorCQrC

set_option linter.unusedVariables false
set_option linter.unusedSimpArgs false
namespace Go.Proofs.YtmnblgaefdahhaaGreatDoor
open Go.RowKit Go.Shelf
attribute [local go_sem] lt_succ_of

/-- Right keys. -/
def RtN (t : Nd) : Prop := ∀ x ∈ keysN t, rightB x = true
theorem rtN_left {red : Bool} {l r : Nd} {k v : V} (h : RtN (.mk red l r k v)) : RtN l := fun x hx => h x (List.mem_append_left _ hx)
theorem rtN_right {red : Bool} {l r : Nd} {k v : V} (h : RtN (.mk red l r k v)) : RtN r := fun x hx => h x (List.mem_append_right _ (List.mem_cons_of_mem _ hx))
theorem rtN_key {red : Bool} {l r : Nd} {k v : V} (h : RtN (.mk red l r k v)) : rightB k = true := h k (List.mem_append_right _ List.mem_cons_self)
/-- A method of a receiver that compares by an order, here and wherever the world has but grown. -/
structure Cg (c : V → V → Int) (g : Nat) (mp : Option Addr) (w : World) : Prop where
  eg : ∀ args w, (callFunc g args).run Tryz.prog w = .ok (.enter g args) w
  hat : ∀ w', Below w.heap.size w w' → ∀ (x y : V) (vx vy : Value) (S S' : Nat → Prop), IsV w' S x vx → IsV w' S' y vy → rightB x = true → rightB y = true → Lib.Utf8Tabs 1 2 w' → Calls Tryz.prog g #[.pointer mp, vx, vy] w' fun e w'' => e = .returned (.int .i64 (c x y)) ∧ Bd w' w''
theorem Cg.below {c : V → V → Int} {g : Nat} {mp : Option Addr} {w w' : World} (h : Cg c g mp w) (hb : Below w.heap.size w w') : Cg c g mp w' := ⟨h.eg, fun w'' hb' => h.hat w'' (below_then hb hb.size hb')⟩
theorem three_box (w : World) (o1 o2 o3 : Obj) : Below w.heap.size w (((w.alloc o1).alloc o2).alloc o3) ∧ (((w.alloc o1).alloc o2).alloc o3).heap[w.heap.size + 1 + 1]? = some o3 := by
  refine ⟨(((Below.refl _ _).alloc (Nat.le_refl _) _).alloc (by simp) _).alloc (by simp; omega) _, ?_⟩
  have := heap_alloc_new ((w.alloc o1).alloc o2) o3
  simpa using this
def InsAtT (c : V → V → Int) (k v : V) (S : Nat → Prop) (g : Nat) (mp : Option Addr) (t : Nd) : Prop := ∀ (p : Option Addr) (vk vv : Value) (w : World), (∀ m, w.heap.size ≤ m → S m) → IsN w S t p → IsV w S k vk → IsV w S v vv → RtN t → Cg c g mp w → Lib.Utf8Tabs 1 2 w →
  Calls Tryz.prog 52 #[.pointer p, vk, vv, .func (.func g) #[.pointer mp] #[]] w fun e w' => ∃ q, e = .returned (.pointer q) ∧ IsN w' S (insN c k v t) q ∧ Below w.heap.size w w'
set_option maxRecDepth 100000 in
set_option maxHeartbeats 1000000 in
theorem ins_nil (c : V → V → Int) (k v : V) (S : Nat → Prop) (g : Nat) (mp : Option Addr) : InsAtT c k v S g mp .nil := by
  intro p vk vv w hS hx hk hv _ _ _
  obtain rfl : p = none := hx
  obtain ⟨hbk, A, ca, rfl, hka, hA⟩ := hk.eq
  obtain ⟨hbv, B, cb2, rfl, hvb, hB⟩ := hv.eq
  have HN := Lib.hid (And.intro (And.intro hbk hbv) (And.intro hA hB))
  have HS := Lib.hid hS
  clear hk hv hbk hbv hA hB hS
  go_enter Tryz.func52, Tryz.ntmps52
  go_wp2_with fail
  go_ret
  have hb := three_box w (.cells #[.int .i64 k.kind, .int .i64 k.num, .string k.text, .slice A k.items.length ca] 39) (.cells #[.int .i64 v.kind, .int .i64 v.num, .string v.text, .slice B v.items.length cb2] 39) (.cells #[.bool true, .pointer none, .pointer none, .int .i64 k.kind, .int .i64 k.num, .string k.text, .slice A k.items.length ca, .int .i64 v.kind, .int .i64 v.num, .string v.text, .slice B v.items.length cb2] 118)
  exact ⟨_, rfl, IsN.new (l := .nil) (r := .nil) HN.out.1.1 HN.out.1.2 hka hvb (HN.out.2.1.below hb.1) (HN.out.2.2.below hb.1) (HS.out _ (by omega)) rfl rfl hb.2, hb.1⟩
theorem chain_then' {w w1 w2 : World} (h1 : Below w.heap.size w w1) (h2 : Below w1.heap.size w1 w2) : Below w.heap.size w w2 := below_then h1 h1.size h2
theorem Two.keep' {b c : Nat} {x y : V} {A B : Option Addr} {ca cb : Nat} {w w' : World} (h : Two b c x y A B ca cb w) (hb : Below w.heap.size w w') : Two b c x y A B ca cb w' := by
  obtain ⟨h0, h1, h2, h3, h4, h5, h6, h7⟩ := h
  exact ⟨cellB hb h0, cellB hb h1, cellB hb h2, cellB hb h3, cellB hb h4, cellB hb h5, cellB hb h6, cellB hb h7⟩
set_option maxRecDepth 100000 in
set_option maxHeartbeats 1000000 in
theorem ins_eq (c : V → V → Int) (k v : V) (S : Nat → Prop) (g : Nat) (mp : Option Addr) (red : Bool) (l r : Nd) (k' v' : V) (hkr : rightB k = true) (hc : c k k' = 0)
    (p : Option Addr) (vk vv : Value) (w : World) (hS : ∀ m, w.heap.size ≤ m → S m) (hx : IsN w S (.mk red l r k' v') p) (hk : IsV w S k vk) (hv : IsV w S v vv) (hrt : RtN (.mk red l r k' v')) (hC : Cg c g mp w) (hT : Lib.Utf8Tabs 1 2 w) :
    Calls Tryz.prog 52 #[.pointer p, vk, vv, .func (.func g) #[.pointer mp] #[]] w fun e w' => ∃ q, e = .returned (.pointer q) ∧ IsN w' S (insN c k v (.mk red l r k' v')) q ∧ Below w.heap.size w w' := by
  have HE : Hid (insN c k v (.mk red l r k' v') = Nd.mk red l r k v) := Lib.hid (by rw [insN]; rw [if_pos hc])
  have _u := hkr
  have hk9 := hk
  have hv9 := hv
  obtain ⟨hbk, A, ca, rfl, hka, hA⟩ := hk.eq
  obtain ⟨hbv, B, cb2, rfl, hvb, hB⟩ := hv.eq
  obtain ⟨b, pl, pr, A', ca', B', cb', rfl, nd, hl, hr⟩ := (show IsN w S _ _ from hx).eq
  obtain ⟨w1, hw1, hB1', hsz, hTw⟩ := box2d w k v A B ca cb2
  have hB1 := hB1'.below
  have hB2 : Below w.heap.size w w1.drew := chain_then' hB1 ((Below.refl _ _).drew)
  have HK := Lib.hid (hC.hat w1.drew hB2 k k' _ _ S S (hk9.below hB2) ((IsV.mk nd.bk nd.ka nd.lk).below hB2) hkr (rtN_key hrt) (tabs_below hT hB2))
  have eg := hC.eg
  have x0 := cellB hB1 nd.c0
  have x1 := cellB hB1 nd.c1
  have x2 := cellB hB1 nd.c2
  have x3 := cellB hB1 nd.c3
  have x4 := cellB hB1 nd.c4
  have x5 := cellB hB1 nd.c5
  have x6 := cellB hB1 nd.c6
  have hlt := Nat.lt_of_lt_of_le nd.lt hB1.size
  have HTW := Lib.hid hTw
  have HB1 := Lib.hid hB1
  have HS := Lib.hid hS
  have HN := Lib.hid (And.intro (And.intro hbk hbv) (And.intro hA hB))
  have HLR := Lib.hid (And.intro hl hr)
  obtain ⟨C, hCC⟩ : ∃ C, c k k' = C := ⟨_, rfl⟩
  rw [hCC] at HK hc
  have z0 : (C == 0) = true := by simpa using hc
  unfold Two at hTw
  obtain ⟨a0, a1, a2, a3, b0, b1, b2, b3⟩ := hTw
  clear hx hk hv hk9 hv9 hC hT hrt hl hr nd hbk hbv hA hB hS hB2 hB1 hB1' hc hCC
  go_enter Tryz.func52, Tryz.ntmps52
  go_wp2_with fail
  go_still_tail 6, (by kernel_rfl)
  go_wp2_with fail
  refine HK.out.mono ?_
  rintro e w2 ⟨rfl, hb2'⟩
  have hb2 := below_undrew hb2'.below
  have HTW2 := Lib.hid (HTW.out.keep' hb2)
  have y0 := cellB hb2 x0
  have y1 := cellB hb2 x1
  have y2 := cellB hb2 x2
  have hlt2 := Nat.lt_of_lt_of_le hlt hb2.size
  have hbw := chain_then' HB1.out hb2
  clear x0 x1 x2 x3 x4 x5 x6 a0 a1 a2 a3 b0 b1 b2 b3 hb2' HK
  have hTw2 := HTW2.out
  unfold Two at hTw2
  obtain ⟨a0, a1, a2, a3, b0, b1, b2, b3⟩ := hTw2
  have hsz2 := Nat.lt_of_lt_of_le hsz hb2.size
  have hsz3 : w.heap.size < w2.heap.size := by omega
  go_wp2_with fail
  go_region
  go_wp2_with fail
  go_ret
  have hb3 := drew_of' w2 (.cells #[.bool red, .pointer pl, .pointer pr, .int .i64 k.kind, .int .i64 k.num, .string k.text, .slice A k.items.length ca, .int .i64 v.kind, .int .i64 v.num, .string v.text, .slice B v.items.length cb2] 118)
  have hb4 := chain_then' hbw hb3
  exact ⟨_, rfl, by rw [HE.out]; exact IsN.new HN.out.1.1 HN.out.1.2 hka hvb (HN.out.2.1.below hb4) (HN.out.2.2.below hb4) (HS.out _ hbw.size) (HLR.out.1.below hb4) (HLR.out.2.below hb4) (heap_alloc_new w2 _), hb4⟩
set_option maxRecDepth 100000 in
set_option maxHeartbeats 1000000 in
theorem ins_ltr (c : V → V → Int) (k v : V) (S : Nat → Prop) (g : Nat) (mp : Option Addr) (l r : Nd) (k' v' : V) (hkr : rightB k = true) (hc : c k k' < 0) (ih : InsAtT c k v S g mp l)
    (p : Option Addr) (vk vv : Value) (w : World) (hS : ∀ m, w.heap.size ≤ m → S m) (hx : IsN w S (.mk true l r k' v') p) (hk : IsV w S k vk) (hv : IsV w S v vv) (hrt : RtN (.mk true l r k' v')) (hC : Cg c g mp w) (hT : Lib.Utf8Tabs 1 2 w) :
    Calls Tryz.prog 52 #[.pointer p, vk, vv, .func (.func g) #[.pointer mp] #[]] w fun e w' => ∃ q, e = .returned (.pointer q) ∧ IsN w' S (insN c k v (.mk true l r k' v')) q ∧ Below w.heap.size w w' := by
  have HE : Hid (insN c k v (.mk true l r k' v') = Nd.mk true (insN c k v l) r k' v') := Lib.hid (by rw [insN]; rw [if_neg (by omega), if_pos (by omega), if_pos rfl])
  have _u := hkr
  have hk9 := hk
  have hv9 := hv
  obtain ⟨hbk, A, ca, rfl, hka, hA⟩ := hk.eq
  obtain ⟨hbv, B, cb2, rfl, hvb, hB⟩ := hv.eq
  obtain ⟨b, pl, pr, A', ca', B', cb', rfl, nd, hl, hr⟩ := (show IsN w S _ _ from hx).eq
  obtain ⟨w1, hw1, hB1', hsz, hTw⟩ := box2d w k v A B ca cb2
  have hB1 := hB1'.below
  have hB2 : Below w.heap.size w w1.drew := chain_then' hB1 ((Below.refl _ _).drew)
  have HK := Lib.hid (hC.hat w1.drew hB2 k k' _ _ S S (hk9.below hB2) ((IsV.mk nd.bk nd.ka nd.lk).below hB2) hkr (rtN_key hrt) (tabs_below hT hB2))
  have eg := hC.eg
  have x0 := cellB hB1 nd.c0
  have x1 := cellB hB1 nd.c1
  have x2 := cellB hB1 nd.c2
  have x3 := cellB hB1 nd.c3
  have x4 := cellB hB1 nd.c4
  have x5 := cellB hB1 nd.c5
  have x6 := cellB hB1 nd.c6
  have hlt := Nat.lt_of_lt_of_le nd.lt hB1.size
  have HTW := Lib.hid hTw
  have HB1 := Lib.hid hB1
  have HS := Lib.hid hS
  have HI := Lib.hid (fun (W : World) (hb : Below w.heap.size w W) => ih pl _ _ W (fun m hm => hS m (Nat.le_trans hb.size hm)) (hl.below hb) (hk9.below hb) (hv9.below hb) (rtN_left hrt) (hC.below hb) (tabs_below hT hb))
  have H2 := Lib.hid (fun (W : World) (hb : Below w.heap.size w W) (q : Option Addr) (hq : IsN W S (insN c k v l) q) => like_calls true l r k' v' true (insN c k v l) r _ q pr W S (fun m hm => hS m (Nat.le_trans hb.size hm)) (hx.below hb) hq (hr.below hb))
  obtain ⟨C, hCC⟩ : ∃ C, c k k' = C := ⟨_, rfl⟩
  rw [hCC] at HK hc
  have z0 : (C == 0) = false := by rw [beq_eq_false_iff_ne]; omega
  have z1 : decide (C < 0) = true := by exact decide_eq_true hc
  unfold Two at hTw
  obtain ⟨a0, a1, a2, a3, b0, b1, b2, b3⟩ := hTw
  clear hx hk hv hk9 hv9 hC hT hrt hl hr nd hbk hbv hA hB hS hB2 hB1 hB1' hc hCC ih
  go_enter Tryz.func52, Tryz.ntmps52
  go_wp2_with fail
  go_still_tail 6, (by kernel_rfl)
  go_wp2_with fail
  refine HK.out.mono ?_
  rintro e w2 ⟨rfl, hb2'⟩
  have hb2 := below_undrew hb2'.below
  have HTW2 := Lib.hid (HTW.out.keep' hb2)
  have y0 := cellB hb2 x0
  have y1 := cellB hb2 x1
  have y2 := cellB hb2 x2
  have hlt2 := Nat.lt_of_lt_of_le hlt hb2.size
  have hbw := chain_then' HB1.out hb2
  clear x0 x1 x2 x3 x4 x5 x6 a0 a1 a2 a3 b0 b1 b2 b3 hb2' HK
  have hTw2 := HTW2.out
  unfold Two at hTw2
  obtain ⟨a0, a1, a2, a3, b0, b1, b2, b3⟩ := hTw2
  have hsz2 := Nat.lt_of_lt_of_le hsz hb2.size
  have hsz3 : w.heap.size < w2.heap.size := by omega
  have HY : Hid (w2.cell? ⟨b, 1, none⟩ = some (.pointer pl) ∧ w2.cell? ⟨b, 2, none⟩ = some (.pointer pr)) := Lib.hid ⟨y1, y2⟩
  have hbr : Below w.heap.size w w2.drew := hbw.drew
  have hk2 : Below w2.heap.size w2 w2.drew := (Below.refl _ _).drew
  clear hbw hb2
  go_wp2_with fail
  go_region_held3 (fun W => W.cell? ⟨b, 1, none⟩ = some (.pointer pl) ∧ W.cell? ⟨b, 2, none⟩ = some (.pointer pr) ∧ W.cell? ⟨w.heap.size, 0, none⟩ = some (.int .i64 k.kind) ∧ W.cell? ⟨w.heap.size, 1, none⟩ = some (.int .i64 k.num) ∧ W.cell? ⟨w.heap.size, 2, none⟩ = some (.string k.text) ∧ W.cell? ⟨w.heap.size, 3, none⟩ = some (.slice A k.items.length ca) ∧ W.cell? ⟨w.heap.size + 1, 0, none⟩ = some (.int .i64 v.kind) ∧ W.cell? ⟨w.heap.size + 1, 1, none⟩ = some (.int .i64 v.num) ∧ W.cell? ⟨w.heap.size + 1, 2, none⟩ = some (.string v.text) ∧ W.cell? ⟨w.heap.size + 1, 3, none⟩ = some (.slice B v.items.length cb2))
    (exact ⟨cellB (by with_reducible assumption) HY.out.1, cellB (by with_reducible assumption) HY.out.2, HTW2.out.keep' (by with_reducible assumption)⟩)
    (first
      | (go_at_call 52; refine (HI.out _ hbr).mono ?_; rintro e w5 ⟨q5, rfl, h5, hb5⟩; have hbr := chain_then' hbr hb5; have hk2 := chain_then' hk2 hb5; have I5 := Lib.hid h5; clear h5 hb5)
      | (go_at_call 70; refine (H2.out _ hbr _ I5.out).mono ?_; rintro e w6 ⟨q6, rfl, h6, hb6⟩; have hbr := chain_then' hbr hb6; have hk2 := chain_then' hk2 hb6; have I6 := Lib.hid h6; clear h6 hb6))
  go_wp2_with fail
  go_ret
  exact ⟨_, rfl, by rw [HE.out]; exact I6.out, hbr⟩
set_option maxRecDepth 100000 in
set_option maxHeartbeats 1000000 in
theorem ins_ltb (c : V → V → Int) (k v : V) (S : Nat → Prop) (g : Nat) (mp : Option Addr) (l r : Nd) (k' v' : V) (hkr : rightB k = true) (hc : c k k' < 0) (ih : InsAtT c k v S g mp l)
    (p : Option Addr) (vk vv : Value) (w : World) (hS : ∀ m, w.heap.size ≤ m → S m) (hx : IsN w S (.mk false l r k' v') p) (hk : IsV w S k vk) (hv : IsV w S v vv) (hrt : RtN (.mk false l r k' v')) (hC : Cg c g mp w) (hT : Lib.Utf8Tabs 1 2 w) :
    Calls Tryz.prog 52 #[.pointer p, vk, vv, .func (.func g) #[.pointer mp] #[]] w fun e w' => ∃ q, e = .returned (.pointer q) ∧ IsN w' S (insN c k v (.mk false l r k' v')) q ∧ Below w.heap.size w w' := by
  have HE : Hid (insN c k v (.mk false l r k' v') = balN (.mk false l r k' v') (insN c k v l) r) := Lib.hid (by rw [insN]; rw [if_neg (by omega), if_pos (by omega), if_neg (by decide)])
  have _u := hkr
  have hk9 := hk
  have hv9 := hv
  obtain ⟨hbk, A, ca, rfl, hka, hA⟩ := hk.eq
  obtain ⟨hbv, B, cb2, rfl, hvb, hB⟩ := hv.eq
  obtain ⟨b, pl, pr, A', ca', B', cb', rfl, nd, hl, hr⟩ := (show IsN w S _ _ from hx).eq
  obtain ⟨w1, hw1, hB1', hsz, hTw⟩ := box2d w k v A B ca cb2
  have hB1 := hB1'.below
  have hB2 : Below w.heap.size w w1.drew := chain_then' hB1 ((Below.refl _ _).drew)
  have HK := Lib.hid (hC.hat w1.drew hB2 k k' _ _ S S (hk9.below hB2) ((IsV.mk nd.bk nd.ka nd.lk).below hB2) hkr (rtN_key hrt) (tabs_below hT hB2))
  have eg := hC.eg
  have x0 := cellB hB1 nd.c0
  have x1 := cellB hB1 nd.c1
  have x2 := cellB hB1 nd.c2
  have x3 := cellB hB1 nd.c3
  have x4 := cellB hB1 nd.c4
  have x5 := cellB hB1 nd.c5
  have x6 := cellB hB1 nd.c6
  have hlt := Nat.lt_of_lt_of_le nd.lt hB1.size
  have HTW := Lib.hid hTw
  have HB1 := Lib.hid hB1
  have HS := Lib.hid hS
  have HI := Lib.hid (fun (W : World) (hb : Below w.heap.size w W) => ih pl _ _ W (fun m hm => hS m (Nat.le_trans hb.size hm)) (hl.below hb) (hk9.below hb) (hv9.below hb) (rtN_left hrt) (hC.below hb) (tabs_below hT hb))
  have H2 := Lib.hid (fun (W : World) (hb : Below w.heap.size w W) (q : Option Addr) (hq : IsN W S (insN c k v l) q) => bal_calls false l r k' v' (insN c k v l) r _ q pr W S (fun m hm => hS m (Nat.le_trans hb.size hm)) (hx.below hb) hq (hr.below hb))
  obtain ⟨C, hCC⟩ : ∃ C, c k k' = C := ⟨_, rfl⟩
  rw [hCC] at HK hc
  have z0 : (C == 0) = false := by rw [beq_eq_false_iff_ne]; omega
  have z1 : decide (C < 0) = true := by exact decide_eq_true hc
  unfold Two at hTw
  obtain ⟨a0, a1, a2, a3, b0, b1, b2, b3⟩ := hTw
  clear hx hk hv hk9 hv9 hC hT hrt hl hr nd hbk hbv hA hB hS hB2 hB1 hB1' hc hCC ih
  go_enter Tryz.func52, Tryz.ntmps52
  go_wp2_with fail
  go_still_tail 6, (by kernel_rfl)
  go_wp2_with fail
  refine HK.out.mono ?_
  rintro e w2 ⟨rfl, hb2'⟩
  have hb2 := below_undrew hb2'.below
  have HTW2 := Lib.hid (HTW.out.keep' hb2)
  have y0 := cellB hb2 x0
  have y1 := cellB hb2 x1
  have y2 := cellB hb2 x2
  have hlt2 := Nat.lt_of_lt_of_le hlt hb2.size
  have hbw := chain_then' HB1.out hb2
  clear x0 x1 x2 x3 x4 x5 x6 a0 a1 a2 a3 b0 b1 b2 b3 hb2' HK
  have hTw2 := HTW2.out
  unfold Two at hTw2
  obtain ⟨a0, a1, a2, a3, b0, b1, b2, b3⟩ := hTw2
  have hsz2 := Nat.lt_of_lt_of_le hsz hb2.size
  have hsz3 : w.heap.size < w2.heap.size := by omega
  have HY : Hid (w2.cell? ⟨b, 1, none⟩ = some (.pointer pl) ∧ w2.cell? ⟨b, 2, none⟩ = some (.pointer pr)) := Lib.hid ⟨y1, y2⟩
  have hbr : Below w.heap.size w w2.drew := hbw.drew
  have hk2 : Below w2.heap.size w2 w2.drew := (Below.refl _ _).drew
  clear hbw hb2
  go_wp2_with fail
  go_region_held3 (fun W => W.cell? ⟨b, 1, none⟩ = some (.pointer pl) ∧ W.cell? ⟨b, 2, none⟩ = some (.pointer pr) ∧ W.cell? ⟨w.heap.size, 0, none⟩ = some (.int .i64 k.kind) ∧ W.cell? ⟨w.heap.size, 1, none⟩ = some (.int .i64 k.num) ∧ W.cell? ⟨w.heap.size, 2, none⟩ = some (.string k.text) ∧ W.cell? ⟨w.heap.size, 3, none⟩ = some (.slice A k.items.length ca) ∧ W.cell? ⟨w.heap.size + 1, 0, none⟩ = some (.int .i64 v.kind) ∧ W.cell? ⟨w.heap.size + 1, 1, none⟩ = some (.int .i64 v.num) ∧ W.cell? ⟨w.heap.size + 1, 2, none⟩ = some (.string v.text) ∧ W.cell? ⟨w.heap.size + 1, 3, none⟩ = some (.slice B v.items.length cb2))
    (exact ⟨cellB (by with_reducible assumption) HY.out.1, cellB (by with_reducible assumption) HY.out.2, HTW2.out.keep' (by with_reducible assumption)⟩)
    (first
      | (go_at_call 52; refine (HI.out _ hbr).mono ?_; rintro e w5 ⟨q5, rfl, h5, hb5⟩; have hbr := chain_then' hbr hb5; have hk2 := chain_then' hk2 hb5; have I5 := Lib.hid h5; clear h5 hb5)
      | (go_at_call 71; refine (H2.out _ hbr _ I5.out).mono ?_; rintro e w6 ⟨q6, rfl, h6, hb6⟩; have hbr := chain_then' hbr hb6; have hk2 := chain_then' hk2 hb6; have I6 := Lib.hid h6; clear h6 hb6))
  go_wp2_with fail
  go_ret
  exact ⟨_, rfl, by rw [HE.out]; exact I6.out, hbr⟩
set_option maxRecDepth 100000 in
set_option maxHeartbeats 1000000 in
theorem ins_gtr (c : V → V → Int) (k v : V) (S : Nat → Prop) (g : Nat) (mp : Option Addr) (l r : Nd) (k' v' : V) (hkr : rightB k = true) (hc : 0 < c k k') (ih : InsAtT c k v S g mp r)
    (p : Option Addr) (vk vv : Value) (w : World) (hS : ∀ m, w.heap.size ≤ m → S m) (hx : IsN w S (.mk true l r k' v') p) (hk : IsV w S k vk) (hv : IsV w S v vv) (hrt : RtN (.mk true l r k' v')) (hC : Cg c g mp w) (hT : Lib.Utf8Tabs 1 2 w) :
    Calls Tryz.prog 52 #[.pointer p, vk, vv, .func (.func g) #[.pointer mp] #[]] w fun e w' => ∃ q, e = .returned (.pointer q) ∧ IsN w' S (insN c k v (.mk true l r k' v')) q ∧ Below w.heap.size w w' := by
  have HE : Hid (insN c k v (.mk true l r k' v') = Nd.mk true l (insN c k v r) k' v') := Lib.hid (by rw [insN]; rw [if_neg (by omega), if_neg (by omega), if_pos rfl])
  have _u := hkr
  have hk9 := hk
  have hv9 := hv
  obtain ⟨hbk, A, ca, rfl, hka, hA⟩ := hk.eq
  obtain ⟨hbv, B, cb2, rfl, hvb, hB⟩ := hv.eq
  obtain ⟨b, pl, pr, A', ca', B', cb', rfl, nd, hl, hr⟩ := (show IsN w S _ _ from hx).eq
  obtain ⟨w1, hw1, hB1', hsz, hTw⟩ := box2d w k v A B ca cb2
  have hB1 := hB1'.below
  have hB2 : Below w.heap.size w w1.drew := chain_then' hB1 ((Below.refl _ _).drew)
  have HK := Lib.hid (hC.hat w1.drew hB2 k k' _ _ S S (hk9.below hB2) ((IsV.mk nd.bk nd.ka nd.lk).below hB2) hkr (rtN_key hrt) (tabs_below hT hB2))
  have eg := hC.eg
  have x0 := cellB hB1 nd.c0
  have x1 := cellB hB1 nd.c1
  have x2 := cellB hB1 nd.c2
  have x3 := cellB hB1 nd.c3
  have x4 := cellB hB1 nd.c4
  have x5 := cellB hB1 nd.c5
  have x6 := cellB hB1 nd.c6
  have hlt := Nat.lt_of_lt_of_le nd.lt hB1.size
  have HTW := Lib.hid hTw
  have HB1 := Lib.hid hB1
  have HS := Lib.hid hS
  have HI := Lib.hid (fun (W : World) (hb : Below w.heap.size w W) => ih pr _ _ W (fun m hm => hS m (Nat.le_trans hb.size hm)) (hr.below hb) (hk9.below hb) (hv9.below hb) (rtN_right hrt) (hC.below hb) (tabs_below hT hb))
  have H2 := Lib.hid (fun (W : World) (hb : Below w.heap.size w W) (q : Option Addr) (hq : IsN W S (insN c k v r) q) => like_calls true l r k' v' true l (insN c k v r) _ pl q W S (fun m hm => hS m (Nat.le_trans hb.size hm)) (hx.below hb) (hl.below hb) hq)
  obtain ⟨C, hCC⟩ : ∃ C, c k k' = C := ⟨_, rfl⟩
  rw [hCC] at HK hc
  have z0 : (C == 0) = false := by rw [beq_eq_false_iff_ne]; omega
  have z1 : decide (C < 0) = false := by exact decide_eq_false (by omega)
  unfold Two at hTw
  obtain ⟨a0, a1, a2, a3, b0, b1, b2, b3⟩ := hTw
  clear hx hk hv hk9 hv9 hC hT hrt hl hr nd hbk hbv hA hB hS hB2 hB1 hB1' hc hCC ih
  go_enter Tryz.func52, Tryz.ntmps52
  go_wp2_with fail
  go_still_tail 6, (by kernel_rfl)
  go_wp2_with fail
  refine HK.out.mono ?_
  rintro e w2 ⟨rfl, hb2'⟩
  have hb2 := below_undrew hb2'.below
  have HTW2 := Lib.hid (HTW.out.keep' hb2)
  have y0 := cellB hb2 x0
  have y1 := cellB hb2 x1
  have y2 := cellB hb2 x2
  have hlt2 := Nat.lt_of_lt_of_le hlt hb2.size
  have hbw := chain_then' HB1.out hb2
  clear x0 x1 x2 x3 x4 x5 x6 a0 a1 a2 a3 b0 b1 b2 b3 hb2' HK
  have hTw2 := HTW2.out
  unfold Two at hTw2
  obtain ⟨a0, a1, a2, a3, b0, b1, b2, b3⟩ := hTw2
  have hsz2 := Nat.lt_of_lt_of_le hsz hb2.size
  have hsz3 : w.heap.size < w2.heap.size := by omega
  have HY : Hid (w2.cell? ⟨b, 1, none⟩ = some (.pointer pl) ∧ w2.cell? ⟨b, 2, none⟩ = some (.pointer pr)) := Lib.hid ⟨y1, y2⟩
  have hbr : Below w.heap.size w w2.drew := hbw.drew
  have hk2 : Below w2.heap.size w2 w2.drew := (Below.refl _ _).drew
  clear hbw hb2
  go_wp2_with fail
  go_region_held3 (fun W => W.cell? ⟨b, 1, none⟩ = some (.pointer pl) ∧ W.cell? ⟨b, 2, none⟩ = some (.pointer pr) ∧ W.cell? ⟨w.heap.size, 0, none⟩ = some (.int .i64 k.kind) ∧ W.cell? ⟨w.heap.size, 1, none⟩ = some (.int .i64 k.num) ∧ W.cell? ⟨w.heap.size, 2, none⟩ = some (.string k.text) ∧ W.cell? ⟨w.heap.size, 3, none⟩ = some (.slice A k.items.length ca) ∧ W.cell? ⟨w.heap.size + 1, 0, none⟩ = some (.int .i64 v.kind) ∧ W.cell? ⟨w.heap.size + 1, 1, none⟩ = some (.int .i64 v.num) ∧ W.cell? ⟨w.heap.size + 1, 2, none⟩ = some (.string v.text) ∧ W.cell? ⟨w.heap.size + 1, 3, none⟩ = some (.slice B v.items.length cb2))
    (exact ⟨cellB (by with_reducible assumption) HY.out.1, cellB (by with_reducible assumption) HY.out.2, HTW2.out.keep' (by with_reducible assumption)⟩)
    (first
      | (go_at_call 52; refine (HI.out _ hbr).mono ?_; rintro e w5 ⟨q5, rfl, h5, hb5⟩; have hbr := chain_then' hbr hb5; have hk2 := chain_then' hk2 hb5; have I5 := Lib.hid h5; clear h5 hb5)
      | (go_at_call 70; refine (H2.out _ hbr _ I5.out).mono ?_; rintro e w6 ⟨q6, rfl, h6, hb6⟩; have hbr := chain_then' hbr hb6; have hk2 := chain_then' hk2 hb6; have I6 := Lib.hid h6; clear h6 hb6))
  go_wp2_with fail
  go_ret
  exact ⟨_, rfl, by rw [HE.out]; exact I6.out, hbr⟩
set_option maxRecDepth 100000 in
set_option maxHeartbeats 1000000 in
theorem ins_gtb (c : V → V → Int) (k v : V) (S : Nat → Prop) (g : Nat) (mp : Option Addr) (l r : Nd) (k' v' : V) (hkr : rightB k = true) (hc : 0 < c k k') (ih : InsAtT c k v S g mp r)
    (p : Option Addr) (vk vv : Value) (w : World) (hS : ∀ m, w.heap.size ≤ m → S m) (hx : IsN w S (.mk false l r k' v') p) (hk : IsV w S k vk) (hv : IsV w S v vv) (hrt : RtN (.mk false l r k' v')) (hC : Cg c g mp w) (hT : Lib.Utf8Tabs 1 2 w) :
    Calls Tryz.prog 52 #[.pointer p, vk, vv, .func (.func g) #[.pointer mp] #[]] w fun e w' => ∃ q, e = .returned (.pointer q) ∧ IsN w' S (insN c k v (.mk false l r k' v')) q ∧ Below w.heap.size w w' := by
  have HE : Hid (insN c k v (.mk false l r k' v') = balN (.mk false l r k' v') l (insN c k v r)) := Lib.hid (by rw [insN]; rw [if_neg (by omega), if_neg (by omega), if_neg (by decide)])
  have _u := hkr
  have hk9 := hk
  have hv9 := hv
  obtain ⟨hbk, A, ca, rfl, hka, hA⟩ := hk.eq
  obtain ⟨hbv, B, cb2, rfl, hvb, hB⟩ := hv.eq
  obtain ⟨b, pl, pr, A', ca', B', cb', rfl, nd, hl, hr⟩ := (show IsN w S _ _ from hx).eq
  obtain ⟨w1, hw1, hB1', hsz, hTw⟩ := box2d w k v A B ca cb2
  have hB1 := hB1'.below
  have hB2 : Below w.heap.size w w1.drew := chain_then' hB1 ((Below.refl _ _).drew)
  have HK := Lib.hid (hC.hat w1.drew hB2 k k' _ _ S S (hk9.below hB2) ((IsV.mk nd.bk nd.ka nd.lk).below hB2) hkr (rtN_key hrt) (tabs_below hT hB2))
  have eg := hC.eg
  have x0 := cellB hB1 nd.c0
  have x1 := cellB hB1 nd.c1
  have x2 := cellB hB1 nd.c2
  have x3 := cellB hB1 nd.c3
  have x4 := cellB hB1 nd.c4
  have x5 := cellB hB1 nd.c5
  have x6 := cellB hB1 nd.c6
  have hlt := Nat.lt_of_lt_of_le nd.lt hB1.size
  have HTW := Lib.hid hTw
  have HB1 := Lib.hid hB1
  have HS := Lib.hid hS
  have HI := Lib.hid (fun (W : World) (hb : Below w.heap.size w W) => ih pr _ _ W (fun m hm => hS m (Nat.le_trans hb.size hm)) (hr.below hb) (hk9.below hb) (hv9.below hb) (rtN_right hrt) (hC.below hb) (tabs_below hT hb))
  have H2 := Lib.hid (fun (W : World) (hb : Below w.heap.size w W) (q : Option Addr) (hq : IsN W S (insN c k v r) q) => bal_calls false l r k' v' l (insN c k v r) _ pl q W S (fun m hm => hS m (Nat.le_trans hb.size hm)) (hx.below hb) (hl.below hb) hq)
  obtain ⟨C, hCC⟩ : ∃ C, c k k' = C := ⟨_, rfl⟩
  rw [hCC] at HK hc
  have z0 : (C == 0) = false := by rw [beq_eq_false_iff_ne]; omega
  have z1 : decide (C < 0) = false := by exact decide_eq_false (by omega)
  unfold Two at hTw
  obtain ⟨a0, a1, a2, a3, b0, b1, b2, b3⟩ := hTw
  clear hx hk hv hk9 hv9 hC hT hrt hl hr nd hbk hbv hA hB hS hB2 hB1 hB1' hc hCC ih
  go_enter Tryz.func52, Tryz.ntmps52
  go_wp2_with fail
  go_still_tail 6, (by kernel_rfl)
  go_wp2_with fail
  refine HK.out.mono ?_
  rintro e w2 ⟨rfl, hb2'⟩
  have hb2 := below_undrew hb2'.below
  have HTW2 := Lib.hid (HTW.out.keep' hb2)
  have y0 := cellB hb2 x0
  have y1 := cellB hb2 x1
  have y2 := cellB hb2 x2
  have hlt2 := Nat.lt_of_lt_of_le hlt hb2.size
  have hbw := chain_then' HB1.out hb2
  clear x0 x1 x2 x3 x4 x5 x6 a0 a1 a2 a3 b0 b1 b2 b3 hb2' HK
  have hTw2 := HTW2.out
  unfold Two at hTw2
  obtain ⟨a0, a1, a2, a3, b0, b1, b2, b3⟩ := hTw2
  have hsz2 := Nat.lt_of_lt_of_le hsz hb2.size
  have hsz3 : w.heap.size < w2.heap.size := by omega
  have HY : Hid (w2.cell? ⟨b, 1, none⟩ = some (.pointer pl) ∧ w2.cell? ⟨b, 2, none⟩ = some (.pointer pr)) := Lib.hid ⟨y1, y2⟩
  have hbr : Below w.heap.size w w2.drew := hbw.drew
  have hk2 : Below w2.heap.size w2 w2.drew := (Below.refl _ _).drew
  clear hbw hb2
  go_wp2_with fail
  go_region_held3 (fun W => W.cell? ⟨b, 1, none⟩ = some (.pointer pl) ∧ W.cell? ⟨b, 2, none⟩ = some (.pointer pr) ∧ W.cell? ⟨w.heap.size, 0, none⟩ = some (.int .i64 k.kind) ∧ W.cell? ⟨w.heap.size, 1, none⟩ = some (.int .i64 k.num) ∧ W.cell? ⟨w.heap.size, 2, none⟩ = some (.string k.text) ∧ W.cell? ⟨w.heap.size, 3, none⟩ = some (.slice A k.items.length ca) ∧ W.cell? ⟨w.heap.size + 1, 0, none⟩ = some (.int .i64 v.kind) ∧ W.cell? ⟨w.heap.size + 1, 1, none⟩ = some (.int .i64 v.num) ∧ W.cell? ⟨w.heap.size + 1, 2, none⟩ = some (.string v.text) ∧ W.cell? ⟨w.heap.size + 1, 3, none⟩ = some (.slice B v.items.length cb2))
    (exact ⟨cellB (by with_reducible assumption) HY.out.1, cellB (by with_reducible assumption) HY.out.2, HTW2.out.keep' (by with_reducible assumption)⟩)
    (first
      | (go_at_call 52; refine (HI.out _ hbr).mono ?_; rintro e w5 ⟨q5, rfl, h5, hb5⟩; have hbr := chain_then' hbr hb5; have hk2 := chain_then' hk2 hb5; have I5 := Lib.hid h5; clear h5 hb5)
      | (go_at_call 71; refine (H2.out _ hbr _ I5.out).mono ?_; rintro e w6 ⟨q6, rfl, h6, hb6⟩; have hbr := chain_then' hbr hb6; have hk2 := chain_then' hk2 hb6; have I6 := Lib.hid h6; clear h6 hb6))
  go_wp2_with fail
  go_ret
  exact ⟨_, rfl, by rw [HE.out]; exact I6.out, hbr⟩
theorem ins_all (c : V → V → Int) (k v : V) (hkr : rightB k = true) (S : Nat → Prop) (g : Nat) (mp : Option Addr) : ∀ t : Nd, InsAtT c k v S g mp t
  | .nil => ins_nil c k v S g mp
  | .mk red l r k' v' => fun p vk vv w hS hx hk hv hrt hC hT => by
    have il := ins_all c k v hkr S g mp l
    have ir := ins_all c k v hkr S g mp r
    by_cases h0 : c k k' = 0
    · exact ins_eq c k v S g mp red l r k' v' hkr h0 p vk vv w hS hx hk hv hrt hC hT
    · by_cases h1 : c k k' < 0
      · cases red with
        | true => exact ins_ltr c k v S g mp l r k' v' hkr h1 il p vk vv w hS hx hk hv hrt hC hT
        | false => exact ins_ltb c k v S g mp l r k' v' hkr h1 il p vk vv w hS hx hk hv hrt hC hT
      · cases red with
        | true => exact ins_gtr c k v S g mp l r k' v' hkr (by omega) ir p vk vv w hS hx hk hv hrt hC hT
        | false => exact ins_gtb c k v S g mp l r k' v' hkr (by omega) ir p vk vv w hS hx hk hv hrt hC hT
end Go.Proofs.YtmnblgaefdahhaaGreatDoor
