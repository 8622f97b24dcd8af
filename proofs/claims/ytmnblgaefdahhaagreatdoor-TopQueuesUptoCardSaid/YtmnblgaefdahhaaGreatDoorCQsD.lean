/- Sorted maps: comparing, finding. A key put into a sorted map. -/
import Derived.Handy
import Derived.StillTailTactics
import Derived.Test.YtmnblgaefdahhaaGreatDoorCQsC
import Derived.Test.YtmnblgaefdahhaaGreatDoorCQoH
import Derived.Test.YtmnblgaefdahhaaGreatDoorCQrB
/- Sorted maps: comparing, finding. -/
set_option linter.unusedVariables false
set_option linter.unusedSimpArgs false
namespace Go.Proofs.YtmnblgaefdahhaaGreatDoor
open Go.RowKit Go.Shelf
attribute [local go_sem] lt_succ_of

theorem morder_calls (o : Nat) (b : Nat) (w : World) (h : w.cell? ⟨b, 0, none⟩ = some (.int .i64 o)) : Calls Tryz.prog 50 #[.pointer (some ⟨b, 0, none⟩)] w fun e w' => e = .returned (.int .i64 o) ∧ w = w' := by
  have hlt := World.block_lt_of_cell? w _ h
  go_enter Tryz.func50, Tryz.ntmps50
  go_wp2_with fail
  go_ret
  exact ⟨rfl, rfl⟩
theorem mtree_calls (b : Nat) (q : Option Addr) (w : World) (h : w.cell? ⟨b, 2, none⟩ = some (.pointer q)) : Calls Tryz.prog 53 #[.pointer (some ⟨b, 0, none⟩)] w fun e w' => e = .returned (.pointer q) ∧ w = w' := by
  have hlt := World.block_lt_of_cell? w _ h
  go_enter Tryz.func53, Tryz.ntmps53
  go_wp2_with fail
  go_ret
  exact ⟨rfl, rfl⟩
theorem mlen_calls (b : Nat) (n : Int) (w : World) (h : w.cell? ⟨b, 1, none⟩ = some (.int .i64 n)) : Calls Tryz.prog 48 #[.pointer (some ⟨b, 0, none⟩)] w fun e w' => e = .returned (.int .i64 n) ∧ w = w' := by
  have hlt := World.block_lt_of_cell? w _ h
  go_enter Tryz.func48, Tryz.ntmps48
  go_wp2_with fail
  go_ret
  exact ⟨rfl, rfl⟩
set_option maxRecDepth 100000 in
theorem mcompare_calls (o : Nat) (ho : o < 6) (x y : V) (hrx : rightB x = true) (hry : rightB y = true) (vx vy : Value) (w : World) (S S' : Nat → Prop) (hx : IsV w S x vx) (hy : IsV w S' y vy) (hT : Lib.Utf8Tabs 1 2 w) (b : Nat) (hb0 : w.cell? ⟨b, 0, none⟩ = some (.int .i64 o)) :
    Calls Tryz.prog 54 #[.pointer (some ⟨b, 0, none⟩), vx, vy] w fun e w' => e = .returned (.int .i64 (ordF o x y)) ∧ Bd w w' := by
  have hX9 := hx
  have hY9 := hy
  obtain ⟨hbx, A, ca, rfl, hca, hA⟩ := hx.eq
  obtain ⟨hby, B, cb, rfl, hcb, hB⟩ := hy.eq
  obtain ⟨w1, hw1, hB1, hsz, hTw⟩ := box2d w x y A B ca cb
  have HC := Lib.hid (fun (W : World) (hb : Bd w W) => ocompare_calls o ho x y hrx hry _ _ W S S' (hX9.below hb.below) (hY9.below hb.below) (tabs_d hT hb))
  have HO := Lib.hid (fun (W : World) (hb : Bd w1 W) => morder_calls o b W (cellD (hB1.trans hb) hb0))
  have HTW := Lib.hid hTw
  have HB1 := Lib.hid hB1
  unfold Two at hTw
  obtain ⟨a0, a1, a2, a3, b0, b1, b2, b3⟩ := hTw
  clear hx hy hT hbx hby hA hB hrx hry ho hX9 hY9 hB1
  go_enter Tryz.func54, Tryz.ntmps54
  go_wp2_with fail
  have hbr : Bd w1 w1.drew := Bd.drew w1
  go_region_held3 (fun w' => w'.cell? ⟨w.heap.size, 0, none⟩ = some (.int .i64 x.kind) ∧ w'.cell? ⟨w.heap.size, 1, none⟩ = some (.int .i64 x.num) ∧ w'.cell? ⟨w.heap.size, 2, none⟩ = some (.string x.text) ∧ w'.cell? ⟨w.heap.size, 3, none⟩ = some (.slice A x.items.length ca) ∧ w'.cell? ⟨w.heap.size + 1, 0, none⟩ = some (.int .i64 y.kind) ∧ w'.cell? ⟨w.heap.size + 1, 1, none⟩ = some (.int .i64 y.num) ∧ w'.cell? ⟨w.heap.size + 1, 2, none⟩ = some (.string y.text) ∧ w'.cell? ⟨w.heap.size + 1, 3, none⟩ = some (.slice B y.items.length cb))
    (exact HTW.out.keep (by with_reducible assumption))
    (first
      | (go_at_call 50; refine (HO.out _ hbr).mono ?_; rintro e w2 ⟨rfl, rfl⟩)
      | (go_at_call 44; refine (HC.out _ (HB1.out.trans hbr)).mono ?_; rintro e w2 ⟨rfl, hb2⟩; have hbr := Bd.trans hbr hb2))
  go_wp2_with fail
  go_ret
  exact ⟨rfl, HB1.out.trans hbr⟩
/-- How many nodes a tree has. -/
def sizeN : Nd → Nat
  | .nil => 0
  | .mk _ l r _ _ => sizeN l + sizeN r + 1
def ptrOf : Value → Option Addr
  | .pointer p => p
  | _ => none
/-- A map in memory. -/
def IsM (w : World) (S : Nat → Prop) (o : Nat) (t : Nd) (p : Option Addr) : Prop := ∃ b q n, p = some ⟨b, 0, none⟩ ∧ S b ∧ b < w.heap.size ∧ w.cell? ⟨b, 0, none⟩ = some (.int .i64 o) ∧ w.cell? ⟨b, 1, none⟩ = some (.int .i64 n) ∧ w.cell? ⟨b, 2, none⟩ = some (.pointer q) ∧ IsN w S t q
theorem IsM.keep {w w' : World} {S S' : Nat → Prop} (hk : Keeps w S w' S') {o : Nat} {t : Nd} {p : Option Addr} (hh : IsM w S o t p) : IsM w' S' o t p := by
  obtain ⟨b, q, n, e, hs, hl, h0, h1, h2, h3⟩ := hh
  have k0 := hk.cell (a := ⟨b, 0, none⟩) hs h0
  exact ⟨b, q, n, e, k0.1, World.block_lt_of_cell? w' _ k0.2, k0.2, (hk.cell (a := ⟨b, 1, none⟩) hs h1).2, (hk.cell (a := ⟨b, 2, none⟩) hs h2).2, h3.keep hk⟩
theorem IsM.below {w w' : World} {S : Nat → Prop} (hk : Below w.heap.size w w') {o : Nat} {t : Nd} {p : Option Addr} (hh : IsM w S o t p) : IsM w' S o t p := hh.keep (Keeps.below hk)
set_option maxRecDepth 100000 in
set_option maxHeartbeats 1000000 in
theorem find_calls (o : Nat) (ho : o < 6) (t : Nd) (p : Option Addr) (k : V) (hkr : rightB k = true) (vk : Value) (w : World) (S S' : Nat → Prop) (hm : IsM w S o t p) (hrt : RtN t) (hk : IsV w S' k vk) (hT : Lib.Utf8Tabs 1 2 w) :
    Calls Tryz.prog 49 #[.pointer p, vk] w fun e w' => ∃ r, e = .returned (.pointer r) ∧ (r = none ∨ ∃ b, r = some ⟨b, 0, none⟩) ∧ Bd w w' := by
  have hk9 := hk
  obtain ⟨hbk, A, ca, rfl, hka, hA⟩ := hk.eq
  obtain ⟨b, q, n, rfl, hs, hl, m0, m1, m2, hn⟩ := hm
  obtain ⟨w1, hw1, hB1, hsz, hb0⟩ := box1d w (.int .i64 k.kind) (.int .i64 k.num) (.string k.text) (.slice A k.items.length ca) 39
  have hk1 := Lib.hid (block4 hb0)
  have HT := Lib.hid (mtree_calls b q w1 (cellD hB1 m2))
  have HC := Lib.hid (fun (W : World) (hb : Bd w W) (y : V) (vy : Value) (hry : rightB y = true) (hy : IsV W S y vy) => mcompare_calls o ho k y hkr hry _ vy W S' S (hk9.below hb.below) hy (tabs_d hT hb) b (cellD hb m0))
  have HN1 := Lib.hid (And.intro (hn.below hB1.below) hrt)
  have HB1 := Lib.hid hB1
  clear hk hk9 hT hkr ho hbk hA hn hrt hb0 m0 m1 m2 hs hB1
  go_enter Tryz.func49, Tryz.ntmps49
  go_wp2_with (go_at_call 53; refine HT.out.mono ?_; rintro e w2 ⟨rfl, rfl⟩)
  go_loopw [5] (fun vx wr => ∃ (t : Nd) (r : Option Addr), vx = .pointer r ∧ Hid (IsN wr S t r ∧ RtN t) ∧ Bd w1 wr) (fun vx wr => leastN (fun m => ∃ t, sizeN t = m ∧ IsN wr S t (ptrOf vx) ∧ RtN t))
  case atStart => exact ⟨t, q, rfl, HN1, Bd.refl _⟩
  case round =>
    obtain ⟨t0, r0, rfl, hN0, hb⟩ := hrel
    obtain ⟨⟨t, hM, hN, hR⟩, _⟩ := leastN_spec (R := fun m => ∃ t, sizeN t = m ∧ IsN wr S t r0 ∧ RtN t) ⟨sizeN t0, t0, rfl, hN0.out.1, hN0.out.2⟩
    have HM := Lib.hid hM
    clear hM hN0 HN1 t0
    have hbw := HB1.out.trans hb
    obtain ⟨a0, a1, a2, a3⟩ := hk1.out
    have e0 := cellD hb a0
    have e1 := cellD hb a1
    have e2 := cellD hb a2
    have e3 := cellD hb a3
    have hsr : w.heap.size < wr.heap.size := Nat.lt_of_lt_of_le hsz hb.size
    clear a0 a1 a2 a3
    cases t with
    | nil =>
      obtain rfl : r0 = none := hN
      clear HM
      go_wp2_with fail
      go_ret
      exact ⟨_, rfl, .inl rfl, hbw⟩
    | mk red l r k' v' =>
      obtain ⟨bn, pl, pr, A', ca', B', cb', rfl, nd, hl', hr'⟩ := (show IsN wr S _ _ from hN).eq
      have x1 := nd.c1
      have x2 := nd.c2
      have x3 := nd.c3
      have x4 := nd.c4
      have x5 := nd.c5
      have x6 := nd.c6
      have hln := nd.lt
      have hbd := Bd.drew wr
      have HK := Lib.hid (HC.out wr.drew (hbw.trans hbd) k' _ (rtN_key hR) ((IsV.mk nd.bk nd.ka nd.lk).below hbd.below))
      have HLR := Lib.hid (And.intro hl' hr')
      have HRN := Lib.hid hR
      obtain ⟨C, hCC⟩ : ∃ C, ordF o k k' = C := ⟨_, rfl⟩
      rw [hCC] at HK
      clear nd hN hl' hr' hR hCC hbd
      by_cases h0 : C < 0
      · have z0 : decide (C < 0) = true := decide_eq_true h0
        clear h0
        go_wp2_with fail
        go_still_tail 6, (by kernel_rfl)
        go_wp2_with (go_at_call 54; refine HK.out.mono ?_; rintro e w4 ⟨rfl, hb4'⟩; have hb4 := (Bd.drew wr).trans hb4'; have x1' := cellD hb4 x1; have hln4 := Nat.lt_of_lt_of_le hln hb4.size; clear x1 x2 x3 x4 x5 x6 hb4')
        have HL2 : Hid (IsN w4 S l pl ∧ RtN l) := Lib.hid ⟨HLR.out.1.below hb4.below, rtN_left HRN.out⟩
        go_wp2_with fail
        go_roundw
        case rel => exact ⟨l, pl, rfl, HL2, hb.trans hb4⟩
        case measure =>
          refine Nat.lt_of_le_of_lt ((leastN_spec (R := fun m => ∃ t, sizeN t = m ∧ IsN w4 S t pl ∧ RtN t) ⟨sizeN l, l, rfl, HL2.out.1, HL2.out.2⟩).2 (sizeN l) ⟨l, rfl, HL2.out.1, HL2.out.2⟩) ?_
          have h1 := HM.out
          rw [sizeN] at h1
          show sizeN l < leastN _
          exact Nat.lt_of_lt_of_eq (show sizeN l < sizeN l + sizeN r + 1 by omega) h1
      · by_cases h1 : 0 < C
        · have z0 : decide (C < 0) = false := decide_eq_false h0
          have z1 : decide (0 < C) = true := decide_eq_true h1
          clear h0 h1
          go_wp2_with fail
          go_still_tail 6, (by kernel_rfl)
          go_wp2_with (go_at_call 54; refine HK.out.mono ?_; rintro e w4 ⟨rfl, hb4'⟩; have hb4 := (Bd.drew wr).trans hb4'; have x2' := cellD hb4 x2; have hln4 := Nat.lt_of_lt_of_le hln hb4.size; clear x1 x2 x3 x4 x5 x6 hb4')
          have HL2 : Hid (IsN w4 S r pr ∧ RtN r) := Lib.hid ⟨HLR.out.2.below hb4.below, rtN_right HRN.out⟩
          go_wp2_with fail
          go_roundw
          case rel => exact ⟨r, pr, rfl, HL2, hb.trans hb4⟩
          case measure =>
            refine Nat.lt_of_le_of_lt ((leastN_spec (R := fun m => ∃ t, sizeN t = m ∧ IsN w4 S t pr ∧ RtN t) ⟨sizeN r, r, rfl, HL2.out.1, HL2.out.2⟩).2 (sizeN r) ⟨r, rfl, HL2.out.1, HL2.out.2⟩) ?_
            have h1 := HM.out
            rw [sizeN] at h1
            show sizeN r < leastN _
            exact Nat.lt_of_lt_of_eq (show sizeN r < sizeN l + sizeN r + 1 by omega) h1
        · have z0 : decide (C < 0) = false := decide_eq_false h0
          have z1 : decide (0 < C) = false := decide_eq_false h1
          clear h0 h1
          go_wp2_with fail
          go_still_tail 6, (by kernel_rfl)
          go_wp2_with (go_at_call 54; refine HK.out.mono ?_; rintro e w4 ⟨rfl, hb4'⟩; have hb4 := (Bd.drew wr).trans hb4'; clear hb4')
          go_ret
          exact ⟨_, rfl, .inr ⟨_, rfl⟩, hbw.trans hb4⟩
end Go.Proofs.YtmnblgaefdahhaaGreatDoor

/- A key put into a sorted map. -/
set_option linter.unusedVariables false
set_option linter.unusedSimpArgs false
namespace Go.Proofs.YtmnblgaefdahhaaGreatDoor
open Go.RowKit Go.Shelf
attribute [local go_sem] lt_succ_of

theorem map_new {W : World} {S : Nat → Prop} (hS : S W.heap.size) {o : Nat} {t : Nd} {q : Option Addr} (h : IsN W S t q) (n : Int) (ty : TypeId) :
    IsM (W.alloc (.cells #[.int .i64 o, .int .i64 n, .pointer q] ty)) S o t (some ⟨W.heap.size, 0, none⟩) := by
  have hc : ∀ j u, [Value.int .i64 o, .int .i64 n, .pointer q][j]? = some u → (W.alloc (.cells #[.int .i64 o, .int .i64 n, .pointer q] ty)).cell? ⟨W.heap.size, j, none⟩ = some u := fun j u hu => by
    have := block_cells (c := [Value.int .i64 o, .int .i64 n, .pointer q]) (heap_alloc_new W (.cells #[.int .i64 o, .int .i64 n, .pointer q] ty)) j u hu
    rwa [plus0, Nat.zero_add] at this
  exact ⟨W.heap.size, q, n, rfl, hS, by simp, hc 0 _ rfl, hc 1 _ rfl, hc 2 _ rfl, h.below ((Below.refl _ _).alloc (Nat.le_refl _) _)⟩
set_option maxRecDepth 100000 in
set_option maxHeartbeats 1000000 in
theorem with_calls (o : Nat) (ho : o < 6) (t : Nd) (p : Option Addr) (k v : V) (hkr : rightB k = true) (vk vv : Value) (w : World) (S : Nat → Prop) (hS : ∀ m, w.heap.size ≤ m → S m) (hm : IsM w S o t p) (hrt : RtN t) (hk : IsV w S k vk) (hv : IsV w S v vv) (hT : Lib.Utf8Tabs 1 2 w) :
    Calls Tryz.prog 34 #[.pointer p, vk, vv] w fun e w' => ∃ r, e = .returned (.pointer r) ∧ IsM w' S o (blackN (insN (ordF o) k v t)) r ∧ Below w.heap.size w w' := by
  have hm9 := hm
  have hk9 := hk
  have hv9 := hv
  obtain ⟨hbk, A, ca, rfl, hka, hA⟩ := hk.eq
  obtain ⟨hbv, B, cb2, rfl, hvb, hB⟩ := hv.eq
  obtain ⟨b, q, n, rfl, hs, hl, m0, m1, m2, hn⟩ := hm
  obtain ⟨w1, hw1, hB1', hsz, hTw⟩ := box2d w k v A B ca cb2
  have hB1 := hB1'.below
  have HF := Lib.hid (find_calls o ho t _ k hkr _ w1 S S (hm9.below hB1) hrt (hk9.below hB1) (tabs_below hT hB1))
  have HLN := Lib.hid (mlen_calls b n w1 (cellB hB1 m1))
  have HO := Lib.hid (fun (W : World) (hb : Below w.heap.size w W) => morder_calls o b W (cellB hb m0))
  have HTR := Lib.hid (fun (W : World) (hb : Below w.heap.size w W) => mtree_calls b q W (cellB hb m2))
  have HI := Lib.hid (fun (W : World) (hb : Below w.heap.size w W) => ins_all (ordF o) k v hkr S _ (some ⟨b, 0, none⟩) t q _ _ W (fun m hm => hS m (Nat.le_trans hb.size hm)) (hn.below hb) (hk9.below hb) (hv9.below hb) hrt
    ⟨Tryz.call54, fun w' hb' x y vx vy S1 S2 hx hy hrx hry hT' => mcompare_calls o ho x y hrx hry vx vy w' S1 S2 hx hy hT' b (cellB (chain_then' hb hb') m0)⟩ (tabs_below hT hb))
  have HBL := Lib.hid (fun (W : World) (hb : Below w.heap.size w W) (q5 : Option Addr) (h5 : IsN W S (insN (ordF o) k v t) q5) => black_calls _ q5 W S (fun m hm => hS m (Nat.le_trans hb.size hm)) h5)
  have HS := Lib.hid hS
  have HTW := Lib.hid hTw
  have HB1 := Lib.hid hB1
  unfold Two at hTw
  obtain ⟨a0, a1, a2, a3, b0, b1, b2, b3⟩ := hTw
  clear hk hv hk9 hv9 hm9 hbk hbv hA hB hS hn hrt hT hkr ho m0 m1 m2 hs hB1 hB1'
  go_enter Tryz.func34, Tryz.ntmps34
  go_wp2_with (first
    | (go_at_call 48; refine HLN.out.mono ?_; rintro e w2 ⟨rfl, rfl⟩)
    | (go_at_call 49; refine HF.out.mono ?_; rintro e w2 ⟨r, rfl, hr, hb2⟩; rcases hr with rfl | ⟨b9, rfl⟩))
  · have HTW2 := Lib.hid (HTW.out.keep' hb2.below)
    have hbr : Below w.heap.size w w2.drew := (chain_then' HB1.out hb2.below).drew
    have hk2 : Below w2.heap.size w2 w2.drew := (Below.refl _ _).drew
    clear hb2 a0 a1 a2 a3 b0 b1 b2 b3 HF HLN
    go_region_held3 (fun W => W.cell? ⟨w.heap.size, 0, none⟩ = some (.int .i64 k.kind) ∧ W.cell? ⟨w.heap.size, 1, none⟩ = some (.int .i64 k.num) ∧ W.cell? ⟨w.heap.size, 2, none⟩ = some (.string k.text) ∧ W.cell? ⟨w.heap.size, 3, none⟩ = some (.slice A k.items.length ca) ∧ W.cell? ⟨w.heap.size + 1, 0, none⟩ = some (.int .i64 v.kind) ∧ W.cell? ⟨w.heap.size + 1, 1, none⟩ = some (.int .i64 v.num) ∧ W.cell? ⟨w.heap.size + 1, 2, none⟩ = some (.string v.text) ∧ W.cell? ⟨w.heap.size + 1, 3, none⟩ = some (.slice B v.items.length cb2))
      (first | exact HTW2.out.keep' (by with_reducible assumption) | exact HTW2.out.keep' (Below.alloc (by with_reducible assumption) (Below.size (by with_reducible assumption)) _))
      (first
        | (go_at_call 50; refine (HO.out _ hbr).mono ?_; rintro e w3 ⟨rfl, rfl⟩)
        | (go_at_call 53; refine (HTR.out _ hbr).mono ?_; rintro e w3 ⟨rfl, rfl⟩)
        | (go_at_call 52; refine (HI.out _ hbr).mono ?_; rintro e w5 ⟨q5, rfl, h5, hb5⟩; have hbr := chain_then' hbr hb5; have hk2 := chain_then' hk2 hb5; have I5 := Lib.hid h5; clear h5 hb5)
        | (go_at_call 51; refine (HBL.out _ hbr _ I5.out).mono ?_; rintro e w6 ⟨q6, rfl, h6, hb6⟩; have hbr := chain_then' hbr hb6; have hk2 := chain_then' hk2 hb6; have I6 := Lib.hid h6; clear h6 hb6))
    all_goals go_wp2_with fail
    all_goals go_ret
    all_goals exact ⟨_, rfl, map_new (HS.out _ hbr.size) I6.out _ _, hbr.alloc hbr.size _⟩
  · have HTW2 := Lib.hid (HTW.out.keep' hb2.below)
    have hbr : Below w.heap.size w w2.drew := (chain_then' HB1.out hb2.below).drew
    have hk2 : Below w2.heap.size w2 w2.drew := (Below.refl _ _).drew
    clear hb2 a0 a1 a2 a3 b0 b1 b2 b3 HF HLN
    go_region_held3 (fun W => W.cell? ⟨w.heap.size, 0, none⟩ = some (.int .i64 k.kind) ∧ W.cell? ⟨w.heap.size, 1, none⟩ = some (.int .i64 k.num) ∧ W.cell? ⟨w.heap.size, 2, none⟩ = some (.string k.text) ∧ W.cell? ⟨w.heap.size, 3, none⟩ = some (.slice A k.items.length ca) ∧ W.cell? ⟨w.heap.size + 1, 0, none⟩ = some (.int .i64 v.kind) ∧ W.cell? ⟨w.heap.size + 1, 1, none⟩ = some (.int .i64 v.num) ∧ W.cell? ⟨w.heap.size + 1, 2, none⟩ = some (.string v.text) ∧ W.cell? ⟨w.heap.size + 1, 3, none⟩ = some (.slice B v.items.length cb2))
      (first | exact HTW2.out.keep' (by with_reducible assumption) | exact HTW2.out.keep' (Below.alloc (by with_reducible assumption) (Below.size (by with_reducible assumption)) _))
      (first
        | (go_at_call 50; refine (HO.out _ hbr).mono ?_; rintro e w3 ⟨rfl, rfl⟩)
        | (go_at_call 53; refine (HTR.out _ hbr).mono ?_; rintro e w3 ⟨rfl, rfl⟩)
        | (go_at_call 52; refine (HI.out _ hbr).mono ?_; rintro e w5 ⟨q5, rfl, h5, hb5⟩; have hbr := chain_then' hbr hb5; have hk2 := chain_then' hk2 hb5; have I5 := Lib.hid h5; clear h5 hb5)
        | (go_at_call 51; refine (HBL.out _ hbr _ I5.out).mono ?_; rintro e w6 ⟨q6, rfl, h6, hb6⟩; have hbr := chain_then' hbr hb6; have hk2 := chain_then' hk2 hb6; have I6 := Lib.hid h6; clear h6 hb6))
    all_goals go_wp2_with fail
    all_goals go_ret
    all_goals exact ⟨_, rfl, map_new (HS.out _ hbr.size) I6.out _ _, hbr.alloc hbr.size _⟩
end Go.Proofs.YtmnblgaefdahhaaGreatDoor
