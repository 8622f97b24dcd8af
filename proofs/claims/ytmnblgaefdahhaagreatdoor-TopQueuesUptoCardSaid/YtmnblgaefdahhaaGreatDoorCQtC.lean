/- What a sorted map hands out: the function that stands between, the walk over the nodes. The walk over the nodes of a sorted map. The iterators of a sorted map and of a sorted set. -/
import Derived.Deep.RegionHeld3
import Derived.Deep.QuietTactic
import Derived.BigQuiet
import Derived.Test.YtmnblgaefdahhaaGreatDoorCQtB
import Derived.Test.YtmnblgaefdahhaaGreatDoorCQrI
/- What a sorted map hands out: the function that stands between, the walk over the nodes. -/
set_option linter.unusedVariables false
set_option linter.unusedSimpArgs false
namespace Go.Proofs.YtmnblgaefdahhaaGreatDoor
open Go.RowKit Go.Shelf
attribute [local go_sem] Oper.semAt_some lt_succ_of

/-- What the function that goes over nodes does with each of them. -/
def DoR (T : Nat → Prop) (Y : Nat) (J : List V → World → Prop) (G : List V) : Prop := ∀ pre k v vk vv W m, J pre W → IsV W T k vk → IsV W T v vv → (∀ b, T b → b < W.heap.size) → pre ++ [k] <+: G →
  CallsIn Fence.wide m Tryz.prog 57 #[vk, vv, .pointer (some ⟨Y, 0, none⟩)] W fun e W' => e = .returned (.bool true) ∧ J (pre ++ [k]) W' ∧ Still T W W'
/-- The box that holds the yield. -/
def YBox2 (l Y : Nat) (W : World) : Prop := W.heap[Y]? = some (.cells #[.func (.yield l) #[] #[]] 56 (0, 0))
set_option maxRecDepth 100000 in
set_option maxHeartbeats 8000000 in
theorem clos_round (l Y : Nat) (T : Nat → Prop) (J : List V → World → Prop) (G : List V) (N : Nat) (hJ : Stays J) (hR : Round Ar2 T N l J G) (hY : T Y) : DoR T Y (fun pre W => J pre W ∧ YBox2 l Y W) G := by
  rintro pre k v vk vv W m ⟨hj, hbox⟩ hk hv hT hpre
  have hk9 := hk
  have hv9 := hv
  obtain ⟨hbk, A, ca, rfl, hka, hA⟩ := hk.eq
  obtain ⟨hbv, B, cb, rfl, hvb, hB⟩ := hv.eq
  obtain ⟨w1, hw1, hB1', hsz, hTw⟩ := box2d W k v A B ca cb
  have hB1 := hB1'.below
  have hYl : Y < W.heap.size := hT Y hY
  have hbox1 := blockB hB1 hbox
  have ey : w1.cell? ⟨Y, 0, none⟩ = some (.func (.yield l) #[] #[]) := by simp [World.cell?, hbox1]
  have hy1 := World.block_lt_of_cell? w1 _ ey
  have hbd : Below W.heap.size W w1.drew := hB1.drew
  have HOK := Lib.hid (ownr_calls k _ w1.drew T (hk9.below hbd))
  have HOV := Lib.hid (fun (W' : World) (hb : Below W.heap.size W W') => ownr_calls v _ W' T (hv9.below hb))
  have HJ := Lib.hid hJ
  have HR := Lib.hid hR
  have HP := Lib.hid hpre
  have H0 := Lib.hid hj
  have HT := Lib.hid hT
  have HB := Lib.hid hbox
  have HYT := Lib.hid hY
  have HBD := Lib.hid hbd
  unfold Two at hTw
  obtain ⟨a0, a1, a2, a3, b0, b1, b2, b3⟩ := hTw
  clear hJ hR hpre hj hT hbox hk hv hk9 hv9 hbox1 hY hbk hbv hA hB hbd hB1 hB1'
  refine callsIn_of_wp Tryz.func57 rfl trivial ?_ rfl
  simp only [Tryz.ntmps57, List.size_toArray, List.length_cons, List.length_nil, Nat.reduceAdd, Nat.reduceSub, Array.replicate_succ, Array.replicate_zero, List.push_toArray, List.append_toArray, List.nil_append, List.cons_append]
  gi_wp2_with fail
  gi_region_with (first
    | (refine ⟨trivial, fun h => (by cases h), ?_⟩; gi_at_call 35; refine (callsIn_wide.2 HOK.out).mono ?_; rintro e w3 ⟨v3, rfl, h3, hb3⟩; obtain ⟨_, A3, c3, rfl, _, _⟩ := h3.eq; have hbr := below_then HBD.out HBD.out.size hb3; have I3 := Lib.hid (h3.keep (S' := fun b => W.heap.size ≤ b) (Keeps.weak fun b (h : _ ≤ b) => Nat.le_trans HBD.out.size h)); have ey3 := cellB hb3 ey; have g0 := cellB hb3 b0; have g1 := cellB hb3 b1; have g2 := cellB hb3 b2; have g3 := cellB hb3 b3; have hy3 := World.block_lt_of_cell? w3 _ ey3; clear h3 hb3 HOK)
    | (refine ⟨trivial, fun h => (by cases h), ?_⟩; gi_at_call 35; refine (callsIn_wide.2 (HOV.out _ hbr)).mono ?_; rintro e w4 ⟨v4, rfl, h4, hb4⟩; obtain ⟨_, A4, c4, rfl, _, _⟩ := h4.eq; have hbr4 := below_then hbr hbr.size hb4; have I4 := Lib.hid (h4.keep (S' := fun b => W.heap.size ≤ b) (Keeps.weak fun b (h : _ ≤ b) => Nat.le_trans hbr.size h)); have I34 := Lib.hid (I3.out.below hb4); have ey4 := cellB hb4 ey3; have hy4 := World.block_lt_of_cell? w4 _ ey4; obtain ⟨fn, tmps, assign, body, hy, hRR⟩ := HR.out pre k _ W w4 H0.out (But.of hbr4) ⟨_, _, v, rfl, I34.out, I4.out⟩ HP.out (m - 1); clear h4 hb4 HOV)
    | (refine ⟨fun h => (by cases h), hRR.mono ?_⟩; rintro e w5 ⟨rfl, h6, h7⟩; have H67 := Lib.hid (And.intro h6 h7); clear h6 h7))
  all_goals gi_wp2_with fail
  all_goals go_ret
  all_goals
    have h8 := (Still.below hbr4 HT.out).trans H67.out.2
    exact ⟨rfl, ⟨H67.out.1, (h8.2 Y HYT.out).trans HB.out⟩, h8⟩
end Go.Proofs.YtmnblgaefdahhaaGreatDoor

/- The walk over the nodes of a sorted map. -/
set_option linter.unusedVariables false
set_option linter.unusedSimpArgs false
namespace Go.Proofs.YtmnblgaefdahhaaGreatDoor
open Go.RowKit Go.Shelf
attribute [local go_sem] Oper.semAt_some lt_succ_of

theorem Still.keeps {T : Nat → Prop} {W W' : World} (h : Still T W W') : Keeps W T W' T := fun b _ hs => ⟨hs, h.2 b hs⟩
theorem pre_left {a b G : List V} (h : a ++ b <+: G) : a <+: G := (List.prefix_append a b).trans h
def WalkAt (t : Nd) : Prop := ∀ (p : Option Addr) (T : Nat → Prop) (Y : Nat) (J : List V → World → Prop) (G pre : List V) (W : World), IsN W T t p → (∀ b, T b → b < W.heap.size) → Stays J → DoR T Y J G → pre ++ keysN t <+: G → J pre W →
  Calls Tryz.prog 56 #[.pointer p, .func (.func 57) #[] #[.pointer (some ⟨Y, 0, none⟩)]] W fun e W' => e = .returned (.bool true) ∧ J (pre ++ keysN t) W' ∧ Still T W W'
set_option maxRecDepth 100000 in
set_option maxHeartbeats 8000000 in
theorem walk_nil : WalkAt .nil := by
  intro p T Y J G pre W hN hT hJ hD hpre h0
  obtain rfl : p = none := hN
  have hbn : ∀ n, Below W.heap.size W (W.drewN n) := fun n => ⟨rfl, rfl, rfl, Nat.le_refl _, fun _ _ => rfl⟩
  have H0 := Lib.hid (fun n => hJ _ _ _ h0 (hbn n))
  have HT := Lib.hid (fun n => Still.below (hbn n) hT)
  clear hT hJ hD hpre h0 hbn
  go_enter Tryz.func56, Tryz.ntmps56
  go_wp2_with fail
  go_quiet (fail)
  go_wp2_with fail
  go_ret
  exact ⟨rfl, by show J (pre ++ []) _; rw [List.append_nil]; exact H0.out _, HT.out _⟩
set_option maxRecDepth 100000 in
set_option maxHeartbeats 8000000 in
theorem walk_node (red : Bool) (l r : Nd) (k v : V) (ihl : WalkAt l) (ihr : WalkAt r) : WalkAt (.mk red l r k v) := by
  intro p T Y J G pre W hN hT hJ hD hpre h0
  obtain ⟨b, pl, pr, A, ca, B, cb, rfl, nd, hl, hr⟩ := (show IsN W T _ _ from hN).eq
  have hbT := nd.s
  have HX : Hid (∀ W', Still T W W' → W'.cell? ⟨b, 1, none⟩ = some (.pointer pl) ∧ W'.cell? ⟨b, 2, none⟩ = some (.pointer pr) ∧ W'.cell? ⟨b, 3, none⟩ = some (.int .i64 k.kind) ∧ W'.cell? ⟨b, 4, none⟩ = some (.int .i64 k.num) ∧ W'.cell? ⟨b, 5, none⟩ = some (.string k.text) ∧ W'.cell? ⟨b, 6, none⟩ = some (.slice A k.items.length ca) ∧ W'.cell? ⟨b, 7, none⟩ = some (.int .i64 v.kind) ∧ W'.cell? ⟨b, 8, none⟩ = some (.int .i64 v.num) ∧ W'.cell? ⟨b, 9, none⟩ = some (.string v.text) ∧ W'.cell? ⟨b, 10, none⟩ = some (.slice B v.items.length cb) ∧ b < W'.heap.size) := Lib.hid fun W' h => by
    have e := h.2 b hbT
    have hc : ∀ j, W'.cell? ⟨b, j, none⟩ = W.cell? ⟨b, j, none⟩ := fun j => World.cell?_of_block e
    exact ⟨(hc _).trans nd.c1, (hc _).trans nd.c2, (hc _).trans nd.c3, (hc _).trans nd.c4, (hc _).trans nd.c5, (hc _).trans nd.c6, (hc _).trans nd.c7, (hc _).trans nd.c8, (hc _).trans nd.c9, (hc _).trans nd.c10, Nat.lt_of_lt_of_le nd.lt h.1⟩
  have hTb : ∀ W', Still T W W' → ∀ b, T b → b < W'.heap.size := fun W' h b hb => Nat.lt_of_lt_of_le (hT b hb) h.1
  have hk0 : keysN (.mk red l r k v) = keysN l ++ k :: keysN r := rfl
  rw [hk0] at hpre
  have HL := Lib.hid (fun (W' : World) (hs : Still T W W') (hj : J pre W') => ihl pl T Y J G pre W' (hl.keep hs.keeps) (hTb W' hs) hJ hD (pre_left (b := k :: keysN r) (by rw [List.append_assoc]; exact hpre)) hj)
  have HD := Lib.hid (fun (W' : World) (hs : Still T W W') (hj : J (pre ++ keysN l) W') => callsIn_wide.1 (hD (pre ++ keysN l) k v _ _ W' 0 hj ((IsV.mk nd.bk nd.ka nd.lk).keep hs.keeps) ((IsV.mk nd.bv nd.va nd.lv).keep hs.keeps) (hTb W' hs) (pre_left (b := keysN r) (by simpa [List.append_assoc] using hpre))))
  have HR := Lib.hid (fun (W' : World) (hs : Still T W W') (hj : J (pre ++ keysN l ++ [k]) W') => ihr pr T Y J G (pre ++ keysN l ++ [k]) W' (hr.keep hs.keeps) (hTb W' hs) hJ hD (by simpa [List.append_assoc] using hpre) hj)
  have hst : Still T W W.drew := Still.below (Below.drew (Below.refl W.heap.size W)) hT
  have H0 := Lib.hid (hJ _ _ _ h0 (Below.drew (Below.refl W.heap.size W)))
  have eg := Tryz.call57
  clear hT hJ hD hpre h0 hN hl hr nd hbT hTb ihl ihr
  go_enter Tryz.func56, Tryz.ntmps56
  go_wp2_with fail
  go_region_held3 (fun W' => W'.cell? ⟨b, 1, none⟩ = some (.pointer pl) ∧ W'.cell? ⟨b, 2, none⟩ = some (.pointer pr) ∧ W'.cell? ⟨b, 3, none⟩ = some (.int .i64 k.kind) ∧ W'.cell? ⟨b, 4, none⟩ = some (.int .i64 k.num) ∧ W'.cell? ⟨b, 5, none⟩ = some (.string k.text) ∧ W'.cell? ⟨b, 6, none⟩ = some (.slice A k.items.length ca) ∧ W'.cell? ⟨b, 7, none⟩ = some (.int .i64 v.kind) ∧ W'.cell? ⟨b, 8, none⟩ = some (.int .i64 v.num) ∧ W'.cell? ⟨b, 9, none⟩ = some (.string v.text) ∧ W'.cell? ⟨b, 10, none⟩ = some (.slice B v.items.length cb) ∧ b < W'.heap.size)
    (exact HX.out _ (by with_reducible assumption))
    (first
      | (go_at_call 56; refine (HL.out _ hst H0.out).mono ?_; rintro e w3 ⟨rfl, h1, h2⟩; have hst := hst.trans h2; have J3 := Lib.hid h1; clear h1 h2 HL)
      | (go_at_call 57; refine (HD.out _ hst J3.out).mono ?_; rintro e w4 ⟨rfl, h1, h2⟩; have hst := hst.trans h2; have J4 := Lib.hid h1; clear h1 h2)
      | (go_at_call 56; refine (HR.out _ hst J4.out).mono ?_; rintro e w5 ⟨rfl, h1, h2⟩; have hst := hst.trans h2; have J5 := Lib.hid h1; clear h1 h2))
  go_wp2_with fail
  go_ret
  exact ⟨rfl, by have := J5.out; simpa [List.append_assoc, hk0] using this, hst⟩
theorem walk_all : ∀ t : Nd, WalkAt t
  | .nil => walk_nil
  | .mk red l r k v => walk_node red l r k v (walk_all l) (walk_all r)
end Go.Proofs.YtmnblgaefdahhaaGreatDoor

/- The iterators of a sorted map and of a sorted set. -/
set_option linter.unusedVariables false
set_option linter.unusedSimpArgs false
namespace Go.Proofs.YtmnblgaefdahhaaGreatDoor
open Go.RowKit Go.Shelf
attribute [local go_sem] Oper.semAt_some lt_succ_of

theorem mall_calls (p : Option Addr) (w : World) :
    Calls Tryz.prog 41 #[.pointer p] w fun e w' => e = .returned (.func (.func 55) #[] #[.pointer (some ⟨w.heap.size, 0, none⟩)]) ∧ w'.heap[w.heap.size]? = some (.cells #[.pointer p] 51 (0, 0)) ∧ Below w.heap.size w w' := by
  obtain ⟨w1, hw1, h1, h3⟩ : ∃ w1, w.alloc (.cells #[.pointer p] 51) = w1 ∧ w1.heap[w.heap.size]? = some (.cells #[.pointer p] 51 (0, 0)) ∧ Below w.heap.size w w1 := ⟨_, rfl, heap_alloc_new w _, alloc_of (Below.refl _ _) _⟩
  have H1 := Lib.hid h1
  clear h1
  go_enter Tryz.func41, Tryz.ntmps41
  go_wp2_with fail
  go_ret
  exact ⟨rfl, H1.out, h3⟩
set_option maxRecDepth 100000 in
set_option maxHeartbeats 8000000 in
theorem mall_each (o : Nat) (t : Nd) (p : Option Addr) (X : Nat) (S : Nat → Prop) (w : World) (hX : w.heap[X]? = some (.cells #[.pointer p] 51 (0, 0))) (hm : IsM w S o t p) : Each Ar2 55 #[.pointer (some ⟨X, 0, none⟩)] S w.heap.size (keysN t) w := by
  intro ll J W hW hJ hR h0 n
  have hX1 := blockB hW hX
  obtain ⟨w1, hw1, hB1, hsz, hb0⟩ : ∃ w1, W.alloc (.cells #[.func (.yield ll) #[] #[]] 56) = w1 ∧ Below W.heap.size W w1 ∧ W.heap.size + 1 = w1.heap.size ∧ YBox2 ll W.heap.size w1 := ⟨_, rfl, alloc_of (Below.refl _ _) _, by simp, heap_alloc_new W _⟩
  have hX2 := blockB hB1 hX1
  have cX : w1.cell? ⟨X, 0, none⟩ = some (.pointer p) := by simp [World.cell?, hX2]
  have hXl := World.block_lt_of_cell? w1 _ cX
  have hmT : IsM w1 (fun b => (S b ∧ b < w.heap.size) ∨ b = W.heap.size) o t p := hm.keep (Keeps.below_to (hW.trans (hB1.mono hW.size)) fun b h1 h2 => .inl ⟨h2, h1⟩)
  obtain ⟨b, q, n0, rfl, hs, hl, m0, m1, m2, hn⟩ := hmT
  have HT := Lib.hid (mtree_calls b q w1 m2)
  have hTl : ∀ b, ((S b ∧ b < w.heap.size) ∨ b = W.heap.size) → b < w1.heap.size := fun b h => by
    have := hW.size
    rcases h with h | h <;> omega
  have HE := Lib.hid (walk_all t q (fun b => (S b ∧ b < w.heap.size) ∨ b = W.heap.size) W.heap.size (fun pre W' => J (fun b => (S b ∧ b < w.heap.size) ∨ b = W.heap.size) pre W' ∧ YBox2 ll W.heap.size W') (keysN t) [] w1 hn hTl (fun s W1 W2 h hb => ⟨(hJ _).stays s W1 W2 h.1 hb, blockB hb h.2⟩) (clos_round ll W.heap.size _ _ (keysN t) _ (hJ _).stays (hR _) (.inr rfl)) (by rw [List.nil_append]; exact List.prefix_rfl)
    ⟨h0 _ w1 hB1 (fun b h => by rcases h with h | h; exact .inl h; exact .inr (by omega)), hb0⟩)
  clear hJ hR h0 hX1 hX2 hX hm hn hTl hb0 hs m0 m1 m2
  refine callsIn_wide.2 ?_
  go_enter Tryz.func55, Tryz.ntmps55
  go_wp2_with (first
    | (go_at_call 53; refine HT.out.mono ?_; rintro e w2 ⟨rfl, rfl⟩)
    | (go_at_call 56; refine HE.out.mono ?_; rintro e w5 ⟨rfl, h5, h6⟩; have H5 := Lib.hid h5; clear h5 h6))
  go_end0
  exact ⟨⟨_, rfl⟩, _, by have := H5.out.1; rwa [List.nil_append] at this⟩
end Go.Proofs.YtmnblgaefdahhaaGreatDoor
