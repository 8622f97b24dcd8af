/- order.Compare. -/
import Derived.Test.YtmnblgaefdahhaaGreatDoorCQoG

set_option linter.unusedVariables false
set_option linter.unusedSimpArgs false
namespace Go.Proofs.YtmnblgaefdahhaaGreatDoor
open Go.RowKit Go.Shelf
attribute [local go_sem] lt_succ_of

theorem IsV.any {w : World} {S : Nat → Prop} {x : V} {v : Value} (h : IsV w S x v) : IsV w (fun _ => True) x v := h.keep (Keeps.weak fun _ _ => trivial)
theorem two_iss {W : World} {x y : V} {A B : Option Addr} {ca cb : Nat} (hx : IsV W (fun _ => True) x (.agg #[.int .i64 x.kind, .int .i64 x.num, .string x.text, .slice A x.items.length ca])) (hy : IsV W (fun _ => True) y (.agg #[.int .i64 y.kind, .int .i64 y.num, .string y.text, .slice B y.items.length cb])) :
    IsS (W.alloc (.cells #[.int .i64 x.kind, .int .i64 x.num, .string x.text, .slice A x.items.length ca, .int .i64 y.kind, .int .i64 y.num, .string y.text, .slice B y.items.length cb] 39)) (fun _ => True) [x, y] (.slice (some ⟨W.heap.size, 0, none⟩) 2 2) := by
  have hk : Keeps W (fun _ => True) (W.alloc (.cells #[.int .i64 x.kind, .int .i64 x.num, .string x.text, .slice A x.items.length ca, .int .i64 y.kind, .int .i64 y.num, .string y.text, .slice B y.items.length cb] 39)) (fun _ => True) := fun b hb _ => ⟨trivial, Below.heap_alloc _ _ _ hb⟩
  obtain ⟨cx, hcx, ex⟩ := hx.keep hk
  obtain ⟨cy, hcy, ey⟩ := hy.keep hk
  injection ex with ex
  injection ey with ey
  obtain rfl : cx = [.int .i64 x.kind, .int .i64 x.num, .string x.text, .slice A x.items.length ca] := by have := congrArg Array.toList ex; simpa using this.symm
  obtain rfl : cy = [.int .i64 y.kind, .int .i64 y.num, .string y.text, .slice B y.items.length cb] := by have := congrArg Array.toList ey; simpa using this.symm
  have hcs : CsL (W.alloc (.cells #[.int .i64 x.kind, .int .i64 x.num, .string x.text, .slice A x.items.length ca, .int .i64 y.kind, .int .i64 y.num, .string y.text, .slice B y.items.length cb] 39)) (fun _ => True) [x, y] ([.int .i64 x.kind, .int .i64 x.num, .string x.text, .slice A x.items.length ca] ++ [.int .i64 y.kind, .int .i64 y.num, .string y.text, .slice B y.items.length cb]) :=
    ⟨_, _, rfl, hcx, ⟨_, [], by simp, hcy, rfl⟩⟩
  exact ⟨_, 2, rfl, Nat.le_refl _, two_le, hcs.la (heap_alloc_new W _) trivial⟩
set_option maxRecDepth 100000 in
set_option maxHeartbeats 2000000 in
theorem ocompare_calls (o : Nat) (ho : o < 6) (x y : V) (hrx : rightB x = true) (hry : rightB y = true) (vx vy : Value) (w : World) (S S' : Nat → Prop) (hx : IsV w S x vx) (hy : IsV w S' y vy) (hT : Lib.Utf8Tabs 1 2 w) :
    Calls Tryz.prog 44 #[.int .i64 o, vx, vy] w fun e w' => e = .returned (.tuple #[.int .i64 (ordF o x y), .int .i64 0]) ∧ Bd w w' := by
  have hX := hx.any
  have hY := hy.any
  obtain ⟨hbx, A, ca, rfl, hca, hA⟩ := hx.eq
  obtain ⟨hby, B, cb, rfl, hcb, hB⟩ := hy.eq
  obtain ⟨w1, hw1, hB1, hsz, hTw⟩ := box2d w x y A B ca cb
  have hb12 := hB1.trans (Bd.box w1 (.cells #[.int .i64 x.kind, .int .i64 x.num, .string x.text, .slice A x.items.length ca, .int .i64 y.kind, .int .i64 y.num, .string y.text, .slice B y.items.length cb] 39))
  have HL := Lib.hid (listed_good o ho [x, y] (by simp) (by intro z hz; simp at hz; rcases hz with rfl | rfl; exact hrx; exact hry) _ (w1.alloc (.cells #[.int .i64 x.kind, .int .i64 x.num, .string x.text, .slice A x.items.length ca, .int .i64 y.kind, .int .i64 y.num, .string y.text, .slice B y.items.length cb] 39)) _ (two_iss (hX.below hB1.below) (hY.below hB1.below)) (tabs_d hT hb12))
  have HTW := Lib.hid hTw
  have HB12 := Lib.hid hb12
  have HK := Lib.hid (fun (g : Nat) (gb : Array Value) (w' : World) (hb : Bd w w') (hc : CmprAt (ordF o) g gb w') => hc x y _ _ _ _ (hX.below hb.below) (hY.below hb.below) hrx hry (tabs_d hT hb))
  unfold Two at hTw
  obtain ⟨a0, a1, a2, a3, b0, b1, b2, b3⟩ := hTw
  clear hx hy hX hY hA hB hbx hby hT hB1 hb12 hrx hry ho
  go_enter Tryz.func44, Tryz.ntmps44
  go_wp2_with (go_at_call 14; refine HL.out.mono ?_; rintro e w3 ⟨f, rfl, hcm, hb3⟩; obtain ⟨g, gb, Bk, rfl, eg, hBk, hat⟩ := hcm; have hat2 := Lib.hid (hat (w3.alloc (.cells #[.func (.func g) #[] gb] 43)) (fun b hb => (Bd.box w3 (.cells #[.func (.func g) #[] gb] 43)).block b (hBk b hb).2)); have hb13 := (HB12.out.trans hb3); have hb14 := hb13.trans (Bd.box w3 (.cells #[.func (.func g) #[] gb] 43)); have HK4 := Lib.hid (HK.out g gb _ hb14 hat2.out); have HT4 := HTW.out.keep ((Bd.box _ _).trans (hb3.trans (Bd.box w3 (.cells #[.func (.func g) #[] gb] 43)))); have HB14 := Lib.hid hb14; unfold Two at HT4; obtain ⟨c0, c1, c2, c3, d0, d1, d2, d3⟩ := HT4; clear hat hat2 hBk hb13 hb14)
  refine HK4.out.mono ?_
  rintro e w5 ⟨rfl, hb5⟩
  go_wp2_with fail
  go_ret2
  exact ⟨rfl, HB14.out.trans hb5⟩
end Go.Proofs.YtmnblgaefdahhaaGreatDoor
