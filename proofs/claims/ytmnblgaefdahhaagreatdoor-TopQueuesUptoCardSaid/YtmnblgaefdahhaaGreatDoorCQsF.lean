/- Rows of pairs (a key, the zero value); what is wrong with them. -/
import Derived.Handy
import Derived.Test.YtmnblgaefdahhaaGreatDoorCQoL
import Derived.Test.YtmnblgaefdahhaaGreatDoorCOg

set_option linter.unusedVariables false
set_option linter.unusedSimpArgs false
namespace Go.Proofs.YtmnblgaefdahhaaGreatDoor
open Go.RowKit Go.Shelf
attribute [local go_sem] lt_succ_of

theorem infoPr : (Tryz.prog.info? 49).map (fun i => (i.zero, i.size, i.bytes)) = some (some (.agg #[.int .i64 0, .int .i64 0, .string ⟨#[]⟩, .slice none 0 0, .int .i64 0, .int .i64 0, .string ⟨#[]⟩, .slice none 0 0]), 8, 112) := by kernel_rfl
/-- A key beside the zero value. -/
def eltK : Elt V 8 where
  E w S x c := ∃ a, VC w S x a ∧ c = a ++ [.int .i64 0, .int .i64 0, .string ⟨#[]⟩, .slice none 0 0]
  keep := by
    intro w w' S S' h x c hx
    obtain ⟨a, ha, rfl⟩ := hx
    exact ⟨a, ha.keep h, rfl⟩
  one := by
    intro w S x c hx u hu
    obtain ⟨a, ha, rfl⟩ := hx
    rcases List.mem_append.1 hu with hu | hu
    · exact ha.one u hu
    · simp only [List.mem_cons, List.not_mem_nil, or_false] at hu
      rcases hu with rfl | rfl | rfl | rfl <;> rfl
  len := by
    intro w S x c hx
    obtain ⟨a, ha, rfl⟩ := hx
    rw [List.length_append, ha.length]
    rfl
theorem zero_right : rightB V.zero = true := by decide
theorem zero_is (w : World) (S : Nat → Prop) : IsV w S V.zero (.agg #[.int .i64 0, .int .i64 0, .string ⟨#[]⟩, .slice none 0 0]) :=
  IsV.mk (x := V.zero) ⟨by decide, by decide, by decide, by decide, by decide, by decide⟩ (Nat.le_refl _) (.inl rfl)
set_option maxRecDepth 100000 in
theorem rpair_calls (x : V) (vx : Value) (w : World) (S : Nat → Prop) (hx : IsV w S x vx) (hT : Lib.Utf8Tabs 1 2 w) :
    Calls Tryz.prog 47 #[vx, .agg #[.int .i64 0, .int .i64 0, .string ⟨#[]⟩, .slice none 0 0]] w fun e w' => e = .returned (.int .i64 (if rightB x = true then 0 else 3)) ∧ Below w.heap.size w w' := by
  have hX9 := hx
  obtain ⟨hbx, A, ca, rfl, hca, hA⟩ := hx.eq
  obtain ⟨w1, hw1, hB1, hsz, hTw⟩ := box2d w x V.zero A none ca 0
  have HX := Lib.hid (check_calls x _ w1 S (hX9.below hB1.below) (tabs_below hT hB1.below))
  have HZ := Lib.hid (fun (W : World) (hb : Below w.heap.size w W) => check_calls V.zero _ W S (zero_is W S) (tabs_below hT hb))
  rw [zero_right] at HZ
  obtain ⟨R, hR⟩ : ∃ R, rightB x = R := ⟨_, rfl⟩
  rw [hR] at HX ⊢
  have HTW := Lib.hid hTw
  unfold Two at hTw
  obtain ⟨a0, a1, a2, a3, b0, b1, b2, b3⟩ := hTw
  have hw2 : (w.alloc (.cells #[.int .i64 x.kind, .int .i64 x.num, .string x.text, .slice A x.items.length ca] 39)).alloc (.cells #[.int .i64 0, .int .i64 0, .string ⟨#[]⟩, .slice none 0 0] 39) = w1 := hw1
  have b0' : w1.cell? ⟨w.heap.size + 1, 0, none⟩ = some (.int .i64 0) := b0
  have b1' : w1.cell? ⟨w.heap.size + 1, 1, none⟩ = some (.int .i64 0) := b1
  have b2' : w1.cell? ⟨w.heap.size + 1, 2, none⟩ = some (.string ⟨#[]⟩) := b2
  have b3' : w1.cell? ⟨w.heap.size + 1, 3, none⟩ = some (.slice none 0 0) := b3
  clear hw1 b0 b1 b2 b3 hx hX9 hT hbx hA
  cases R with
  | true =>
    go_enter Tryz.func47, Tryz.ntmps47
    go_wp2_with (first
      | (go_at_call 24; refine HX.out.mono ?_; rintro e w2 ⟨rfl, hb2⟩; have hbr := below_then hB1.below hB1.size hb2; have c0 := cellB hb2 b0'; have c1 := cellB hb2 b1'; have c2 := cellB hb2 b2'; have c3 := cellB hb2 b3'; clear HX)
      | (go_at_call 24; refine (HZ.out _ hbr).mono ?_; rintro e w3 ⟨rfl, hb3⟩))
    go_ret
    exact ⟨rfl, below_then hbr hbr.size hb3⟩
  | false =>
    go_enter Tryz.func47, Tryz.ntmps47
    go_wp2_with (go_at_call 24; refine HX.out.mono ?_; rintro e w2 ⟨rfl, hb2⟩)
    go_ret
    exact ⟨rfl, below_then hB1.below hB1.size hb2⟩
/-- The cells of a pair in a row of the call's own. -/
theorem pair_at {w : World} {base : Nat} {S : Nat → Prop} {l : List V} {A : Option Addr} {cap : Nat} (h : OwnG eltK 49 w base S l (.slice A l.length cap)) (i : Nat) (hi : i < l.length) :
    ∃ g B cb, A = some ⟨g, 0, none⟩ ∧ base ≤ g ∧ g < w.heap.size ∧ V.Bd (itemAt l i) ∧ (itemAt l i).items.length ≤ cb ∧ LA w S (itemAt l i).items B ∧ w.cell? ⟨g, i * 8, none⟩ = some (.int .i64 (itemAt l i).kind) ∧ w.cell? ⟨g, i * 8 + 1, none⟩ = some (.int .i64 (itemAt l i).num) ∧
      w.cell? ⟨g, i * 8 + 2, none⟩ = some (.string (itemAt l i).text) ∧ w.cell? ⟨g, i * 8 + 3, none⟩ = some (.slice B (itemAt l i).items.length cb) ∧ w.cell? ⟨g, i * 8 + 4, none⟩ = some (.int .i64 0) ∧ w.cell? ⟨g, i * 8 + 5, none⟩ = some (.int .i64 0) ∧
      w.cell? ⟨g, i * 8 + 6, none⟩ = some (.string ⟨#[]⟩) ∧ w.cell? ⟨g, i * 8 + 7, none⟩ = some (.slice none 0 0) := by
  obtain ⟨g, cap2, a, e, h1, h2, h3, ⟨ck, hv, rfl⟩, h4⟩ := h.at i _ (itemAt_get hi)
  obtain ⟨hb, B, cb, rfl, h5, h6⟩ := hv.eq
  injection e with e1 _ _
  exact ⟨g, B, cb, e1, h2, h3, hb, h5, h6.keep (Keeps.weak fun b h => h.1), h4 0 _ rfl, h4 1 _ rfl, h4 2 _ rfl, h4 3 _ rfl, h4 4 _ rfl, h4 5 _ rfl, h4 6 _ rfl, h4 7 _ rfl⟩
def errL (l : List V) : Int := if 65536 < l.length then 2 else if l.all rightB = true then 0 else 3
set_option maxRecDepth 100000 in
set_option maxHeartbeats 1000000 in
theorem checked_calls (l : List V) (A : Option Addr) (cap : Nat) (w : World) (base : Nat) (S : Nat → Prop) (hl : OwnG eltK 49 w base S l (.slice A l.length cap)) (hT : Lib.Utf8Tabs 1 2 w) (hlen0 : l.length ≤ 4294967296) :
    Calls Tryz.prog 33 #[.slice A l.length cap] w fun e w' => e = .returned (.int .i64 (errL l)) ∧ Below w.heap.size w w' := by
  by_cases hlen : 65536 < l.length
  · have h1 : 65536 < (l.length : Int) := by omega
    have HE : Hid (2 = errL l) := Lib.hid (by unfold errL; rw [if_pos hlen])
    clear hlen hl hT
    go_enter Tryz.func33, Tryz.ntmps33
    go_wp2_with fail
    go_ret
    exact ⟨by rw [← HE.out]; rfl, Below.refl _ _⟩
  · have h1 : ¬ (65536 < (l.length : Int)) := by omega
    have HLN := Lib.hid hlen
    have HL := Lib.hid hl
    have HT := Lib.hid hT
    clear hlen hl hT
    go_enter Tryz.func33, Tryz.ntmps33
    go_wp2_with fail
    go_loopw [11] (fun vi wr => ∃ i : Nat, vi = .int .i64 i ∧ i ≤ l.length ∧ Hid (∀ x ∈ l.take i, rightB x = true) ∧ Below w.heap.size w wr) (fun vi _ => l.length - (intOf vi).toNat)
    case atStart => exact ⟨0, rfl, Nat.zero_le _, Lib.hid (by intro x hx; cases hx), Below.refl _ _⟩
    case round =>
      obtain ⟨i, rfl, hil, hpre, hb⟩ := hrel
      by_cases hlt : i < l.length
      · have hz : (i : Int) < (l.length : Int) := by omega
        obtain ⟨g, B, cb, rfl, hg0, hg1, hbd, hcb, hB, f0, f1, f2, f3, f4, f5, f6, f7⟩ := pair_at (HL.out.below hb) i hlt
        have hpl := plus0 g
        have HK := fun (W : World) (hb' : Below wr.heap.size wr W) => rpair_calls (itemAt l i) _ W S ((IsV.mk hbd hcb hB).below hb') (tabs_below HT.out (below_then hb hb.size hb'))
        by_cases hr : rightB (itemAt l i) = true
        · rw [if_pos hr] at HK
          have HK := Lib.hid HK
          have HP2 : Hid (∀ x ∈ l.take (i + 1), rightB x = true) := Lib.hid (by
            rw [itemAt_take hlt]
            intro x hx
            rcases List.mem_append.1 hx with hx | hx
            · exact hpre.out x hx
            · simp at hx; subst hx; exact hr)
          clear hr hbd hB
          go_wp2_with (go_at_call 47; refine (HK.out _ ((Below.refl _ _).alloc (Nat.le_refl _) _)).mono ?_; rintro e w4 ⟨rfl, hb4⟩; have hbr := below_then hb hb.size (below_then ((Below.refl _ _).alloc (Nat.le_refl _) _) (by simp) hb4); clear hb4)
          go_roundw
          case rel => exact ⟨i + 1, by go_num, by omega, HP2, hbr⟩
          case measure => simp [intOf]; omega
        · rw [if_neg hr] at HK
          have HK := Lib.hid HK
          have HE : Hid (3 = errL l) := Lib.hid (by
            unfold errL
            rw [if_neg HLN.out, if_neg]
            intro h
            exact hr (List.all_eq_true.1 h _ (itemAt_mem hlt)))
          clear hr hbd hB
          go_wp2_with (go_at_call 47; refine (HK.out _ ((Below.refl _ _).alloc (Nat.le_refl _) _)).mono ?_; rintro e w4 ⟨rfl, hb4⟩; have hbr := below_then hb hb.size (below_then ((Below.refl _ _).alloc (Nat.le_refl _) _) (by simp) hb4); clear hb4)
          go_ret
          exact ⟨by rw [← HE.out]; rfl, hbr⟩
      · have he : i = l.length := by omega
        have HE : Hid (0 = errL l) := Lib.hid (by
          unfold errL
          rw [if_neg HLN.out, if_pos]
          rw [List.all_eq_true]
          have h2 := hpre.out
          rwa [he, List.take_length] at h2)
        have hz : ¬ (i : Int) < (l.length : Int) := by omega
        clear he hpre
        go_wp2_with fail
        go_ret
        exact ⟨by rw [← HE.out]; rfl, hb⟩
end Go.Proofs.YtmnblgaefdahhaaGreatDoor
