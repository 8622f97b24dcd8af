/- A vector with another item in a place. -/
import Derived.Test.YtaeldfnihocljaaDoorRrbP
import Derived.Deep.RegionHeld3
set_option linter.unusedVariables false
set_option linter.unusedSimpArgs false
namespace Go.Proofs.YtaeldfnihocljaaDoor
open Go.RowKit
attribute [local go_sem] lt_succ_of methLeaf methBranch asNone asSome asLeaf asBranch

/-- What is wrong with an item for a place. -/
def setE (l : List V) (i : Int) (x : V) : Int := if rightB x = true then (if 0 ≤ i ∧ i < l.length then 0 else 5) else 3
set_option maxRecDepth 100000 in
set_option maxHeartbeats 8000000 in
theorem vset_calls (l : List V) (h b : Nat) (i : Int) (x : V) (vx : Value) (w : World) (S : Nat → Prop) (hr : IsR w S l h b) (hx : IsV w S x vx) (hT : Lib.Utf8Tabs 0 1 w) (hi0 : -9223372036854775808 ≤ i) (hi1 : i ≤ 9223372036854775807) :
    Calls Tryd.prog 25 #[.pointer (some ⟨b, 0, none⟩), .int .i64 i, vx] w fun e w' => ∃ p, e = .returned (.tuple #[p, .int .i64 (setE l i x)]) ∧ ((setE l i x ≠ 0 ∧ p = .pointer none) ∨ (setE l i x = 0 ∧ ∃ b', p = .pointer (some ⟨b', 0, none⟩) ∧ IsR w' (Old w S) (l.set i.toNat x) h b')) ∧ Below w.heap.size w w' := by
  obtain ⟨hbx, Ax, cx, rfl, hcx, hAx⟩ := hx.eq
  obtain ⟨w1, hw1, hB1, hsz, hb0⟩ := box0 w 31 (.int .i64 x.kind) (.int .i64 x.num) (.string x.text) (.slice Ax x.items.length cx)
  have hK1 : Keeps w S w1 (fun b => S b ∧ b < w.heap.size) := Keeps.below_to hB1 fun b h1 h2 => ⟨h2, h1⟩
  obtain ⟨e0, e1, e2, e3⟩ := block4 hb0
  have hX1 := (IsV.mk hbx hcx hAx).keep hK1
  have HX := Lib.hid hX1
  have HR := Lib.hid (hr.keep hK1)
  have HCK := Lib.hid (check_calls x _ w1 _ hX1 (tabs_below hT hB1))
  clear hx hAx hX1 hr hT hb0 hK1
  by_cases hc : rightB x = true
  · have hE : setE l i x = if 0 ≤ i ∧ i < l.length then 0 else 5 := by unfold setE; rw [if_pos hc]
    rw [if_pos hc] at HCK
    clear hc
    by_cases hneg : i < 0
    · rw [if_neg (by omega)] at hE
      rw [hE]
      clear hE
      have h2 : decide (i < 0) = true := by simpa using hneg
      go_enter Tryd.func25, Tryd.ntmps25
      go_wp2_with (first | (go_at_call 51; refine HCK.out.mono ?_; rintro e w2 ⟨rfl, hb2⟩))
      go_ret2
      exact ⟨_, rfl, .inl ⟨by decide, rfl⟩, below_then hB1 hB1.size hb2⟩
    · obtain ⟨j, rfl⟩ : ∃ j : Nat, i = (j : Int) := ⟨i.toNat, by omega⟩
      have h2 : decide ((j : Int) < 0) = false := by simp
      by_cases hj : j < l.length
      · rw [if_pos (by omega)] at hE
        rw [hE]
        clear hE
        simp only [Int.toNat_natCast]
        have hl65 := HR.out.2.2.1
        obtain ⟨hsb, ch, _, ⟨hl0, _⟩ | ⟨nd, u, c0, hu, hn, hd, hroot⟩⟩ := HR.out
        · exfalso; subst hl0; simp at hj
        obtain ⟨t, y, rfl⟩ := hu.form
        have HN := Lib.hid (And.intro hu (And.intro hn (And.intro hd hroot)))
        have hj3 : ¬ (l.length : Int) ≤ (j : Int) := by omega
        have hj4 : (j : Int) < (l.length : Int) := by omega
        have hbw : b < w1.heap.size := World.block_lt_of_cell? w1 _ c0
        have HJ := Lib.hid hj
        clear hu hn hd hroot hj
        go_enter Tryd.func25, Tryd.ntmps25
        go_wp2_with (first | (go_at_call 51; refine HCK.out.mono ?_; rintro e w2 ⟨rfl, hb2⟩; have HL := Lib.hid (len_calls l h b w2 _ (HR.out.below hb2))) | (go_at_call 24; refine HL.out.mono ?_; rintro e w3 ⟨rfl, hb3⟩; have hb4 := below_then hb2 hb2.size hb3; have d0 := cellB hb4 c0; have dh := cellB hb4 ch; have q0 := cellB hb4 e0; have q1 := cellB hb4 e1; have q2 := cellB hb4 e2; have q3 := cellB hb4 e3; clear c0 ch e0 e1 e2 e3))
        have hb5 := below_then hB1 hB1.size hb4
        have hs5 := hb4.size
        have HOWN := Lib.hid (own_calls x _ w3.drew _ ((HX.out.below hb4).keep Keeps.drew))
        go_region_held3 (fun w' => w'.cell? ⟨b, 0, none⟩ = some (.iface t y) ∧ w'.cell? ⟨b, 1, none⟩ = some (.int .i64 (h : Int)) ∧ w'.cell? ⟨w.heap.size, 0, none⟩ = some (.int .i64 x.kind) ∧ w'.cell? ⟨w.heap.size, 1, none⟩ = some (.int .i64 x.num) ∧ w'.cell? ⟨w.heap.size, 2, none⟩ = some (.string x.text) ∧ w'.cell? ⟨w.heap.size, 3, none⟩ = some (.slice Ax x.items.length cx))
          (first | go_keep | exact ⟨d1, dh1, s0, s1, s2, s3⟩ | exact ⟨d2, dh2, z0, z1, z2, z3⟩)
          (first | (go_at_call 48; refine HOWN.out.mono ?_; rintro e w4 ⟨v, rfl, hv, hbv⟩; have hb6 := below_undrew hbv; have d1 := cellB hb6 d0; have s0 := cellB hb6 q0; have s1 := cellB hb6 q1; have s2 := cellB hb6 q2; have s3 := cellB hb6 q3; have dh1 := cellB hb6 dh; have HSET := Lib.hid (set_all h nd (.iface t y) j x v w4 (Old w3 (fun b => S b ∧ b < w.heap.size)) HN.out.2.2.1 (((HN.out.1.below hb4).keep (Keeps.below_to hb6 fun b hb hs => .inl ⟨hs, hb⟩))) (by rw [HN.out.2.1]; exact HJ.out) (by rw [HN.out.2.1]; exact hl65) (hv.keep (Keeps.weak fun b hb => .inr hb))); clear hv) | (go_at_call 56; refine HSET.out.mono ?_; rintro e w6 ⟨k', u', rfl, hu6, hd6, hp6, hi6, hr6, hb7⟩; obtain ⟨t6, y6, rfl⟩ := hu6.form; have d2 := cellB hb7 d1; have z0 := cellB hb7 s0; have z1 := cellB hb7 s1; have z2 := cellB hb7 s2; have z3 := cellB hb7 s3; have dh2 := cellB hb7 dh1; have HK := Lib.hid (And.intro hu6 (And.intro hd6 (And.intro hi6 hr6))); have hb8 := below_then hb6 hb6.size hb7; clear hu6 hd6 hp6 hi6 hr6))
        go_wp2_with fail
        go_ret2
        have hs6 := hb8.size
        have hnew := cell_new2 w6 (.iface t6 y6) (.int .i64 (h : Int)) 83
        have hS : ∀ b, Old w4 (Old w3 (fun b => S b ∧ b < w.heap.size)) b → Old w S b := fun b hb => by
          rcases hb with ⟨hb | hb, _⟩ | hb
          · exact .inl hb.1
          · exact .inr (by omega)
          · exact .inr (by have := hb6.size; omega)
        refine ⟨_, rfl, .inr ⟨by trivial, w6.heap.size, rfl, ⟨.inr (by omega), hnew.2, by rw [List.length_set]; exact hl65, .inr ⟨k', _, hnew.1, HK.out.1.keep ((Keeps.alloc _).trans (Keeps.weak hS)), by rw [HK.out.2.2.1, HN.out.2.1], HK.out.2.1, ?_⟩⟩⟩, (below_then hb5 hb5.size hb8).alloc (by omega) _⟩
        rcases HN.out.2.2.2 with h1 | ⟨ks, h1, h2⟩
        · exact .inl h1
        · obtain ⟨ks', h3, h4⟩ := HK.out.2.2.2 ks h1
          exact .inr ⟨ks', h3, by omega⟩
      · rw [if_neg (by omega)] at hE
        rw [hE]
        clear hE
        have hj3 : (l.length : Int) ≤ (j : Int) := by omega
        go_enter Tryd.func25, Tryd.ntmps25
        go_wp2_with (first | (go_at_call 51; refine HCK.out.mono ?_; rintro e w2 ⟨rfl, hb2⟩; have HL := Lib.hid (len_calls l h b w2 _ (HR.out.below hb2))) | (go_at_call 24; refine HL.out.mono ?_; rintro e w3 ⟨rfl, hb3⟩))
        go_ret2
        exact ⟨_, rfl, .inl ⟨by decide, rfl⟩, below_then (below_then hB1 hB1.size hb2) (below_then hB1 hB1.size hb2).size hb3⟩
  · have hE : setE l i x = 3 := by unfold setE; rw [if_neg hc]
    rw [if_neg hc] at HCK
    rw [hE]
    clear hE hc
    go_enter Tryd.func25, Tryd.ntmps25
    go_wp2_with (first | (go_at_call 51; refine HCK.out.mono ?_; rintro e w2 ⟨rfl, hb2⟩))
    go_ret2
    exact ⟨_, rfl, .inl ⟨by decide, rfl⟩, below_then hB1 hB1.size hb2⟩
end Go.Proofs.YtaeldfnihocljaaDoor
