/- A deque's height; a deque as a value. -/
import Derived.Test.YtjjbhnkplbjfeaaDoorCFnV

set_option linter.unusedVariables false
set_option linter.unusedSimpArgs false
namespace Go.Proofs.YtjjbhnkplbjfeaaDoor
open Go.RowKit
attribute [local go_sem] lt_succ_of

theorem height_small {t : Ft} {k : Nat} (h : Ft.Ok k t) (hl : t.items.length ≤ 65536) : t.height ≤ 65537 := by
  cases hn : t.isNil with
  | true => rw [height_nil.2 hn]; omega
  | false =>
    have h1 := height_le h hn
    have h2 : k + t.height - 1 < 3 ^ (k + t.height - 1) := Nat.lt_pow_self (by omega)
    omega
set_option maxRecDepth 100000 in
set_option maxHeartbeats 4000000 in
theorem dheight_calls (l : List V) (p : Option Addr) (w : World) (S : Nat → Prop) (h : IsD w S l p) :
    ∃ n : Nat, ((n = 0 ↔ l.length = 0) ∧ (l.length ≠ 0 → 3 ^ (n - 1) ≤ l.length)) ∧ Calls Tryd.prog 32 #[.pointer p] w fun e w' => e = .returned (.int .i64 (n : Int)) ∧ w = w' := by
  obtain ⟨t, q, hf, ho, hi, hT⟩ := top_calls l p w S h
  refine ⟨t.height, ⟨⟨fun e => ?_, fun e => ?_⟩, fun e => ?_⟩, ?_⟩
  · rw [height_nil] at e
    rw [← hi, isNil_nil e]
    rfl
  · rw [height_nil]
    cases hn : t.isNil with
    | true => rfl
    | false => have := items_pos ho hn; rw [hi] at this; omega
  · cases hn : t.isNil with
    | true => rw [← hi, isNil_nil hn] at e; exact absurd rfl e
    | false =>
      have := height_le ho hn
      rwa [Nat.zero_add, hi] at this
  have hsm := height_small ho (by rw [hi]; exact h.1)
  have HT := Lib.hid hT
  have HF := Lib.hid hf
  clear hT hf ho hi h
  go_enter Tryd.func32, Tryd.ntmps32
  go_wp2_with (go_at_call 73; refine HT.out.mono ?_; rintro e w2 ⟨rfl, rfl⟩)
  go_loop [3, 4] (fun v3 v4 => ∃ (k : Nat) (t' : Ft) (q' : Option Addr), v3 = .int .i64 k ∧ v4 = .pointer q' ∧ k + t'.height = t.height ∧ Hid (IsF w S t' q')) (fun v _ => t.height - (intOf v).toNat)
  case atStart => exact ⟨0, t, q, rfl, rfl, by omega, HF⟩
  case round =>
    obtain ⟨k, t', q', rfl, rfl, hk, hq⟩ := hrel
    cases t' with
    | nil =>
      obtain rfl := hq.out.nil_eq
      have hk2 : k = t.height := by simpa [Ft.height] using hk
      subst hk2
      clear hk hsm
      go_wp2_with fail
      go_ret
      exact ⟨rfl, rfl⟩
    | mk a m c =>
      obtain ⟨b, vl, vr, q2, rfl, hs, c0, c1, c2, c3, _, _, hq2⟩ := hq.out.eq
      have hbl := World.block_lt_of_cell? w _ c0
      have HQ2 := Lib.hid hq2
      have hkk : k + 1 ≤ 65537 := by simp only [Ft.height] at hk; omega
      have HK : Hid (k + 1 + m.height = t.height) := Lib.hid (by simp only [Ft.height] at hk; omega)
      have HM : Hid (k < t.height) := Lib.hid (by simp only [Ft.height] at hk; omega)
      clear hq2 c0 hk
      go_wp2_with fail
      go_round
      case rel => exact ⟨k + 1, m, q2, by go_num, rfl, HK.out, HQ2⟩
      case measure => have := HM.out; simp [intOf]; omega
set_option maxRecDepth 100000 in
set_option maxHeartbeats 4000000 in
theorem dvalue_calls (l : List V) (p : Option Addr) (w : World) (S : Nat → Prop) (h : IsD w S l p) (hT : Lib.Utf8Tabs 1 2 w) :
    Calls Tryd.prog 35 #[.pointer p] w fun e w' => ∃ v, e = .returned (.tuple #[v, .int .i64 (listV l).2]) ∧ IsV w' (fun b => w.heap.size ≤ b) (listV l).1 v ∧ Below w.heap.size w w' := by
  obtain ⟨w1, hw1, hB1, hsz, hb0⟩ := box0 w 33 (.int .i64 0) (.int .i64 0) (.string ⟨#[]⟩) (.slice none 0 0)
  obtain ⟨e0, e1, e2, e3⟩ := block4 hb0
  have fz := free4 hb0
  have hl1 : w.heap.size < w1.heap.size := by omega
  have HI := Lib.hid (items_calls l p w1 S (h.below hB1))
  have HT := Lib.hid (tabs_below hT hB1)
  have HB0 := Lib.hid hb0
  obtain ⟨L, hL⟩ : ∃ L, listV l = L := ⟨_, rfl⟩
  have HLL := Lib.hid hL
  rw [hL]
  clear h hT hb0 hL
  go_enter Tryd.func35, Tryd.ntmps35
  go_wp2_with (first
    | (go_at_call 37; refine HI.out.mono ?_; rintro e w2 ⟨v2, rfl, hv2, hb2⟩; have HLS := list_calls l v2 w2 _ hv2 (tabs_below HT.out hb2); rw [HLL.out] at HLS; have HLC := Lib.hid HLS; clear HLS hv2)
    | (go_at_call 80; refine HLC.out.mono ?_; rintro e w3 ⟨v3, rfl, hv3, hb3⟩; obtain ⟨_, A3, c3, rfl, _, _⟩ := hv3.eq; have hb23 := below_then hb2 hb2.size hb3; have hk3 := blockB hb23 HB0.out; obtain ⟨g0, g1, g2, g3⟩ := block4 hk3; have gz := free4 hk3; have lg := World.block_lt_of_cell? w3 _ g0; obtain ⟨w4, hw4, hk4, hs4, hot4, hB4⟩ := store_box (w := w3) hk3 (.int .i64 L.1.kind) (.int .i64 L.1.num) (.string L.1.text) (.slice A3 L.1.items.length c3); obtain ⟨f0, f1, f2, f3⟩ := block4 hk4; have HV3 := Lib.hid (And.intro hv3 hot4); clear hv3 hk3 hk4 hot4))
  have hs2 := hb2.size
  refine bodyPost_ret (v := .tuple #[.agg #[.int .i64 L.1.kind, .int .i64 L.1.num, .string L.1.text, .slice A3 L.1.items.length c3], .int .i64 L.2]) (by simp [results, Tryd.results35, go_sem, f0, f1, f2, f3]) rfl ⟨_, rfl, HV3.out.1.keep fun b hb (h : w2.heap.size ≤ b) => ⟨show w.heap.size ≤ b by omega, HV3.out.2 b (by omega)⟩, (below_then hB1 hB1.size hb23).trans (hB4 _ (Nat.le_refl _))⟩
end Go.Proofs.YtjjbhnkplbjfeaaDoor
