/- The document's answers of a list at its front; the most levels. -/
import Derived.Test.YtjjbhnkplbjfeaaDoorCFnRef
import Derived.Test.YtjjbhnkplbjfeaaDoorCFnT

set_option linter.unusedVariables false
set_option linter.unusedSimpArgs false
namespace Go.Proofs.YtjjbhnkplbjfeaaDoor
open Go.RowKit
attribute [local go_sem] lt_succ_of

set_option maxRecDepth 100000 in
set_option maxHeartbeats 4000000 in
theorem reffront_calls (l : List V) (x : V) (vl vx : Value) (w : World) (S : Nat → Prop) (hl : IsS w S l vl) (hx : IsV w S x vx) (hl65 : l.length ≤ 65536) :
    Calls Tryd.prog 28 #[vl, vx] w fun e w' => ∃ v, e = .returned (.tuple #[v, .int .i64 (pushE l x)]) ∧ (pushE l x = 0 → IsS w' (Old w S) (x :: l) v) ∧ (∃ A n c, v = .slice A n c ∧ (A = none → c = 0)) ∧ Below w.heap.size w w' := by
  obtain ⟨A, cA, rfl, hcA, hla, hA⟩ := hl
  obtain ⟨hbx, Ax, cx, rfl, hcx, hAx⟩ := hx.eq
  obtain ⟨w1, hw1, hB1, hsz, hb0⟩ := box0 w 33 (.int .i64 x.kind) (.int .i64 x.num) (.string x.text) (.slice Ax x.items.length cx)
  have hK1 : Keeps w S w1 (fun b => S b ∧ b < w.heap.size) := Keeps.below_to hB1 fun b h1 h2 => ⟨h2, h1⟩
  obtain ⟨e0, e1, e2, e3⟩ := block4 hb0
  have hX1 := (IsV.mk hbx hcx hAx).keep hK1
  have HR := Lib.hid (rightref_calls x _ w1 _ hX1)
  have HX := Lib.hid ((VC.mk hbx hcx hAx).keep hK1)
  have HA := Lib.hid (hA.keep hK1)
  have HB0 := Lib.hid hb0
  clear hX1 hAx hA hK1 hb0 hx
  by_cases hr : rightB x = true
  · rw [hr] at HR
    by_cases h65 : 65536 ≤ l.length
    · rw [pushE_long hr h65]
      have h2 : ((l.length : Int) == 65536) = true := by rw [show l.length = 65536 by omega]; rfl
      clear hr h65 hl65 hla
      go_enter Tryd.func28, Tryd.ntmps28
      go_wp2_with (first | (go_at_call 66; refine HR.out.mono ?_; rintro e w2 ⟨rfl, hb2⟩))
      go_ret2
      exact ⟨_, rfl, by simp, ⟨_, _, _, rfl, fun _ => rfl⟩, below_then hB1 hB1.size hb2⟩
    · rw [pushE_ok hr h65]
      have h2 : ((l.length : Int) == 65536) = false := by simp; omega
      have HL := Lib.hid (show l.length ≤ 65535 by omega)
      clear hr h65 hl65 hla
      go_enter Tryd.func28, Tryd.ntmps28
      go_wp2_with (first
        | (go_at_call 66; refine HR.out.mono ?_; rintro e w2 ⟨rfl, hb2⟩; have HA2 := Lib.hid (HA.out.below hb2); have HX2 := Lib.hid (HX.out.keep (S' := fun b => (S b ∧ b < w.heap.size) ∧ some b ≠ (Value.slice none 0 0).ownBlock) ((Keeps.below hb2).trans (Keeps.weak fun b h => ⟨h, by simp [Value.ownBlock]⟩))); have hk2 := blockB hb2 HB0.out; obtain ⟨f0, f1, f2, f3⟩ := block4 hk2; have hs2 := hb2.size)
        | (at_builtin; refine append_one w2.heap.size (fun b => S b ∧ b < w.heap.size) rfl _ _ rfl (.slice none 0 0) [] x _ _ _ _ rfl rfl (OwnL.nil _ _ _) HX2.out (Nat.le_refl _) (by simp) ?_; intro v1 w3 hO hg; rw [List.nil_append] at hO; have hb3 := Below.grown (Below.refl w2.heap.size w2) hg (Nat.le_refl _) (fun k e => by cases e); have hs3 := hb3.size; obtain ⟨A3, c3, rfl, hc3⟩ := hO.form; have hown := hO.own_lt; have HO := Lib.hid hO; have HA3 := Lib.hid (HA2.out.keep (S' := fun b => (S b ∧ b < w.heap.size) ∧ some b ≠ (Value.slice A3 [x].length c3).ownBlock) (Keeps.below_to hb3 fun b hb hs => ⟨hs, fun e => by have := (hown b e.symm).1; omega⟩)); clear hO hown HX2)
        | (at_builtin; refine append_many w2.heap.size (fun b => S b ∧ b < w.heap.size) rfl _ _ rfl (.slice A3 1 c3) [x] l A cA rfl rfl HO.out HA3.out hs3 (by have := HL.out; simp; omega) ?_; intro v4 w4 hO4 hg4; have hb4 := Below.grown hb3 hg4 hs3 (fun k hk => (HO.out.own_lt k hk).1); obtain ⟨A4, c4, rfl, hc4⟩ := hO4.form; have HO4 := Lib.hid hO4; clear hO4))
      go_ret2
      refine ⟨_, rfl, fun _ => ?_, ⟨A4, _, _, rfl, ?_⟩, below_then (below_then hB1 hB1.size hb2) (below_then hB1 hB1.size hb2).size hb4⟩
      · have hI := HO4.out.is (S' := Old w S) (fun b h => .inl h) (fun b (h : w2.heap.size ≤ b) => .inr (by omega)) (by have := HL.out; simp; omega)
        simpa using hI
      · rintro rfl
        exact HO4.out.cap0
  · rw [pushE_bad hr]
    have hr2 : rightB x = false := by simpa using hr
    rw [hr2] at HR
    clear hr hr2
    go_enter Tryd.func28, Tryd.ntmps28
    go_wp2_with (first | (go_at_call 66; refine HR.out.mono ?_; rintro e w2 ⟨rfl, hb2⟩))
    go_ret2
    exact ⟨_, rfl, by simp, ⟨_, _, _, rfl, fun _ => rfl⟩, below_then hB1 hB1.size hb2⟩
theorem add0 (ad : Addr) : ad.add 0 = ad := by unfold Addr.add; rw [if_pos rfl]
theorem LA.drop_if {w : World} {S : Nat → Prop} {r : List V} {ad : Addr} (h : LA w S r (some ad)) (n m c : Nat) (hm : m = n * 4) (hn : 0 < m) (hc : r.length ≤ c) : LA w S (r.drop n) (if c = n then some ad else some ⟨ad.block, ad.off + m, none⟩) := by
  split
  · exact .inl (List.drop_eq_nil_of_le (by omega))
  · have := h.drop n
    have e : ad.add m = ⟨ad.block, ad.off + m, none⟩ := by
      unfold Addr.add
      rw [if_neg (by omega)]
    rwa [← hm, e] at this
set_option maxRecDepth 100000 in
set_option maxHeartbeats 4000000 in
theorem refpopfront_calls (l : List V) (vl : Value) (w : World) (S : Nat → Prop) (hl : IsS w S l vl) (hl65 : l.length ≤ 65536) :
    Calls Tryd.prog 30 #[vl] w fun e w' => ∃ v vx, e = .returned (.tuple #[v, vx, .int .i64 (popE l)]) ∧ IsV w' (Old w S) (popFX l) vx ∧ (l ≠ [] → IsS w' (Old w S) l.tail v) ∧ (∃ A n c, v = .slice A n c ∧ (A = none → c = 0)) ∧ Below w.heap.size w w' := by
  obtain ⟨A, cA, rfl, hcA, hla, hA⟩ := hl
  obtain ⟨w1, hw1, hB1, hsz, hb0⟩ := box0 w 33 (.int .i64 0) (.int .i64 0) (.string ⟨#[]⟩) (.slice none 0 0)
  obtain ⟨e0, e1, e2, e3⟩ := block4 hb0
  have fz := free4 hb0
  by_cases h0 : l.length = 0
  · obtain rfl : l = [] := List.eq_nil_of_length_eq_zero h0
    clear hb0 hA
    go_enter Tryd.func30, Tryd.ntmps30
    go_wp2_with fail
    refine bodyPost_ret (v := .tuple #[.slice none 0 0, .agg #[.int .i64 0, .int .i64 0, .string ⟨#[]⟩, .slice none 0 0], .int .i64 6]) (by simp [results, Tryd.results30, go_sem, e0, e1, e2, e3]) rfl ⟨_, _, rfl, (show IsV _ _ V.zero _ from zero_is _ _), by simp, ⟨_, _, _, rfl, fun _ => rfl⟩, ?_⟩
    repeat refine Below.setCell ?_ (by simp) _
    exact hB1
  · have h1 : ((l.length : Int) == 0) = false := by simpa using h0
    have hpe : popE l = 0 := by unfold popE; rw [if_neg h0]
    have hpx : popFX l = itemAt l 0 := rfl
    rw [hpe, hpx]
    obtain ⟨ad, A1, cap1, rfl, hla', hbd, f0, f1, f2, f3, hcap1, hLA⟩ := (hA.keep (S' := fun b => S b ∧ b < w.heap.size) (Keeps.below_to hB1 fun b h1 h2 => ⟨h2, h1⟩)).at 0 (by omega)
    simp only [Nat.zero_mul, add0] at hla' f0 f1 f2 f3
    have i2 : (1 : Int) ≤ (l.length : Int) := by omega
    have i4 : (l.length : Int) ≤ (cA : Int) := by omega
    have i5 : 1 ≤ l.length := by omega
    have i6 : (0 : Int) < (l.length : Int) := by omega
    have i7 : 0 < l.length := by omega
    have HLA := Lib.hid hLA
    have HA := Lib.hid hA
    have HL := Lib.hid hl65
    have HB0 := Lib.hid hb0
    clear hb0 hA hpe hpx hLA hl65 hla
    go_enter Tryd.func30, Tryd.ntmps30
    go_wp2_with fail
    go_region
    all_goals go_wp2_with fail
    · have hone : l.length = 1 := by omega
      obtain ⟨w9, hw9, hk9, hs9, hot9, hbw9⟩ := store_box_drew (w := w1) HB0.out (.int .i64 (itemAt l 0).kind) (.int .i64 (itemAt l 0).num) (.string (itemAt l 0).text) (.slice A1 (itemAt l 0).items.length cap1)
      rw [hw9]
      clear hw9 e0 e1 e2 e3 fz f0 f1 f2 f3
      obtain ⟨e0, e1, e2, e3⟩ := block4 hk9
      have hK9 : Keeps w1 (fun b => S b ∧ b < w.heap.size) w9 (Old w S) := fun b hb hs => ⟨.inl hs, hot9 b (Nat.ne_of_lt hs.2)⟩
      have hB9 : Below w.heap.size w w9 := hB1.trans (hbw9 _ (Nat.le_refl _))
      have hv9 : IsV w9 (Old w S) (itemAt l 0) (.agg #[.int .i64 (itemAt l 0).kind, .int .i64 (itemAt l 0).num, .string (itemAt l 0).text, .slice A1 (itemAt l 0).items.length cap1]) := IsV.mk hbd hcap1 (HLA.out.keep hK9)
      have hd8 : LA w9 (Old w S) l.tail (if l.length = 1 then some ad else some ⟨ad.block, ad.off + 4, none⟩) := by
        have h3 := (((HA.out.drop_if 1 4 l.length rfl (by omega) (Nat.le_refl _))).keep (Keeps.below_to hB1 fun b h1 h2 => (⟨h2, h1⟩ : S b ∧ b < w.heap.size))).keep hK9
        rwa [List.drop_one] at h3
      rw [if_pos hone] at hd8
      have hd9 : IsS w9 (Old w S) l.tail (.slice (some ad) 0 0) :=
        ⟨_, 0, by rw [List.length_tail, hone], by rw [List.length_tail]; omega, by rw [List.length_tail]; omega, hd8⟩
      clear hK9 hot9 hbw9 hk9 hd8 hone
      refine bodyPost_ret (v := .tuple #[.slice (some ad) 0 0, .agg #[.int .i64 (itemAt l 0).kind, .int .i64 (itemAt l 0).num, .string (itemAt l 0).text, .slice A1 (itemAt l 0).items.length cap1], .int .i64 0]) (by simp [results, Tryd.results30, go_sem, e0, e1, e2, e3]) rfl ⟨_, _, rfl, hv9, fun _ => hd9, ⟨_, _, _, rfl, fun e => by cases e⟩, hB9⟩
    · have hone : ¬ l.length = 1 := by omega
      obtain ⟨w9, hw9, hk9, hs9, hot9, hbw9⟩ := store_box_drew (w := w1) HB0.out (.int .i64 (itemAt l 0).kind) (.int .i64 (itemAt l 0).num) (.string (itemAt l 0).text) (.slice A1 (itemAt l 0).items.length cap1)
      rw [hw9]
      clear hw9 e0 e1 e2 e3 fz f0 f1 f2 f3
      obtain ⟨e0, e1, e2, e3⟩ := block4 hk9
      have hK9 : Keeps w1 (fun b => S b ∧ b < w.heap.size) w9 (Old w S) := fun b hb hs => ⟨.inl hs, hot9 b (Nat.ne_of_lt hs.2)⟩
      have hB9 : Below w.heap.size w w9 := hB1.trans (hbw9 _ (Nat.le_refl _))
      have hv9 : IsV w9 (Old w S) (itemAt l 0) (.agg #[.int .i64 (itemAt l 0).kind, .int .i64 (itemAt l 0).num, .string (itemAt l 0).text, .slice A1 (itemAt l 0).items.length cap1]) := IsV.mk hbd hcap1 (HLA.out.keep hK9)
      have hd8 : LA w9 (Old w S) l.tail (if l.length = 1 then some ad else some ⟨ad.block, ad.off + 4, none⟩) := by
        have h3 := (((HA.out.drop_if 1 4 l.length rfl (by omega) (Nat.le_refl _))).keep (Keeps.below_to hB1 fun b h1 h2 => (⟨h2, h1⟩ : S b ∧ b < w.heap.size))).keep hK9
        rwa [List.drop_one] at h3
      rw [if_neg hone] at hd8
      have hd9 : IsS w9 (Old w S) l.tail (.slice (some ⟨ad.block, ad.off + 4, none⟩) (l.length - 1) (l.length - 1)) :=
        ⟨_, l.length - 1, by rw [List.length_tail], by rw [List.length_tail]; omega, by have := HL.out; rw [List.length_tail]; omega, hd8⟩
      clear hK9 hot9 hbw9 hk9 hd8 hone
      refine bodyPost_ret (v := .tuple #[.slice (some ⟨ad.block, ad.off + 4, none⟩) (l.length - 1) (l.length - 1), .agg #[.int .i64 (itemAt l 0).kind, .int .i64 (itemAt l 0).num, .string (itemAt l 0).text, .slice A1 (itemAt l 0).items.length cap1], .int .i64 0]) (by simp [results, Tryd.results30, go_sem, e0, e1, e2, e3]) rfl ⟨_, _, rfl, hv9, fun _ => hd9, ⟨_, _, _, rfl, fun e => by cases e⟩, hB9⟩
set_option maxRecDepth 100000 in
set_option maxHeartbeats 4000000 in
theorem levels_calls (n : Nat) (w : World) (hn : n ≤ 65536) :
    ∃ m : Nat, (∀ h : Nat, (h = 0 ↔ n = 0) → (n ≠ 0 → 3 ^ (h - 1) ≤ n) → h ≤ m) ∧ Calls Tryd.prog 34 #[.int .i64 (n : Int)] w fun e w' => e = .returned (.int .i64 (m : Int)) ∧ w = w' := by
  by_cases h0 : n = 0
  · subst h0
    refine ⟨0, fun h h1 _ => by have := h1.2 rfl; omega, ?_⟩
    go_enter Tryd.func34, Tryd.ntmps34
    go_wp2_with fail
    go_ret
    exact ⟨rfl, rfl⟩
  · have h1 : ((n : Int) == 0) = false := by simpa using h0
    refine ⟨n.log2 + 2, fun h h1 h2 => ?_, ?_⟩
    · have h3 := h2 h0
      have h4 : 2 ^ (h - 1) ≤ n := Nat.le_trans (Nat.pow_le_pow_left (by decide) _) h3
      have h5 : n < 2 ^ (n.log2 + 1) := Nat.lt_log2_self
      have h6 := (Nat.pow_lt_pow_iff_right (by decide : 1 < 2)).1 (Nat.lt_of_le_of_lt h4 h5)
      omega
    · go_enter Tryd.func34, Tryd.ntmps34
      go_wp2_with fail
      go_loopw [3] (fun vb wr => ∃ b : Nat, vb = .int .i64 b ∧ b ≤ n.log2 ∧ w = wr) (fun v _ => n.log2 - (intOf v).toNat)
      case atStart => exact ⟨0, rfl, by omega, rfl⟩
      case round =>
        obtain ⟨b, rfl, hb, rfl⟩ := hrel
        have hl : n.log2 ≤ 16 := by
          have := Nat.log2_self_le h0
          have h3 : 2 ^ n.log2 < 2 ^ 17 := by omega
          have := (Nat.pow_lt_pow_iff_right (by decide : 1 < 2)).1 h3
          omega
        have b1 : (b : Int) + 1 ≤ 17 := by omega
        by_cases hlt : b < n.log2
        · have h2 : 2 ^ (b + 1) ≤ n := Nat.le_trans (Nat.pow_le_pow_right (by decide) hlt) (Nat.log2_self_le h0)
          have h3 : 0 < n / 2 ^ (b + 1) := Nat.div_pos h2 (Nat.pow_pos (by decide))
          have h4 : (0 : Int) < (n : Int) / 2 ^ (b + 1) := by
            have : ((n / 2 ^ (b + 1) : Nat) : Int) = (n : Int) / 2 ^ (b + 1) := by push_cast; rfl
            omega
          clear h2 h3 hn h0
          go_wp2_with fail
          go_roundw
          case rel => exact ⟨b + 1, by go_num, by omega, trivial⟩
          case measure => simp [intOf]; omega
        · obtain rfl : b = n.log2 := by omega
          have h3 : n / 2 ^ (n.log2 + 1) = 0 := Nat.div_eq_of_lt Nat.lt_log2_self
          have h4 : (n : Int) / 2 ^ (n.log2 + 1) = 0 := by
            have : ((n / 2 ^ (n.log2 + 1) : Nat) : Int) = (n : Int) / 2 ^ (n.log2 + 1) := by push_cast; rfl
            omega
          clear h3 hn h0 hlt
          go_wp2_with fail
          go_ret
          exact ⟨rfl, rfl⟩
end Go.Proofs.YtjjbhnkplbjfeaaDoor
