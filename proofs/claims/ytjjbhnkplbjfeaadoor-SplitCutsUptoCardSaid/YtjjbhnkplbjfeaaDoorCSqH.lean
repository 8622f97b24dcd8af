/- Right values that compare as one are one; what the document says of two lists joined. -/
import Derived.Test.YtjjbhnkplbjfeaaDoorCSqD
import Derived.Test.YtjjbhnkplbjfeaaDoorCSpY
import Derived.Test.YtjjbhnkplbjfeaaDoorCSpL

set_option linter.unusedVariables false
set_option linter.unusedSimpArgs false
namespace Go.Proofs.YtjjbhnkplbjfeaaDoor
open Go.RowKit
attribute [local go_sem] lt_succ_of

theorem sgn_zero {a b : Int} (h : sgn a b = 0) : a = b := by
  unfold sgn at h
  split at h
  · omega
  · split at h
    · omega
    · omega
theorem cmpB_zero {a b : ByteArray} (h : cmpB a b = 0) : a = b := by
  unfold cmpB at h
  rw [compareBytes_less] at h
  split at h
  · omega
  · split at h
    · rename_i h2
      have h3 : a.data.toList = b.data.toList := by simpa using h2
      exact ByteArray.ext (Array.toList_inj.1 h3)
    · omega
theorem bytes_none {a b : ByteArray} (h : a.size = 0) (k : b.size = 0) : a = b := by
  have h1 : a.data.size = 0 := h
  have k1 : b.data.size = 0 := k
  exact ByteArray.ext (by rw [Array.size_eq_zero_iff.1 h1, Array.size_eq_zero_iff.1 k1])
theorem plain_parts {k n : Int} {t : ByteArray} (h : plainK k n t = true) : (k ≠ 3 → t.size = 0) ∧ (k ≠ 2 → k ≠ 1 → n = 0) := by
  unfold plainK at h
  split at h
  · cases h
  · rename_i hc
    exact ⟨fun h3 => Classical.byContradiction fun h4 => hc (.inl ⟨h3, h4⟩), fun h2 h1 => Classical.byContradiction fun h4 => hc (.inr ⟨h2, h1, h4⟩)⟩
theorem form_none {k : Int} {l : List V} (h : formK k l = true) (h4 : k ≠ 4) (h5 : k ≠ 5) (h6 : k ≠ 6) : l = [] := by
  unfold formK at h
  rw [if_neg h4, if_neg h6, if_neg h5] at h
  exact List.length_eq_zero_iff.1 (by simpa using h)
mutual
theorem cmpV_zero : ∀ (x y : V), okAll x = true → okAll y = true → cmpV x y = 0 → x = y
  | .mk k n t l, .mk k' n' t' l', hx, hy, h => by
    rw [okAll, Bool.and_eq_true] at hx hy
    obtain ⟨hx1, hx2⟩ := hx
    obtain ⟨hy1, hy2⟩ := hy
    have px : plainK k n t = true ∧ formK k l = true := by
      have : (plainK k n t && formK k l) = true := hx1
      rwa [Bool.and_eq_true] at this
    have py : plainK k' n' t' = true ∧ formK k' l' = true := by
      have : (plainK k' n' t' && formK k' l') = true := hy1
      rwa [Bool.and_eq_true] at this
    rw [cmpV] at h
    by_cases hk : k = k'
    · subst hk
      rw [if_pos rfl] at h
      obtain ⟨x1, x2⟩ := plain_parts px.1
      obtain ⟨y1, y2⟩ := plain_parts py.1
      by_cases c1 : k = 1 ∨ k = 2
      · rw [if_pos c1] at h
        rw [sgn_zero h, bytes_none (x1 (by omega)) (y1 (by omega)), form_none px.2 (by omega) (by omega) (by omega), form_none py.2 (by omega) (by omega) (by omega)]
      · rw [if_neg c1] at h
        have hn : n = n' := by rw [x2 (by omega) (by omega), y2 (by omega) (by omega)]
        by_cases c3 : k = 3
        · rw [if_pos c3] at h
          rw [hn, cmpB_zero h, form_none px.2 (by omega) (by omega) (by omega), form_none py.2 (by omega) (by omega) (by omega)]
        · rw [if_neg c3] at h
          rw [hn, bytes_none (x1 c3) (y1 c3)]
          by_cases c4 : k = 4 ∨ k = 5 ∨ k = 6
          · rw [if_pos c4] at h
            rw [cmpL_zero l l' hx2 hy2 h]
          · rw [form_none px.2 (by omega) (by omega) (by omega), form_none py.2 (by omega) (by omega) (by omega)]
    · rw [if_neg hk] at h
      exact absurd (sgn_zero h) hk
theorem cmpL_zero : ∀ (a b : List V), okAlls a = true → okAlls b = true → cmpL a b = 0 → a = b
  | [], [], _, _, _ => rfl
  | [], _ :: _, _, _, h => by simp [cmpL] at h
  | _ :: _, [], _, _, h => by simp [cmpL] at h
  | x :: xs, y :: ys, ha, hb, h => by
    rw [okAlls, Bool.and_eq_true] at ha hb
    rw [cmpL_cons] at h
    by_cases hc : cmpV x y = 0
    · rw [if_pos hc] at h
      rw [cmpV_zero x y ha.1 hb.1 hc, cmpL_zero xs ys ha.2 hb.2 h]
    · rw [if_neg hc] at h
      exact absurd h hc
end
theorem right_all {x : V} (h : rightB x = true) : okAll x = true := by
  unfold rightB okIn at h
  exact (of_decide_eq_true h).1
theorem eqC_eqL : ∀ (a b : List V), (∀ x ∈ a, rightB x = true) → (∀ x ∈ b, rightB x = true) → eqC a b = eqL a b
  | [], [], _, _ => by simp [eqC, eqL]
  | [], _ :: _, _, _ => by simp [eqC, eqL]
  | _ :: _, [], _, _ => by simp [eqC, eqL]
  | x :: xs, y :: ys, ha, hb => by
    rw [eqC, eqL, eqC_eqL xs ys (fun z hz => ha z (List.mem_cons_of_mem _ hz)) (fun z hz => hb z (List.mem_cons_of_mem _ hz))]
    congr 1
    rw [Bool.eq_iff_iff, eqV_iff, beq_iff_eq]
    exact ⟨fun h => cmpV_zero x y (right_all (ha x List.mem_cons_self)) (right_all (hb y List.mem_cons_self)) h, fun h => by rw [h]; exact cmpV_self y⟩
/-- Are both too long together? -/
def catE (l m : List V) : Int := if 65536 < l.length + m.length then 2 else 0
def cutE (l : List V) (i : Int) : Int := if 0 ≤ i ∧ i ≤ (l.length : Int) then 0 else 5
def sliceE (l : List V) (i j : Int) : Int := if 0 ≤ i ∧ i ≤ j ∧ j ≤ (l.length : Int) then 0 else 5
theorem concat_out (la lb : List V) (ba : Nat) (q : Option Addr) (w : World) (S S0 : Nat → Prop) (ha : IsE w S la ba) (hr : IsD w S0 lb q) (hla : listE la = 0) (hlb : listE lb = 0) (hT : Lib.Utf8Tabs 1 2 w) :
    Calls Tryd.prog 54 #[.pointer (some ⟨ba, 0, none⟩), .pointer q] w fun e w' => ∃ p, e = .returned (.tuple #[.pointer p, .int .i64 (catE la lb)]) ∧ OutP w' (la ++ lb) (catE la lb) p ∧ Below w.heap.size w w' := by
  by_cases h : 65536 < la.length + lb.length
  · have hE : catE la lb = 2 := if_pos h
    rw [hE]
    refine (concat_long la lb _ q w S S0 ha.is hr h).mono ?_
    rintro e w' ⟨rfl, hb⟩
    exact ⟨none, rfl, .inr ⟨by decide, rfl⟩, hb⟩
  · have hE : catE la lb = 0 := if_neg h
    rw [hE]
    refine (concat_ok la lb ba q w S S0 ha hr hla hlb (by omega) hT).mono ?_
    rintro e w' ⟨b, rfl, h1, hb⟩
    exact ⟨_, rfl, .inl ⟨rfl, b, rfl, h1⟩, hb⟩
theorem cut_out (l : List V) (p : Option Addr) (i : Int) (w : World) (S : Nat → Prop) (h : IsD w S l p) (hok : listE l = 0) (hT : Lib.Utf8Tabs 1 2 w) :
    Calls Tryd.prog 52 #[.pointer p, .int .i64 i] w fun e w' => ∃ q r, e = .returned (.tuple #[.pointer q, .pointer r, .int .i64 (cutE l i)]) ∧ OutP w' (l.take i.toNat) (cutE l i) q ∧ OutP w' (l.drop i.toNat) (cutE l i) r ∧ Below w.heap.size w w' := by
  refine (cut_calls l p i w S h hok hT).mono ?_
  rintro e w' (⟨h1, rfl, hb⟩ | ⟨h1, b, c, rfl, h2, h3, hb⟩)
  · have hE : cutE l i = 5 := if_neg h1
    rw [hE]
    exact ⟨_, _, rfl, .inr ⟨by decide, rfl⟩, .inr ⟨by decide, rfl⟩, hb⟩
  · have hE : cutE l i = 0 := if_pos h1
    rw [hE]
    exact ⟨_, _, rfl, .inl ⟨rfl, b, rfl, h2⟩, .inl ⟨rfl, c, rfl, h3⟩, hb⟩
theorem refcut_out (l : List V) (vl : Value) (i : Int) (w : World) (S : Nat → Prop) (h : IsS w S l vl) (h65 : l.length ≤ 65536) :
    Calls Tryd.prog 53 #[vl, .int .i64 i] w fun e w' => ∃ q r, e = .returned (.tuple #[q, r, .int .i64 (cutE l i)]) ∧ OutS w' (l.take i.toNat) (cutE l i) q ∧ OutS w' (l.drop i.toNat) (cutE l i) r ∧ Below w.heap.size w w' := by
  refine (refcut_calls l vl i w S h h65).mono ?_
  rintro e w' (⟨h1, rfl, hb⟩ | ⟨h1, v, v2, rfl, h2, h3, hb⟩)
  · have hE : cutE l i = 5 := if_neg h1
    rw [hE]
    exact ⟨_, _, rfl, .inr ⟨by decide, _, _, _, rfl⟩, .inr ⟨by decide, _, _, _, rfl⟩, hb⟩
  · have hE : cutE l i = 0 := if_pos h1
    rw [hE]
    exact ⟨_, _, rfl, .inl ⟨rfl, h2.keep (Keeps.weak fun _ _ => trivial)⟩, .inl ⟨rfl, h3.keep (Keeps.weak fun _ _ => trivial)⟩, hb⟩
theorem slice_out (l : List V) (p : Option Addr) (i j : Int) (w : World) (S : Nat → Prop) (h : IsD w S l p) (hok : listE l = 0) (hT : Lib.Utf8Tabs 1 2 w) :
    Calls Tryd.prog 56 #[.pointer p, .int .i64 i, .int .i64 j] w fun e w' => ∃ q, e = .returned (.tuple #[.pointer q, .int .i64 (sliceE l i j)]) ∧ OutP w' ((l.take j.toNat).drop i.toNat) (sliceE l i j) q ∧ Below w.heap.size w w' := by
  refine (slice_calls l p i j w S h hok hT).mono ?_
  rintro e w' (⟨h1, rfl, hb⟩ | ⟨h1, b, rfl, h2, hb⟩)
  · have hE : sliceE l i j = 5 := if_neg h1
    rw [hE]
    exact ⟨_, rfl, .inr ⟨by decide, rfl⟩, hb⟩
  · have hE : sliceE l i j = 0 := if_pos h1
    rw [hE]
    exact ⟨_, rfl, .inl ⟨rfl, b, rfl, h2⟩, hb⟩
theorem refslice_out (l : List V) (vl : Value) (i j : Int) (w : World) (S : Nat → Prop) (h : IsS w S l vl) (h65 : l.length ≤ 65536) :
    Calls Tryd.prog 57 #[vl, .int .i64 i, .int .i64 j] w fun e w' => ∃ q, e = .returned (.tuple #[q, .int .i64 (sliceE l i j)]) ∧ OutS w' ((l.take j.toNat).drop i.toNat) (sliceE l i j) q ∧ Below w.heap.size w w' := by
  refine (refslice_calls l vl i j w S h h65).mono ?_
  rintro e w' (⟨h1, rfl, hb⟩ | ⟨h1, v, rfl, h2, hb⟩)
  · have hE : sliceE l i j = 5 := if_neg h1
    rw [hE]
    exact ⟨_, rfl, .inr ⟨by decide, _, _, _, rfl⟩, hb⟩
  · have hE : sliceE l i j = 0 := if_pos h1
    rw [hE]
    exact ⟨_, rfl, .inl ⟨rfl, h2.keep (Keeps.weak fun _ _ => trivial)⟩, hb⟩
set_option maxRecDepth 100000 in
set_option maxHeartbeats 4000000 in
theorem refconcat_out (l m : List V) (vl vm : Value) (w : World) (S S' : Nat → Prop) (h : IsS w S l vl) (hm : IsS w S' m vm) (h65 : l.length ≤ 65536) (h65m : m.length ≤ 65536) :
    Calls Tryd.prog 55 #[vl, vm] w fun e w' => ∃ v, e = .returned (.tuple #[v, .int .i64 (catE l m)]) ∧ OutS w' (l ++ m) (catE l m) v ∧ Below w.heap.size w w' := by
  obtain ⟨A, c, rfl, hc, hl, hA⟩ := h.keep (S' := fun b => True ∧ b < w.heap.size) (w' := w) (fun b hb hs => ⟨⟨trivial, hb⟩, rfl⟩)
  obtain ⟨B, d, rfl, hd, hlm, hB⟩ := hm.keep (S' := fun b => True ∧ b < w.heap.size) (w' := w) (fun b hb hs => ⟨⟨trivial, hb⟩, rfl⟩)
  have HA := Lib.hid hA
  have HB := Lib.hid hB
  have i2 : IntKind.i64.wrap (65536 - (l.length : Int)) = 65536 - (l.length : Int) := IntWalk.i64_in _ (by omega)
  clear hA hB h hm
  by_cases hcat : 65536 < l.length + m.length
  · have hE : catE l m = 2 := if_pos hcat
    have d1 : decide (65536 - (l.length : Int) < (m.length : Int)) = true := decide_eq_true (by omega)
    rw [hE]
    clear hcat
    go_enter Tryd.func55, Tryd.ntmps55
    go_wp2_with fail
    go_ret2
    exact ⟨_, rfl, .inr ⟨by decide, _, _, _, rfl⟩, Below.refl _ _⟩
  · have hE : catE l m = 0 := if_neg hcat
    have d1 : decide (65536 - (l.length : Int) < (m.length : Int)) = false := decide_eq_false (by omega)
    have HCT := Lib.hid (show l.length + m.length ≤ 65536 by omega)
    rw [hE]
    clear hcat
    go_enter Tryd.func55, Tryd.ntmps55
    go_wp2_with (first
      | (at_builtin; refine append_manyN w.heap.size (fun b => True ∧ b < w.heap.size) rfl _ _ rfl _ [] l A _ c rfl rfl rfl (OwnL.empty (heap_alloc_new _ _) (Nat.le_refl _)) (HA.out.beside (alloc_of (Below.refl _ _) _) (empty_new (Nat.le_refl _))) (by simp) (by simp only [List.length_nil]; omega) ?_; intro v1 w1 hO1 hg1; have hb1 := Below.grown (alloc_of (Below.refl w.heap.size w) _) hg1 (by simp) (empty_new (Nat.le_refl _)); have hown1 := hO1.own_lt; have hO1' := hO1; rw [List.nil_append] at hO1'; have HO1 := Lib.hid hO1'; clear hO1 hO1' hg1 HA)
      | (at_builtin; refine append_manyN w.heap.size (fun b => True ∧ b < w.heap.size) rfl _ _ rfl v1 l m B _ d rfl rfl rfl HO1.out (HB.out.beside hb1 (fun k e => (hown1 k e).1)) hb1.size (by have := HCT.out; omega) ?_; intro v2 w2 hO2 hg2; have hb2 := Below.grown hb1 hg2 hb1.size (fun k e => (hown1 k e).1); have HO2 := Lib.hid hO2; clear hO2 hg2 HB HO1))
    go_ret2
    exact ⟨_, rfl, .inl ⟨rfl, HO2.out.is (S' := fun _ => True) (fun b h => trivial) (fun b h => trivial) (by have := HCT.out; rw [List.length_append]; omega)⟩, hb2⟩
end Go.Proofs.YtjjbhnkplbjfeaaDoor
