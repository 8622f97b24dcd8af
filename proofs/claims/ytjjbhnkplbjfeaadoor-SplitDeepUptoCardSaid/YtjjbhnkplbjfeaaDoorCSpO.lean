/- What the document says of the first place up to which so much is weighed. What the document says of a list turned, and of one cut where it weighs so much. What the document says of a list cut where it weighs so much. -/
import Derived.Test.YtjjbhnkplbjfeaaDoorCSpL
import Derived.Test.YtjjbhnkplbjfeaaDoorCSpG
/- What the document says of the first place up to which so much is weighed. -/
set_option linter.unusedVariables false
set_option linter.unusedSimpArgs false
namespace Go.Proofs.YtjjbhnkplbjfeaaDoor
open Go.RowKit
attribute [local go_sem] lt_succ_of

/-- The first place up to which a list weighs more than w. -/
def Found (l : List V) (w : Int) (n : Nat) (ok : Bool) : Prop := (ok = true ∧ n < l.length ∧ w < weightV (l.take (n + 1)) ∧ ∀ k, k ≤ n → weightV (l.take k) ≤ w) ∨ (ok = false ∧ n = 0 ∧ ∀ k, k ≤ l.length → weightV (l.take k) ≤ w)
theorem Found.unique {l : List V} {w : Int} {n m : Nat} {a b : Bool} (h : Found l w n a) (k : Found l w m b) : n = m ∧ a = b := by
  rcases h with ⟨h1, h2, h3, h4⟩ | ⟨h1, h2, h3⟩ <;> rcases k with ⟨k1, k2, k3, k4⟩ | ⟨k1, k2, k3⟩
  · refine ⟨?_, by rw [h1, k1]⟩
    rcases Nat.lt_trichotomy n m with h | h | h
    · have := k4 (n + 1) (by omega); omega
    · exact h
    · have := h4 (m + 1) (by omega); omega
  · have := k3 (n + 1) (by omega); omega
  · have := h3 (m + 1) (by omega); omega
  · exact ⟨by rw [h2, k2], by rw [h1, k1]⟩
theorem Found.le {l : List V} {w : Int} {n : Nat} {a : Bool} (h : Found l w n a) : n ≤ l.length := by
  rcases h with ⟨_, h2, _⟩ | ⟨_, h2, _⟩ <;> omega
set_option maxRecDepth 100000 in
set_option maxHeartbeats 4000000 in
theorem reffind_calls (l : List V) (vl : Value) (m : Int) (w : World) (S : Nat → Prop) (hl : IsS w S l vl) (h65 : l.length ≤ 65536) :
    Calls Tryd.prog 40 #[vl, .int .i64 m] w fun e w' => (m < 0 ∧ e = .returned (.tuple #[.int .i64 0, .bool false, .int .i64 1]) ∧ Below w.heap.size w w') ∨ (¬ m < 0 ∧ ∃ (n : Nat) (ok : Bool), e = .returned (.tuple #[.int .i64 n, .bool ok, .int .i64 0]) ∧ Found l m n ok ∧ Below w.heap.size w w') := by
  obtain ⟨A, cA, rfl, hcA, hla, hA⟩ := hl
  have HA := Lib.hid hA
  have H65 := Lib.hid h65
  clear hA h65
  by_cases hm : m < 0
  · have d1 : decide (m < 0) = true := decide_eq_true hm
    have HM := Lib.hid hm
    clear hm
    go_enter Tryd.func40, Tryd.ntmps40
    go_wp2_with fail
    refine bodyPost_ret (v := .tuple #[.int .i64 0, .bool false, .int .i64 1]) (by simp [results, Tryd.results40, go_sem]) rfl (.inl ⟨HM.out, rfl, Below.refl _ _⟩)
  · have d1 : decide (m < 0) = false := decide_eq_false hm
    have HM := Lib.hid hm
    clear hm
    go_enter Tryd.func40, Tryd.ntmps40
    go_wp2_with fail
    go_loopw [7, 8] (fun vn vi wr => ∃ (i : Nat) (s : Int), vn = .int .i64 s ∧ vi = .int .i64 i ∧ i ≤ l.length ∧ Hid (s = weightV (l.take i)) ∧ Hid (∀ k, k ≤ i → weightV (l.take k) ≤ m) ∧ Below w.heap.size w wr) (fun _ v _ => l.length - (intOf v).toNat)
    case atStart =>
      have hz : ∀ k, k ≤ 0 → weightV (l.take k) ≤ m := fun k hk => by
        obtain rfl : k = 0 := by omega
        have := HM.out
        simp only [List.take_zero, weightV]
        omega
      exact ⟨0, 0, rfl, rfl, by omega, Lib.hid rfl, Lib.hid hz, Below.refl _ _⟩
    case round =>
      obtain ⟨i, s, rfl, rfl, hi, hs, hq, hf⟩ := hrel
      by_cases hlt : i < l.length
      · obtain ⟨ad, A1, cap1, rfl, hla', hbd, f0, f1, f2, f3, hcap1, hLA⟩ := (HA.out.below hf).at i hlt
        have HX := Lib.hid (IsV.mk hbd hcap1 hLA)
        have hj2 : (i : Int) < (l.length : Int) := by omega
        have hr := heft_range (itemAt l i)
        have hr2 := weight_range (l.take i)
        rw [← hs.out] at hr2
        have hr3 : ((l.take i).length : Int) ≤ 65536 := by have := H65.out; rw [List.length_take]; omega
        have hn := Lib.hid (weight_next l i hlt)
        have i1 : IntKind.i64.wrap (s + heftV (itemAt l i)) = s + heftV (itemAt l i) := IntWalk.i64_in _ (by omega)
        have HLT := Lib.hid hlt
        clear hbd hLA hr hr2 hr3 hla'
        by_cases hgt : m < s + heftV (itemAt l i)
        · have d2 : decide (m < s + heftV (itemAt l i)) = true := decide_eq_true hgt
          have HF : Hid (Found l m i true) := Lib.hid (.inl ⟨rfl, hlt, by rw [hn.out, ← hs.out]; exact hgt, hq.out⟩)
          clear hgt
          go_wp2_with (first | (go_at_call 83; refine (refheft_calls _ _ _ _ HX.out).mono ?_; rintro e w2 ⟨rfl, hb2⟩; have hb3 := below_then hf hf.size hb2))
          refine bodyPost_ret (v := .tuple #[.int .i64 (i : Int), .bool true, .int .i64 0]) (by simp [results, Tryd.results40, go_sem]) rfl (.inr ⟨HM.out, i, .inr ⟨rfl, HF.out, hb3⟩⟩)
        · have d2 : decide (m < s + heftV (itemAt l i)) = false := decide_eq_false hgt
          have HQ : Hid (∀ k, k ≤ i + 1 → weightV (l.take k) ≤ m) := Lib.hid fun k hk => by
            by_cases hk2 : k ≤ i
            · exact hq.out k hk2
            · obtain rfl : k = i + 1 := by omega
              rw [hn.out, ← hs.out]; omega
          clear hgt
          go_wp2_with (first | (go_at_call 83; refine (refheft_calls _ _ _ _ HX.out).mono ?_; rintro e w2 ⟨rfl, hb2⟩; have hb3 := below_then hf hf.size hb2))
          go_roundw
          case rel => exact ⟨i + 1, _, rfl, by go_num, by omega, Lib.hid (by rw [hn.out, hs.out]), HQ, hb3⟩
          case measure => simp [intOf]; omega
      · have hj2 : ¬ (i : Int) < (l.length : Int) := by omega
        have hj3 : decide ((i : Int) < (l.length : Int)) = false := decide_eq_false hj2
        have HF : Hid (Found l m 0 false) := Lib.hid (.inr ⟨rfl, rfl, fun k hk => hq.out k (by omega)⟩)
        clear hs
        go_wp2_with fail
        refine bodyPost_ret (v := .tuple #[.int .i64 0, .bool false, .int .i64 0]) (by simp [results, Tryd.results40, go_sem]) rfl (.inr ⟨HM.out, 0, .inl ⟨rfl, HF.out, hf⟩⟩)
end Go.Proofs.YtjjbhnkplbjfeaaDoor

/- What the document says of a list turned, and of one cut where it weighs so much. -/
set_option linter.unusedVariables false
set_option linter.unusedSimpArgs false
namespace Go.Proofs.YtjjbhnkplbjfeaaDoor
open Go.RowKit
attribute [local go_sem] lt_succ_of

set_option maxRecDepth 100000 in
set_option maxHeartbeats 4000000 in
theorem refrotate_calls (l : List V) (vl : Value) (k : Int) (w : World) (S : Nat → Prop) (h : IsS w S l vl) (h65 : l.length ≤ 65536) (hk0 : -9223372036854775808 ≤ k) (hk1 : k ≤ 9223372036854775807) :
    Calls Tryd.prog 47 #[vl, .int .i64 k] w fun e w' => ∃ v, e = .returned v ∧ IsS w' (Old w S) (rotV l k) v ∧ Below w.heap.size w w' := by
  have HL := Lib.hid (h.keep (S' := fun b => S b ∧ b < w.heap.size) (fun b hb hs => ⟨⟨hs, hb⟩, rfl⟩))
  obtain ⟨A, c, rfl, hc, hl, hA⟩ := HL.out
  by_cases h0 : l.length = 0
  · obtain rfl := List.length_eq_zero_iff.1 h0
    go_enter Tryd.func47, Tryd.ntmps47
    go_wp2_with fail
    go_ret
    exact ⟨_, rfl, ⟨none, 0, by simp [rotV], by simp [rotV], by simp [rotV], .inl (by simp [rotV])⟩, Below.refl _ _⟩
  · have e0 : ((l.length : Int) == 0) = false := by simpa using h0
    obtain ⟨hr1, hr2⟩ := rem_fit k l.length h0
    obtain ⟨j, hj⟩ : ∃ j : Nat, k % (l.length : Int) = (j : Int) := ⟨(k % (l.length : Int)).toNat, by have := Int.emod_nonneg k (show (l.length : Int) ≠ 0 by omega); omega⟩
    have hjl : j < l.length := by have := Int.emod_lt_of_pos k (show (0 : Int) < (l.length : Int) by omega); omega
    have hrot : rotV l k = l.drop j ++ l.take j := by unfold rotV; rw [hj]; rfl
    rw [hrot]
    rw [hj] at hr1 hr2
    obtain ⟨m, hm⟩ : ∃ m, Int.tmod k (l.length : Int) = m := ⟨_, rfl⟩
    rw [hm] at hr1 hr2
    have hj2 : (j : Int) ≤ (l.length : Int) := by omega
    have hjc : (j : Int) ≤ (c : Int) := by omega
    have hjc2 : j ≤ c := by omega
    have hcj : ¬ c = j := by omega
    have hlc : (l.length : Int) ≤ (c : Int) := by omega
    have HA := Lib.hid hA
    obtain ⟨ad, rfl⟩ : ∃ ad, A = some ad := by
      rcases hA with h | ⟨ad, h, _⟩
      · rw [h] at hjl; simp at hjl
      · exact ⟨ad, h⟩
    have hlt : (l.take j).length = j := by rw [List.length_take]; omega
    have hld : (l.drop j).length = l.length - j := by rw [List.length_drop]
    have HM1 : Hid (LA w (fun b => S b ∧ b < w.heap.size) (l.take j) (some ad)) := Lib.hid (HA.out.take j)
    have HM2 : Hid (LA w (fun b => S b ∧ b < w.heap.size) (l.drop j) (some (ad.add (j * 4)))) := Lib.hid (HA.out.drop j)
    clear hA h
    by_cases hneg : m < 0
    · have hr := hr1 hneg
      have i1 : IntKind.i64.wrap (m + (l.length : Int)) = (j : Int) := by rw [hr]; exact IntWalk.i64_in _ (by omega)
      have d1 : decide (m < 0) = true := decide_eq_true hneg
      clear hr1 hr2 hrot hr hj hk0 hk1 h0
      go_enter Tryd.func47, Tryd.ntmps47
      go_wp2_with fail
      go_region_law (first
        | (refine appendL_step w.heap.size (fun b => S b ∧ b < w.heap.size) rfl (.tmp 18) (.tmp 21) rfl (.slice (some ⟨w.heap.size, 0, none⟩) 0 0) [] _ _ _ _ rfl rfl hld (OwnL.empty (by exact heap_alloc_new _ _) (by omega)) (HM2.out.beside (by repeat (first | exact Below.refl _ _ | refine drew_of ?_ | refine alloc_of ?_ _)) (empty_new (by omega))) (by first | (simp; done) | (simp; omega)) (by rw [hld]; simp; omega) ?_; intro v1 w1 hO1 hg1 hat1; have hb1 := Below.grown (by repeat (first | exact Below.refl _ _ | refine drew_of ?_ | refine alloc_of ?_ _) : Below w.heap.size w _) hg1 (by first | (simp; done) | (simp; omega)) (empty_new (by omega)); have hown := hO1.own_lt; have hO1' := hO1; rw [List.nil_append] at hO1'; have HO1 := Lib.hid hO1'; clear hO1 hO1' HM2)
        | (refine appendL_step w.heap.size (fun b => S b ∧ b < w.heap.size) rfl (.tmp 22) (.tmp 25) rfl v1 (l.drop j) _ _ _ _ rfl rfl hlt HO1.out (HM1.out.beside hb1 (fun k e => (hown k e).1)) hb1.size (by rw [hld, hlt]; omega) ?_; intro v2 w2 hO2 hg2 hat2; have hb2 := Below.grown hb1 hg2 hb1.size (fun k e => (hown k e).1); have HO2 := Lib.hid hO2; clear hO2 HM1))
      all_goals
        go_wp2_with fail
        go_ret
        exact ⟨_, rfl, HO2.out.is (S' := Old w S) (fun b h => .inl h) (fun b h => .inr h) (by rw [List.length_append, hld, hlt]; omega), hb2⟩
    · have hr := hr2 hneg
      subst hr
      have d1 : decide ((j : Int) < 0) = false := by simp
      clear hr1 hr2 hrot hj hk0 hk1 h0
      go_enter Tryd.func47, Tryd.ntmps47
      go_wp2_with fail
      go_region_law (first
        | (refine appendL_step w.heap.size (fun b => S b ∧ b < w.heap.size) rfl (.tmp 18) (.tmp 21) rfl (.slice (some ⟨w.heap.size, 0, none⟩) 0 0) [] _ _ _ _ rfl rfl hld (OwnL.empty (by exact heap_alloc_new _ _) (by omega)) (HM2.out.beside (by repeat (first | exact Below.refl _ _ | refine drew_of ?_ | refine alloc_of ?_ _)) (empty_new (by omega))) (by first | (simp; done) | (simp; omega)) (by rw [hld]; simp; omega) ?_; intro v1 w1 hO1 hg1 hat1; have hb1 := Below.grown (by repeat (first | exact Below.refl _ _ | refine drew_of ?_ | refine alloc_of ?_ _) : Below w.heap.size w _) hg1 (by first | (simp; done) | (simp; omega)) (empty_new (by omega)); have hown := hO1.own_lt; have hO1' := hO1; rw [List.nil_append] at hO1'; have HO1 := Lib.hid hO1'; clear hO1 hO1' HM2)
        | (refine appendL_step w.heap.size (fun b => S b ∧ b < w.heap.size) rfl (.tmp 22) (.tmp 25) rfl v1 (l.drop j) _ _ _ _ rfl rfl hlt HO1.out (HM1.out.beside hb1 (fun k e => (hown k e).1)) hb1.size (by rw [hld, hlt]; omega) ?_; intro v2 w2 hO2 hg2 hat2; have hb2 := Below.grown hb1 hg2 hb1.size (fun k e => (hown k e).1); have HO2 := Lib.hid hO2; clear hO2 HM1))
      all_goals
        go_wp2_with fail
        go_ret
        exact ⟨_, rfl, HO2.out.is (S' := Old w S) (fun b h => .inl h) (fun b h => .inr h) (by rw [List.length_append, hld, hlt]; omega), hb2⟩
end Go.Proofs.YtjjbhnkplbjfeaaDoor

/- What the document says of a list cut where it weighs so much. -/
set_option linter.unusedVariables false
set_option linter.unusedSimpArgs false
namespace Go.Proofs.YtjjbhnkplbjfeaaDoor
open Go.RowKit
attribute [local go_sem] lt_succ_of

/-- The place of the cut. -/
def cutAt (l : List V) (n : Nat) (ok : Bool) : Nat := if ok = true then n else l.length
theorem cutAt_le {l : List V} {w : Int} {n : Nat} {ok : Bool} (h : Found l w n ok) : cutAt l n ok ≤ l.length := by
  unfold cutAt
  split
  · exact h.le
  · exact Nat.le_refl _
theorem old_later2 {w w3 : World} {S : Nat → Prop} (hb : Below w.heap.size w w3) (b : Nat) (h : Old w3 S b) : Old w S b := by
  have := hb.size
  rcases h with ⟨h1, h2⟩ | h
  · by_cases h3 : b < w.heap.size
    · exact .inl ⟨h1, h3⟩
    · exact .inr (by omega)
  · exact .inr (by omega)
set_option maxRecDepth 100000 in
set_option maxHeartbeats 4000000 in
theorem refheavy_calls (l : List V) (vl : Value) (m : Int) (w : World) (S : Nat → Prop) (h : IsS w S l vl) (h65 : l.length ≤ 65536) :
    Calls Tryd.prog 42 #[vl, .int .i64 m] w fun e w' => (m < 0 ∧ e = .returned (.tuple #[.slice none 0 0, .slice none 0 0, .int .i64 1]) ∧ Below w.heap.size w w') ∨ (¬ m < 0 ∧ ∃ (n : Nat) (ok : Bool) (v v2 : Value), Found l m n ok ∧ e = .returned (.tuple #[v, v2, .int .i64 0]) ∧ IsS w' (Old w S) (l.take (cutAt l n ok)) v ∧ IsS w' (Old w S) (l.drop (cutAt l n ok)) v2 ∧ Below w.heap.size w w') := by
  have HF := reffind_calls l vl m w S h h65
  have HL := Lib.hid (h.keep (S' := fun b => S b ∧ b < w.heap.size) (fun b hb hs => ⟨⟨hs, hb⟩, rfl⟩))
  by_cases hm : m < 0
  · have HF1 := HF.mono (fun e w' hh => (hh.resolve_right (fun h => h.1 hm)).2)
    have HF1 := Lib.hid HF1
    have HM := Lib.hid hm
    obtain ⟨A, c, rfl, hc, hl, hA⟩ := HL.out
    clear hm HF h hA
    go_enter Tryd.func42, Tryd.ntmps42
    go_wp2_with (go_at_call 40; refine HF1.out.mono ?_; rintro e w3 ⟨rfl, hb3⟩)
    refine bodyPost_ret (v := .tuple #[.slice none 0 0, .slice none 0 0, .int .i64 1]) (by simp [results, Tryd.results42, go_sem]) rfl (.inl ⟨HM.out, rfl, hb3⟩)
  · have HF1 := HF.mono (fun e w' hh => (hh.resolve_left (fun h => hm h.1)).2)
    have HF1 := Lib.hid HF1
    have HM := Lib.hid hm
    obtain ⟨A, c, rfl, hc, hl, hA⟩ := HL.out
    have HA := Lib.hid hA
    clear hm HF h hA
    go_enter Tryd.func42, Tryd.ntmps42
    go_wp2_with fail
    refine HF1.out.mono ?_
    rintro e w3 ⟨n, ok, rfl, hfd, hb3⟩
    obtain ⟨j, hj⟩ : ∃ j, cutAt l n ok = j := ⟨_, rfl⟩
    have hjl := cutAt_le hfd
    rw [hj] at hjl
    have HJ := Lib.hid hj
    have HFD := Lib.hid hfd
    clear hfd
    have HA3 := Lib.hid (HA.out.keep (w' := w3) (S' := fun b => S b ∧ b < w3.heap.size) (fun b hb hs => ⟨⟨hs.1, Nat.lt_of_lt_of_le hs.2 hb3.size⟩, hb3.block b hb⟩))
    cases ok with
    | true =>
      obtain rfl : n = j := by rw [← hj]; rfl
      have hj2 : (n : Int) ≤ (l.length : Int) := by omega
      have hjc : (n : Int) ≤ (c : Int) := by omega
      have hjc2 : n ≤ c := by omega
      have hlc : (l.length : Int) ≤ (c : Int) := by omega
      have hlt : (l.take n).length = n := by rw [List.length_take]; omega
      have hld : (l.drop n).length = l.length - n := by rw [List.length_drop]
      have HM1 : Hid (LA w3 (fun b => S b ∧ b < w3.heap.size) (l.take n) A) := Lib.hid (HA3.out.take n)
      by_cases hcj : c = n
      · subst hcj
        have HM2 : Hid (LA w3 (fun b => S b ∧ b < w3.heap.size) (l.drop c) A) := Lib.hid (.inl (List.length_eq_zero_iff.1 (by rw [hld]; omega)))
        clear hj
        go_wp2_with fail
        go_region_law (first
          | (refine appendL_step w3.heap.size (fun b => S b ∧ b < w3.heap.size) rfl (.tmp 24) (.tmp 27) rfl (.slice (some ⟨w3.heap.size, 0, none⟩) 0 0) [] _ _ _ _ rfl rfl hlt (OwnL.empty (by first | exact heap_alloc_new _ _ | exact two_boxes _ _ _) (by omega)) (HM1.out.beside (by repeat (first | exact Below.refl _ _ | refine drew_of ?_ | refine alloc_of ?_ _)) (empty_new (by omega))) (by first | (simp; done) | (simp; omega)) (by rw [hlt]; simp; omega) ?_; intro v1 w1 hO1 hg1 hat1; have hb1 := Below.grown (by repeat (first | exact Below.refl _ _ | refine drew_of ?_ | refine alloc_of ?_ _) : Below w3.heap.size w3 _) hg1 (by first | (simp; done) | (simp; omega)) (empty_new (by omega)); have HO1 := Lib.hid hO1; skip; clear hO1 HM1)
          | (refine appendL_step w3.heap.size (fun b => S b ∧ b < w3.heap.size) rfl (.tmp 24) (.tmp 27) rfl (.slice (some ⟨w3.heap.size + 1, 0, none⟩) 0 0) [] _ _ _ _ rfl rfl hlt (OwnL.empty (by exact two_boxes' _ _ _) (by omega)) (HM1.out.beside (by repeat (first | exact Below.refl _ _ | refine drew_of ?_ | refine alloc_of ?_ _)) (empty_new (by omega))) (by first | (simp; done) | (simp; omega)) (by rw [hlt]; simp; omega) ?_; intro v1 w1 hO1 hg1 hat1; have hb1 := Below.grown (by repeat (first | exact Below.refl _ _ | refine drew_of ?_ | refine alloc_of ?_ _) : Below w3.heap.size w3 _) hg1 (by first | (simp; done) | (simp; omega)) (empty_new (by omega)); have HO1 := Lib.hid hO1; skip; clear hO1 HM1)
          | (refine appendL_step w3.heap.size (fun b => S b ∧ b < w3.heap.size) rfl (.tmp 29) (.tmp 32) rfl (.slice (some ⟨w1.heap.size, 0, none⟩) 0 0) [] _ _ _ _ rfl rfl (by first | exact hld | (rw [hld]; omega)) (OwnL.empty (by exact heap_alloc_new _ _) (by have := hb1.size; omega)) (HM2.out.beside (by first | exact hb1 | exact alloc_of hb1 _ | exact drew_of (alloc_of hb1 _)) (empty_new (by have := hb1.size; omega))) (by have := hb1.size; simp; omega) (by rw [hld]; simp only [List.length_nil]; omega) ?_; intro v2 w2 hO2 hg2 hat2; have HO2 := Lib.hid hO2; skip; clear hO2 HM2)
          | (refine appendL_step w3.heap.size (fun b => S b ∧ b < w3.heap.size) rfl (.tmp 29) (.tmp 32) rfl (.slice (some ⟨w3.heap.size + 1, 0, none⟩) 0 0) [] _ _ _ _ rfl rfl (by first | exact hld | (rw [hld]; omega)) (OwnL.empty (by exact (hg1.block (w3.heap.size + 1) (by simp) (by simp [Value.ownBlock])).trans (two_boxes' _ _ _)) (by have := hb1.size; omega)) (HM2.out.beside (by first | exact hb1 | exact alloc_of hb1 _ | exact drew_of (alloc_of hb1 _)) (empty_new (by have := hb1.size; omega))) (by have := hb1.size; simp; omega) (by rw [hld]; simp only [List.length_nil]; omega) ?_; intro v2 w2 hO2 hg2 hat2; have HO2 := Lib.hid hO2; skip; clear hO2 HM2)
          | (refine appendL_step w3.heap.size (fun b => S b ∧ b < w3.heap.size) rfl (.tmp 29) (.tmp 32) rfl (.slice (some ⟨w3.heap.size, 0, none⟩) 0 0) [] _ _ _ _ rfl rfl (by first | exact hld | (rw [hld]; omega)) (OwnL.empty (by exact (hg1.block (w3.heap.size) (by first | (simp; done) | (simp; omega)) (by simp [Value.ownBlock])).trans (two_boxes _ _ _)) (by have := hb1.size; omega)) (HM2.out.beside (by first | exact hb1 | exact alloc_of hb1 _ | exact drew_of (alloc_of hb1 _)) (empty_new (by have := hb1.size; omega))) (by have := hb1.size; simp; omega) (by rw [hld]; simp only [List.length_nil]; omega) ?_; intro v2 w2 hO2 hg2 hat2; have HO2 := Lib.hid hO2; skip; clear hO2 HM2))
        · have hb2 := Below.grown (alloc_of hb1 (.cells #[] 33)) hg2 (by have := hb1.size; simp; omega) (empty_new (by have := hb1.size; omega))
          have hv1 : IsS w2 (Old w3 S) (l.take c) v1 := OwnL.stays (B := w1.heap.size) HO1.out (by first | (simp; done) | (simp; omega)) hb1.size (fun e => by have := (HO1.out.own_lt _ e).2; omega) (fun b hb hne => (hg2.block b (by first | (simp; done) | (simp; omega)) (fun e => hne (by simpa [Value.ownBlock] using e))).trans (Below.heap_alloc _ _ _ hb))
          have HV1 := Lib.hid hv1
          clear hv1
          go_wp2_with fail
          refine bodyPost_ret (v := .tuple #[v1, v2, .int .i64 0]) (by simp [results, Tryd.results42, go_sem]) rfl (.inr ⟨HM.out, _, .inr ⟨HFD.out, _, _, rfl, by rw [HJ.out]; exact HV1.out.keep (Keeps.weak (old_later2 hb3)), by rw [HJ.out]; exact IsS.keep (Keeps.weak (old_later2 hb3)) (HO2.out.is (S' := Old w3 S) (fun b h => .inl h) (fun b h => .inr h) (by first | (simp; done) | (simp; omega))), chain_then hb3 hb2⟩⟩)
        · have hb2 := Below.grown hb1 hg2 hb1.size (empty_new (by omega))
          have hv1 : IsS w2 (Old w3 S) (l.take c) v1 := OwnL.stays (B := w3.heap.size + 1) HO1.out (by first | (simp; done) | (simp; omega)) (by omega) (fun e => by rcases hat1 with h | h <;> (rw [h] at e; simp [Value.ownBlock] at e; try omega)) (fun b hb hne => hg2.block b hb (fun e => hne (by simpa [Value.ownBlock] using e)))
          have HV1 := Lib.hid hv1
          clear hv1
          go_wp2_with fail
          refine bodyPost_ret (v := .tuple #[v1, v2, .int .i64 0]) (by simp [results, Tryd.results42, go_sem]) rfl (.inr ⟨HM.out, _, .inr ⟨HFD.out, _, _, rfl, by rw [HJ.out]; exact HV1.out.keep (Keeps.weak (old_later2 hb3)), by rw [HJ.out]; exact IsS.keep (Keeps.weak (old_later2 hb3)) (HO2.out.is (S' := Old w3 S) (fun b h => .inl h) (fun b h => .inr h) (by first | (simp; done) | (simp; omega))), chain_then hb3 hb2⟩⟩)
        · have hb2 := Below.grown hb1 hg2 hb1.size (empty_new (by omega))
          have hv1 : IsS w2 (Old w3 S) (l.take c) v1 := OwnL.stays (B := w3.heap.size) HO1.out (by first | (simp; done) | (simp; omega)) (by omega) (fun e => by rcases hat1 with h | h <;> (rw [h] at e; simp [Value.ownBlock] at e; try omega)) (fun b hb hne => hg2.block b hb (fun e => hne (by simpa [Value.ownBlock] using e)))
          have HV1 := Lib.hid hv1
          clear hv1
          go_wp2_with fail
          refine bodyPost_ret (v := .tuple #[v1, v2, .int .i64 0]) (by simp [results, Tryd.results42, go_sem]) rfl (.inr ⟨HM.out, _, .inr ⟨HFD.out, _, _, rfl, by rw [HJ.out]; exact HV1.out.keep (Keeps.weak (old_later2 hb3)), by rw [HJ.out]; exact IsS.keep (Keeps.weak (old_later2 hb3)) (HO2.out.is (S' := Old w3 S) (fun b h => .inl h) (fun b h => .inr h) (by first | (simp; done) | (simp; omega))), chain_then hb3 hb2⟩⟩)
      · have HM2 : Hid (LA w3 (fun b => S b ∧ b < w3.heap.size) (l.drop n) (A.map (fun x => x.add (n * 4)))) := Lib.hid (HA3.out.drop_map n)
        clear hj
        go_wp2_with fail
        go_region_law (first
          | (refine appendL_step w3.heap.size (fun b => S b ∧ b < w3.heap.size) rfl (.tmp 24) (.tmp 27) rfl (.slice (some ⟨w3.heap.size, 0, none⟩) 0 0) [] _ _ _ _ rfl rfl hlt (OwnL.empty (by first | exact heap_alloc_new _ _ | exact two_boxes _ _ _) (by omega)) (HM1.out.beside (by repeat (first | exact Below.refl _ _ | refine drew_of ?_ | refine alloc_of ?_ _)) (empty_new (by omega))) (by first | (simp; done) | (simp; omega)) (by rw [hlt]; simp; omega) ?_; intro v1 w1 hO1 hg1 hat1; have hb1 := Below.grown (by repeat (first | exact Below.refl _ _ | refine drew_of ?_ | refine alloc_of ?_ _) : Below w3.heap.size w3 _) hg1 (by first | (simp; done) | (simp; omega)) (empty_new (by omega)); have HO1 := Lib.hid hO1; skip; clear hO1 HM1)
          | (refine appendL_step w3.heap.size (fun b => S b ∧ b < w3.heap.size) rfl (.tmp 24) (.tmp 27) rfl (.slice (some ⟨w3.heap.size + 1, 0, none⟩) 0 0) [] _ _ _ _ rfl rfl hlt (OwnL.empty (by exact two_boxes' _ _ _) (by omega)) (HM1.out.beside (by repeat (first | exact Below.refl _ _ | refine drew_of ?_ | refine alloc_of ?_ _)) (empty_new (by omega))) (by first | (simp; done) | (simp; omega)) (by rw [hlt]; simp; omega) ?_; intro v1 w1 hO1 hg1 hat1; have hb1 := Below.grown (by repeat (first | exact Below.refl _ _ | refine drew_of ?_ | refine alloc_of ?_ _) : Below w3.heap.size w3 _) hg1 (by first | (simp; done) | (simp; omega)) (empty_new (by omega)); have HO1 := Lib.hid hO1; skip; clear hO1 HM1)
          | (refine appendL_step w3.heap.size (fun b => S b ∧ b < w3.heap.size) rfl (.tmp 29) (.tmp 32) rfl (.slice (some ⟨w1.heap.size, 0, none⟩) 0 0) [] _ _ _ _ rfl rfl (by first | exact hld | (rw [hld]; omega)) (OwnL.empty (by exact heap_alloc_new _ _) (by have := hb1.size; omega)) (HM2.out.beside (by first | exact hb1 | exact alloc_of hb1 _ | exact drew_of (alloc_of hb1 _)) (empty_new (by have := hb1.size; omega))) (by have := hb1.size; simp; omega) (by rw [hld]; simp only [List.length_nil]; omega) ?_; intro v2 w2 hO2 hg2 hat2; have HO2 := Lib.hid hO2; skip; clear hO2 HM2)
          | (refine appendL_step w3.heap.size (fun b => S b ∧ b < w3.heap.size) rfl (.tmp 29) (.tmp 32) rfl (.slice (some ⟨w3.heap.size + 1, 0, none⟩) 0 0) [] _ _ _ _ rfl rfl (by first | exact hld | (rw [hld]; omega)) (OwnL.empty (by exact (hg1.block (w3.heap.size + 1) (by simp) (by simp [Value.ownBlock])).trans (two_boxes' _ _ _)) (by have := hb1.size; omega)) (HM2.out.beside (by first | exact hb1 | exact alloc_of hb1 _ | exact drew_of (alloc_of hb1 _)) (empty_new (by have := hb1.size; omega))) (by have := hb1.size; simp; omega) (by rw [hld]; simp only [List.length_nil]; omega) ?_; intro v2 w2 hO2 hg2 hat2; have HO2 := Lib.hid hO2; skip; clear hO2 HM2)
          | (refine appendL_step w3.heap.size (fun b => S b ∧ b < w3.heap.size) rfl (.tmp 29) (.tmp 32) rfl (.slice (some ⟨w3.heap.size, 0, none⟩) 0 0) [] _ _ _ _ rfl rfl (by first | exact hld | (rw [hld]; omega)) (OwnL.empty (by exact (hg1.block (w3.heap.size) (by first | (simp; done) | (simp; omega)) (by simp [Value.ownBlock])).trans (two_boxes _ _ _)) (by have := hb1.size; omega)) (HM2.out.beside (by first | exact hb1 | exact alloc_of hb1 _ | exact drew_of (alloc_of hb1 _)) (empty_new (by have := hb1.size; omega))) (by have := hb1.size; simp; omega) (by rw [hld]; simp only [List.length_nil]; omega) ?_; intro v2 w2 hO2 hg2 hat2; have HO2 := Lib.hid hO2; skip; clear hO2 HM2))
        · have hb2 := Below.grown (alloc_of hb1 (.cells #[] 33)) hg2 (by have := hb1.size; simp; omega) (empty_new (by have := hb1.size; omega))
          have hv1 : IsS w2 (Old w3 S) (l.take n) v1 := OwnL.stays (B := w1.heap.size) HO1.out (by first | (simp; done) | (simp; omega)) hb1.size (fun e => by have := (HO1.out.own_lt _ e).2; omega) (fun b hb hne => (hg2.block b (by first | (simp; done) | (simp; omega)) (fun e => hne (by simpa [Value.ownBlock] using e))).trans (Below.heap_alloc _ _ _ hb))
          have HV1 := Lib.hid hv1
          clear hv1
          go_wp2_with fail
          refine bodyPost_ret (v := .tuple #[v1, v2, .int .i64 0]) (by simp [results, Tryd.results42, go_sem]) rfl (.inr ⟨HM.out, _, .inr ⟨HFD.out, _, _, rfl, by rw [HJ.out]; exact HV1.out.keep (Keeps.weak (old_later2 hb3)), by rw [HJ.out]; exact IsS.keep (Keeps.weak (old_later2 hb3)) (HO2.out.is (S' := Old w3 S) (fun b h => .inl h) (fun b h => .inr h) (by first | (simp; done) | (simp; omega))), chain_then hb3 hb2⟩⟩)
        · have hb2 := Below.grown hb1 hg2 hb1.size (empty_new (by omega))
          have hv1 : IsS w2 (Old w3 S) (l.take n) v1 := OwnL.stays (B := w3.heap.size + 1) HO1.out (by first | (simp; done) | (simp; omega)) (by omega) (fun e => by rcases hat1 with h | h <;> (rw [h] at e; simp [Value.ownBlock] at e; try omega)) (fun b hb hne => hg2.block b hb (fun e => hne (by simpa [Value.ownBlock] using e)))
          have HV1 := Lib.hid hv1
          clear hv1
          go_wp2_with fail
          refine bodyPost_ret (v := .tuple #[v1, v2, .int .i64 0]) (by simp [results, Tryd.results42, go_sem]) rfl (.inr ⟨HM.out, _, .inr ⟨HFD.out, _, _, rfl, by rw [HJ.out]; exact HV1.out.keep (Keeps.weak (old_later2 hb3)), by rw [HJ.out]; exact IsS.keep (Keeps.weak (old_later2 hb3)) (HO2.out.is (S' := Old w3 S) (fun b h => .inl h) (fun b h => .inr h) (by first | (simp; done) | (simp; omega))), chain_then hb3 hb2⟩⟩)
        · have hb2 := Below.grown hb1 hg2 hb1.size (empty_new (by omega))
          have hv1 : IsS w2 (Old w3 S) (l.take n) v1 := OwnL.stays (B := w3.heap.size) HO1.out (by first | (simp; done) | (simp; omega)) (by omega) (fun e => by rcases hat1 with h | h <;> (rw [h] at e; simp [Value.ownBlock] at e; try omega)) (fun b hb hne => hg2.block b hb (fun e => hne (by simpa [Value.ownBlock] using e)))
          have HV1 := Lib.hid hv1
          clear hv1
          go_wp2_with fail
          refine bodyPost_ret (v := .tuple #[v1, v2, .int .i64 0]) (by simp [results, Tryd.results42, go_sem]) rfl (.inr ⟨HM.out, _, .inr ⟨HFD.out, _, _, rfl, by rw [HJ.out]; exact HV1.out.keep (Keeps.weak (old_later2 hb3)), by rw [HJ.out]; exact IsS.keep (Keeps.weak (old_later2 hb3)) (HO2.out.is (S' := Old w3 S) (fun b h => .inl h) (fun b h => .inr h) (by first | (simp; done) | (simp; omega))), chain_then hb3 hb2⟩⟩)
    | false =>
      obtain rfl : l.length = j := by rw [← hj]; rfl
      have hj2 : (l.length : Int) ≤ (l.length : Int) := by omega
      have hjc : (l.length : Int) ≤ (c : Int) := by omega
      have hjc2 : l.length ≤ c := by omega
      have hlc : (l.length : Int) ≤ (c : Int) := by omega
      have hlt : (l.take l.length).length = l.length := by rw [List.length_take]; omega
      have hld : (l.drop l.length).length = l.length - l.length := by rw [List.length_drop]
      have HM1 : Hid (LA w3 (fun b => S b ∧ b < w3.heap.size) (l.take l.length) A) := Lib.hid (HA3.out.take l.length)
      by_cases hcj : c = l.length
      · obtain rfl := hcj
        have HM2 : Hid (LA w3 (fun b => S b ∧ b < w3.heap.size) (l.drop l.length) A) := Lib.hid (.inl (List.length_eq_zero_iff.1 (by rw [hld]; omega)))
        clear hj
        go_wp2_with fail
        go_region_law (first
          | (refine appendL_step w3.heap.size (fun b => S b ∧ b < w3.heap.size) rfl (.tmp 24) (.tmp 27) rfl (.slice (some ⟨w3.heap.size, 0, none⟩) 0 0) [] _ _ _ _ rfl rfl hlt (OwnL.empty (by first | exact heap_alloc_new _ _ | exact two_boxes _ _ _) (by omega)) (HM1.out.beside (by repeat (first | exact Below.refl _ _ | refine drew_of ?_ | refine alloc_of ?_ _)) (empty_new (by omega))) (by first | (simp; done) | (simp; omega)) (by rw [hlt]; simp; omega) ?_; intro v1 w1 hO1 hg1 hat1; have hb1 := Below.grown (by repeat (first | exact Below.refl _ _ | refine drew_of ?_ | refine alloc_of ?_ _) : Below w3.heap.size w3 _) hg1 (by first | (simp; done) | (simp; omega)) (empty_new (by omega)); have HO1 := Lib.hid hO1; skip; clear hO1 HM1)
          | (refine appendL_step w3.heap.size (fun b => S b ∧ b < w3.heap.size) rfl (.tmp 24) (.tmp 27) rfl (.slice (some ⟨w3.heap.size + 1, 0, none⟩) 0 0) [] _ _ _ _ rfl rfl hlt (OwnL.empty (by exact two_boxes' _ _ _) (by omega)) (HM1.out.beside (by repeat (first | exact Below.refl _ _ | refine drew_of ?_ | refine alloc_of ?_ _)) (empty_new (by omega))) (by first | (simp; done) | (simp; omega)) (by rw [hlt]; simp; omega) ?_; intro v1 w1 hO1 hg1 hat1; have hb1 := Below.grown (by repeat (first | exact Below.refl _ _ | refine drew_of ?_ | refine alloc_of ?_ _) : Below w3.heap.size w3 _) hg1 (by first | (simp; done) | (simp; omega)) (empty_new (by omega)); have HO1 := Lib.hid hO1; skip; clear hO1 HM1)
          | (refine appendL_step w3.heap.size (fun b => S b ∧ b < w3.heap.size) rfl (.tmp 29) (.tmp 32) rfl (.slice (some ⟨w1.heap.size, 0, none⟩) 0 0) [] _ _ _ _ rfl rfl (by first | exact hld | (rw [hld]; omega)) (OwnL.empty (by exact heap_alloc_new _ _) (by have := hb1.size; omega)) (HM2.out.beside (by first | exact hb1 | exact alloc_of hb1 _ | exact drew_of (alloc_of hb1 _)) (empty_new (by have := hb1.size; omega))) (by have := hb1.size; simp; omega) (by rw [hld]; simp only [List.length_nil]; omega) ?_; intro v2 w2 hO2 hg2 hat2; have HO2 := Lib.hid hO2; skip; clear hO2 HM2)
          | (refine appendL_step w3.heap.size (fun b => S b ∧ b < w3.heap.size) rfl (.tmp 29) (.tmp 32) rfl (.slice (some ⟨w3.heap.size + 1, 0, none⟩) 0 0) [] _ _ _ _ rfl rfl (by first | exact hld | (rw [hld]; omega)) (OwnL.empty (by exact (hg1.block (w3.heap.size + 1) (by simp) (by simp [Value.ownBlock])).trans (two_boxes' _ _ _)) (by have := hb1.size; omega)) (HM2.out.beside (by first | exact hb1 | exact alloc_of hb1 _ | exact drew_of (alloc_of hb1 _)) (empty_new (by have := hb1.size; omega))) (by have := hb1.size; simp; omega) (by rw [hld]; simp only [List.length_nil]; omega) ?_; intro v2 w2 hO2 hg2 hat2; have HO2 := Lib.hid hO2; skip; clear hO2 HM2)
          | (refine appendL_step w3.heap.size (fun b => S b ∧ b < w3.heap.size) rfl (.tmp 29) (.tmp 32) rfl (.slice (some ⟨w3.heap.size, 0, none⟩) 0 0) [] _ _ _ _ rfl rfl (by first | exact hld | (rw [hld]; omega)) (OwnL.empty (by exact (hg1.block (w3.heap.size) (by first | (simp; done) | (simp; omega)) (by simp [Value.ownBlock])).trans (two_boxes _ _ _)) (by have := hb1.size; omega)) (HM2.out.beside (by first | exact hb1 | exact alloc_of hb1 _ | exact drew_of (alloc_of hb1 _)) (empty_new (by have := hb1.size; omega))) (by have := hb1.size; simp; omega) (by rw [hld]; simp only [List.length_nil]; omega) ?_; intro v2 w2 hO2 hg2 hat2; have HO2 := Lib.hid hO2; skip; clear hO2 HM2))
        · have hb2 := Below.grown (alloc_of hb1 (.cells #[] 33)) hg2 (by have := hb1.size; simp; omega) (empty_new (by have := hb1.size; omega))
          have hv1 : IsS w2 (Old w3 S) (l.take l.length) v1 := OwnL.stays (B := w1.heap.size) HO1.out (by first | (simp; done) | (simp; omega)) hb1.size (fun e => by have := (HO1.out.own_lt _ e).2; omega) (fun b hb hne => (hg2.block b (by first | (simp; done) | (simp; omega)) (fun e => hne (by simpa [Value.ownBlock] using e))).trans (Below.heap_alloc _ _ _ hb))
          have HV1 := Lib.hid hv1
          clear hv1
          go_wp2_with fail
          refine bodyPost_ret (v := .tuple #[v1, v2, .int .i64 0]) (by simp [results, Tryd.results42, go_sem]) rfl (.inr ⟨HM.out, _, .inl ⟨HFD.out, _, _, rfl, by rw [HJ.out]; exact HV1.out.keep (Keeps.weak (old_later2 hb3)), by rw [HJ.out]; exact IsS.keep (Keeps.weak (old_later2 hb3)) (HO2.out.is (S' := Old w3 S) (fun b h => .inl h) (fun b h => .inr h) (by first | (simp; done) | (simp; omega))), chain_then hb3 hb2⟩⟩)
        · have hb2 := Below.grown hb1 hg2 hb1.size (empty_new (by omega))
          have hv1 : IsS w2 (Old w3 S) (l.take l.length) v1 := OwnL.stays (B := w3.heap.size + 1) HO1.out (by first | (simp; done) | (simp; omega)) (by omega) (fun e => by rcases hat1 with h | h <;> (rw [h] at e; simp [Value.ownBlock] at e; try omega)) (fun b hb hne => hg2.block b hb (fun e => hne (by simpa [Value.ownBlock] using e)))
          have HV1 := Lib.hid hv1
          clear hv1
          go_wp2_with fail
          refine bodyPost_ret (v := .tuple #[v1, v2, .int .i64 0]) (by simp [results, Tryd.results42, go_sem]) rfl (.inr ⟨HM.out, _, .inl ⟨HFD.out, _, _, rfl, by rw [HJ.out]; exact HV1.out.keep (Keeps.weak (old_later2 hb3)), by rw [HJ.out]; exact IsS.keep (Keeps.weak (old_later2 hb3)) (HO2.out.is (S' := Old w3 S) (fun b h => .inl h) (fun b h => .inr h) (by first | (simp; done) | (simp; omega))), chain_then hb3 hb2⟩⟩)
        · have hb2 := Below.grown hb1 hg2 hb1.size (empty_new (by omega))
          have hv1 : IsS w2 (Old w3 S) (l.take l.length) v1 := OwnL.stays (B := w3.heap.size) HO1.out (by first | (simp; done) | (simp; omega)) (by omega) (fun e => by rcases hat1 with h | h <;> (rw [h] at e; simp [Value.ownBlock] at e; try omega)) (fun b hb hne => hg2.block b hb (fun e => hne (by simpa [Value.ownBlock] using e)))
          have HV1 := Lib.hid hv1
          clear hv1
          go_wp2_with fail
          refine bodyPost_ret (v := .tuple #[v1, v2, .int .i64 0]) (by simp [results, Tryd.results42, go_sem]) rfl (.inr ⟨HM.out, _, .inl ⟨HFD.out, _, _, rfl, by rw [HJ.out]; exact HV1.out.keep (Keeps.weak (old_later2 hb3)), by rw [HJ.out]; exact IsS.keep (Keeps.weak (old_later2 hb3)) (HO2.out.is (S' := Old w3 S) (fun b h => .inl h) (fun b h => .inr h) (by first | (simp; done) | (simp; omega))), chain_then hb3 hb2⟩⟩)
      · have HM2 : Hid (LA w3 (fun b => S b ∧ b < w3.heap.size) (l.drop l.length) (A.map (fun x => x.add (l.length * 4)))) := Lib.hid (HA3.out.drop_map l.length)
        clear hj
        go_wp2_with fail
        go_region_law (first
          | (refine appendL_step w3.heap.size (fun b => S b ∧ b < w3.heap.size) rfl (.tmp 24) (.tmp 27) rfl (.slice (some ⟨w3.heap.size, 0, none⟩) 0 0) [] _ _ _ _ rfl rfl hlt (OwnL.empty (by first | exact heap_alloc_new _ _ | exact two_boxes _ _ _) (by omega)) (HM1.out.beside (by repeat (first | exact Below.refl _ _ | refine drew_of ?_ | refine alloc_of ?_ _)) (empty_new (by omega))) (by first | (simp; done) | (simp; omega)) (by rw [hlt]; simp; omega) ?_; intro v1 w1 hO1 hg1 hat1; have hb1 := Below.grown (by repeat (first | exact Below.refl _ _ | refine drew_of ?_ | refine alloc_of ?_ _) : Below w3.heap.size w3 _) hg1 (by first | (simp; done) | (simp; omega)) (empty_new (by omega)); have HO1 := Lib.hid hO1; skip; clear hO1 HM1)
          | (refine appendL_step w3.heap.size (fun b => S b ∧ b < w3.heap.size) rfl (.tmp 24) (.tmp 27) rfl (.slice (some ⟨w3.heap.size + 1, 0, none⟩) 0 0) [] _ _ _ _ rfl rfl hlt (OwnL.empty (by exact two_boxes' _ _ _) (by omega)) (HM1.out.beside (by repeat (first | exact Below.refl _ _ | refine drew_of ?_ | refine alloc_of ?_ _)) (empty_new (by omega))) (by first | (simp; done) | (simp; omega)) (by rw [hlt]; simp; omega) ?_; intro v1 w1 hO1 hg1 hat1; have hb1 := Below.grown (by repeat (first | exact Below.refl _ _ | refine drew_of ?_ | refine alloc_of ?_ _) : Below w3.heap.size w3 _) hg1 (by first | (simp; done) | (simp; omega)) (empty_new (by omega)); have HO1 := Lib.hid hO1; skip; clear hO1 HM1)
          | (refine appendL_step w3.heap.size (fun b => S b ∧ b < w3.heap.size) rfl (.tmp 29) (.tmp 32) rfl (.slice (some ⟨w1.heap.size, 0, none⟩) 0 0) [] _ _ _ _ rfl rfl (by first | exact hld | (rw [hld]; omega)) (OwnL.empty (by exact heap_alloc_new _ _) (by have := hb1.size; omega)) (HM2.out.beside (by first | exact hb1 | exact alloc_of hb1 _ | exact drew_of (alloc_of hb1 _)) (empty_new (by have := hb1.size; omega))) (by have := hb1.size; simp; omega) (by rw [hld]; simp only [List.length_nil]; omega) ?_; intro v2 w2 hO2 hg2 hat2; have HO2 := Lib.hid hO2; skip; clear hO2 HM2)
          | (refine appendL_step w3.heap.size (fun b => S b ∧ b < w3.heap.size) rfl (.tmp 29) (.tmp 32) rfl (.slice (some ⟨w3.heap.size + 1, 0, none⟩) 0 0) [] _ _ _ _ rfl rfl (by first | exact hld | (rw [hld]; omega)) (OwnL.empty (by exact (hg1.block (w3.heap.size + 1) (by simp) (by simp [Value.ownBlock])).trans (two_boxes' _ _ _)) (by have := hb1.size; omega)) (HM2.out.beside (by first | exact hb1 | exact alloc_of hb1 _ | exact drew_of (alloc_of hb1 _)) (empty_new (by have := hb1.size; omega))) (by have := hb1.size; simp; omega) (by rw [hld]; simp only [List.length_nil]; omega) ?_; intro v2 w2 hO2 hg2 hat2; have HO2 := Lib.hid hO2; skip; clear hO2 HM2)
          | (refine appendL_step w3.heap.size (fun b => S b ∧ b < w3.heap.size) rfl (.tmp 29) (.tmp 32) rfl (.slice (some ⟨w3.heap.size, 0, none⟩) 0 0) [] _ _ _ _ rfl rfl (by first | exact hld | (rw [hld]; omega)) (OwnL.empty (by exact (hg1.block (w3.heap.size) (by first | (simp; done) | (simp; omega)) (by simp [Value.ownBlock])).trans (two_boxes _ _ _)) (by have := hb1.size; omega)) (HM2.out.beside (by first | exact hb1 | exact alloc_of hb1 _ | exact drew_of (alloc_of hb1 _)) (empty_new (by have := hb1.size; omega))) (by have := hb1.size; simp; omega) (by rw [hld]; simp only [List.length_nil]; omega) ?_; intro v2 w2 hO2 hg2 hat2; have HO2 := Lib.hid hO2; skip; clear hO2 HM2))
        · have hb2 := Below.grown (alloc_of hb1 (.cells #[] 33)) hg2 (by have := hb1.size; simp; omega) (empty_new (by have := hb1.size; omega))
          have hv1 : IsS w2 (Old w3 S) (l.take l.length) v1 := OwnL.stays (B := w1.heap.size) HO1.out (by first | (simp; done) | (simp; omega)) hb1.size (fun e => by have := (HO1.out.own_lt _ e).2; omega) (fun b hb hne => (hg2.block b (by first | (simp; done) | (simp; omega)) (fun e => hne (by simpa [Value.ownBlock] using e))).trans (Below.heap_alloc _ _ _ hb))
          have HV1 := Lib.hid hv1
          clear hv1
          go_wp2_with fail
          refine bodyPost_ret (v := .tuple #[v1, v2, .int .i64 0]) (by simp [results, Tryd.results42, go_sem]) rfl (.inr ⟨HM.out, _, .inl ⟨HFD.out, _, _, rfl, by rw [HJ.out]; exact HV1.out.keep (Keeps.weak (old_later2 hb3)), by rw [HJ.out]; exact IsS.keep (Keeps.weak (old_later2 hb3)) (HO2.out.is (S' := Old w3 S) (fun b h => .inl h) (fun b h => .inr h) (by first | (simp; done) | (simp; omega))), chain_then hb3 hb2⟩⟩)
        · have hb2 := Below.grown hb1 hg2 hb1.size (empty_new (by omega))
          have hv1 : IsS w2 (Old w3 S) (l.take l.length) v1 := OwnL.stays (B := w3.heap.size + 1) HO1.out (by first | (simp; done) | (simp; omega)) (by omega) (fun e => by rcases hat1 with h | h <;> (rw [h] at e; simp [Value.ownBlock] at e; try omega)) (fun b hb hne => hg2.block b hb (fun e => hne (by simpa [Value.ownBlock] using e)))
          have HV1 := Lib.hid hv1
          clear hv1
          go_wp2_with fail
          refine bodyPost_ret (v := .tuple #[v1, v2, .int .i64 0]) (by simp [results, Tryd.results42, go_sem]) rfl (.inr ⟨HM.out, _, .inl ⟨HFD.out, _, _, rfl, by rw [HJ.out]; exact HV1.out.keep (Keeps.weak (old_later2 hb3)), by rw [HJ.out]; exact IsS.keep (Keeps.weak (old_later2 hb3)) (HO2.out.is (S' := Old w3 S) (fun b h => .inl h) (fun b h => .inr h) (by first | (simp; done) | (simp; omega))), chain_then hb3 hb2⟩⟩)
        · have hb2 := Below.grown hb1 hg2 hb1.size (empty_new (by omega))
          have hv1 : IsS w2 (Old w3 S) (l.take l.length) v1 := OwnL.stays (B := w3.heap.size) HO1.out (by first | (simp; done) | (simp; omega)) (by omega) (fun e => by rcases hat1 with h | h <;> (rw [h] at e; simp [Value.ownBlock] at e; try omega)) (fun b hb hne => hg2.block b hb (fun e => hne (by simpa [Value.ownBlock] using e)))
          have HV1 := Lib.hid hv1
          clear hv1
          go_wp2_with fail
          refine bodyPost_ret (v := .tuple #[v1, v2, .int .i64 0]) (by simp [results, Tryd.results42, go_sem]) rfl (.inr ⟨HM.out, _, .inl ⟨HFD.out, _, _, rfl, by rw [HJ.out]; exact HV1.out.keep (Keeps.weak (old_later2 hb3)), by rw [HJ.out]; exact IsS.keep (Keeps.weak (old_later2 hb3)) (HO2.out.is (S' := Old w3 S) (fun b h => .inl h) (fun b h => .inr h) (by first | (simp; done) | (simp; omega))), chain_then hb3 hb2⟩⟩)
end Go.Proofs.YtjjbhnkplbjfeaaDoor
