/- What an item weighs. What items weigh together. A deque as a part; what it weighs. Lists one behind the other: slices.Grow, slices.Concat. Lists one behind the other: slices.Concat. A deque built of lists; the ends. -/
import Derived.Lib.AppendZerosOnto
import Derived.Test.YtjjbhnkplbjfeaaDoorCFnZ
import Derived.Test.YtjjbhnkplbjfeaaDoorCBase
/- What an item weighs. -/
set_option linter.unusedVariables false
set_option linter.unusedSimpArgs false
namespace Go.Proofs.YtjjbhnkplbjfeaaDoor
open Go.RowKit
attribute [local go_sem] lt_succ_of

def heftV (x : V) : Int := if x.kind = 2 ∧ 0 ≤ x.num ∧ x.num ≤ 65536 then x.num else 1
theorem heft_range (x : V) : 0 ≤ heftV x ∧ heftV x ≤ 65536 := by
  unfold heftV
  split <;> omega
set_option maxRecDepth 100000 in
theorem heft_calls (x : V) (vx : Value) (w : World) (S : Nat → Prop) (hx : IsV w S x vx) :
    Calls Tryd.prog 82 #[vx] w fun e w' => e = .returned (.int .i64 (heftV x)) ∧ Below w.heap.size w w' := by
  obtain ⟨hbx, Ax, cx, rfl, hcx, hAx⟩ := hx.eq
  obtain ⟨w1, hw1, hB1, hsz, hb0⟩ := box0 w 33 (.int .i64 x.kind) (.int .i64 x.num) (.string x.text) (.slice Ax x.items.length cx)
  obtain ⟨e0, e1, e2, e3⟩ := block4 hb0
  clear hx hAx hb0 hbx
  by_cases hk : x.kind = 2
  · have k1 : (x.kind == 2) = true := by simpa using hk
    by_cases hn : 0 ≤ x.num
    · have n1 : decide (0 ≤ x.num) = true := by simpa using hn
      by_cases hm : x.num ≤ 65536
      · have m1 : decide (x.num ≤ 65536) = true := by simpa using hm
        rw [show heftV x = x.num by unfold heftV; rw [if_pos ⟨hk, hn, hm⟩]]
        clear hk hn hm
        go_enter Tryd.func82, Tryd.ntmps82
        go_wp2_with fail
        go_ret
        exact ⟨rfl, hB1⟩
      · have m1 : decide (x.num ≤ 65536) = false := by simpa using hm
        rw [show heftV x = 1 by unfold heftV; rw [if_neg (fun h => hm h.2.2)]]
        clear hk hn hm
        go_enter Tryd.func82, Tryd.ntmps82
        go_wp2_with fail
        go_ret
        exact ⟨rfl, hB1⟩
    · have n1 : decide (0 ≤ x.num) = false := by simpa using hn
      rw [show heftV x = 1 by unfold heftV; rw [if_neg (fun h => hn h.2.1)]]
      clear hk hn
      go_enter Tryd.func82, Tryd.ntmps82
      go_wp2_with fail
      go_ret
      exact ⟨rfl, hB1⟩
  · have k1 : (x.kind == 2) = false := by simpa using hk
    rw [show heftV x = 1 by unfold heftV; rw [if_neg (fun h => hk h.1)]]
    clear hk
    go_enter Tryd.func82, Tryd.ntmps82
    go_wp2_with fail
    go_ret
    exact ⟨rfl, hB1⟩
set_option maxRecDepth 100000 in
theorem refheft_calls (x : V) (vx : Value) (w : World) (S : Nat → Prop) (hx : IsV w S x vx) :
    Calls Tryd.prog 83 #[vx] w fun e w' => e = .returned (.int .i64 (heftV x)) ∧ Below w.heap.size w w' := by
  obtain ⟨hbx, Ax, cx, rfl, hcx, hAx⟩ := hx.eq
  obtain ⟨w1, hw1, hB1, hsz, hb0⟩ := box0 w 33 (.int .i64 x.kind) (.int .i64 x.num) (.string x.text) (.slice Ax x.items.length cx)
  obtain ⟨e0, e1, e2, e3⟩ := block4 hb0
  clear hx hAx hb0 hbx
  by_cases hk : x.kind = 2
  · have k1 : (x.kind == 2) = true := by simpa using hk
    by_cases hn : 0 ≤ x.num
    · have n1 : decide (0 ≤ x.num) = true := by simpa using hn
      by_cases hm : x.num ≤ 65536
      · have m1 : decide (x.num ≤ 65536) = true := by simpa using hm
        rw [show heftV x = x.num by unfold heftV; rw [if_pos ⟨hk, hn, hm⟩]]
        clear hk hn hm
        go_enter Tryd.func83, Tryd.ntmps83
        go_wp2_with fail
        go_ret
        exact ⟨rfl, hB1⟩
      · have m1 : decide (x.num ≤ 65536) = false := by simpa using hm
        rw [show heftV x = 1 by unfold heftV; rw [if_neg (fun h => hm h.2.2)]]
        clear hk hn hm
        go_enter Tryd.func83, Tryd.ntmps83
        go_wp2_with fail
        go_ret
        exact ⟨rfl, hB1⟩
    · have n1 : decide (0 ≤ x.num) = false := by simpa using hn
      rw [show heftV x = 1 by unfold heftV; rw [if_neg (fun h => hn h.2.1)]]
      clear hk hn
      go_enter Tryd.func83, Tryd.ntmps83
      go_wp2_with fail
      go_ret
      exact ⟨rfl, hB1⟩
  · have k1 : (x.kind == 2) = false := by simpa using hk
    rw [show heftV x = 1 by unfold heftV; rw [if_neg (fun h => hk h.1)]]
    clear hk
    go_enter Tryd.func83, Tryd.ntmps83
    go_wp2_with fail
    go_ret
    exact ⟨rfl, hB1⟩
end Go.Proofs.YtjjbhnkplbjfeaaDoor

/- What items weigh together. -/
set_option linter.unusedVariables false
set_option linter.unusedSimpArgs false
namespace Go.Proofs.YtjjbhnkplbjfeaaDoor
open Go.RowKit
attribute [local go_sem] lt_succ_of

def weightV : List V → Int
  | [] => 0
  | x :: l => heftV x + weightV l
theorem weight_append : ∀ (l m : List V), weightV (l ++ m) = weightV l + weightV m
  | [], m => by simp [weightV]
  | x :: l, m => by simp only [List.cons_append, weightV, weight_append l m]; omega
theorem weight_range : ∀ (l : List V), 0 ≤ weightV l ∧ weightV l ≤ 65536 * (l.length : Int)
  | [] => by simp [weightV]
  | x :: l => by
    have h1 := heft_range x
    have h2 := weight_range l
    simp only [weightV, List.length_cons]
    omega
theorem weight_next (l : List V) (i : Nat) (h : i < l.length) : weightV (l.take (i + 1)) = weightV (l.take i) + heftV (itemAt l i) := by
  have : l.take (i + 1) = l.take i ++ [itemAt l i] := by
    rw [List.take_add_one, List.getElem?_eq_getElem h]
    simp [itemAt, h]
  rw [this, weight_append]
  simp [weightV]
set_option maxRecDepth 100000 in
theorem refweight_calls (l : List V) (vl : Value) (w : World) (S : Nat → Prop) (hl : IsS w S l vl) (h65 : l.length ≤ 65536) :
    Calls Tryd.prog 44 #[vl] w fun e w' => e = .returned (.int .i64 (weightV l)) ∧ Below w.heap.size w w' := by
  obtain ⟨A, cA, rfl, hcA, hla, hA⟩ := hl
  have HA := Lib.hid hA
  have H65 := Lib.hid h65
  clear hA h65
  go_enter Tryd.func44, Tryd.ntmps44
  go_wp2_with fail
  go_loopw [3, 4] (fun vn vi wr => ∃ (i : Nat) (s : Int), vn = .int .i64 s ∧ vi = .int .i64 i ∧ i ≤ l.length ∧ Hid (s = weightV (l.take i)) ∧ Below w.heap.size w wr) (fun _ v _ => l.length - (intOf v).toNat)
  case atStart => exact ⟨0, 0, rfl, rfl, by omega, Lib.hid rfl, Below.refl _ _⟩
  case round =>
    obtain ⟨i, s, rfl, rfl, hi, hs, hf⟩ := hrel
    by_cases hlt : i < l.length
    · obtain ⟨ad, A1, cap1, rfl, hla', hbd, f0, f1, f2, f3, hcap1, hLA⟩ := (HA.out.below hf).at i hlt
      have HX := Lib.hid (IsV.mk hbd hcap1 hLA)
      have hj2 : (i : Int) < (l.length : Int) := by omega
      have hr := heft_range (itemAt l i)
      have hr2 := weight_range (l.take i)
      rw [← hs.out] at hr2
      have hr3 : ((l.take i).length : Int) ≤ 65536 := by have := H65.out; rw [List.length_take]; omega
      have hn := Lib.hid (weight_next l i hlt)
      have i1 : IntKind.i64.wrap (s + heftV (itemAt l i)) = s + heftV (itemAt l i) := IntWalk.i64_in _ (by omega)
      clear hbd hLA hr hr2 hr3 hla'
      go_wp2_with (first | (go_at_call 83; refine (refheft_calls _ _ _ _ HX.out).mono ?_; rintro e w2 ⟨rfl, hb2⟩; have hb3 := below_then hf hf.size hb2))
      go_roundw
      case rel => exact ⟨i + 1, _, rfl, by go_num, by omega, Lib.hid (by rw [hn.out, hs.out]), hb3⟩
      case measure => simp [intOf]; omega
    · have hj2 : ¬ (i : Int) < (l.length : Int) := by omega
      have hj3 : decide ((i : Int) < (l.length : Int)) = false := decide_eq_false hj2
      have hs2 := hs.out
      rw [List.take_of_length_le (by omega)] at hs2
      subst hs2
      clear hs
      go_wp2_with fail
      go_ret
      exact ⟨rfl, hf⟩
end Go.Proofs.YtjjbhnkplbjfeaaDoor

/- A deque as a part; what it weighs. -/
set_option linter.unusedVariables false
set_option linter.unusedSimpArgs false
namespace Go.Proofs.YtjjbhnkplbjfeaaDoor
open Go.RowKit
attribute [local go_sem] lt_succ_of

theorem methWeight (a : Value) (w : World) : (method 287 147 (.agg #[a]) "spinney/split.weight").run Tryd.prog w = .ok (153, .agg #[a]) w := by kernel_rfl
theorem methItems (a : Value) (w : World) : (method 287 147 (.agg #[a]) "spinney/split.items").run Tryd.prog w = .ok (152, .agg #[a]) w := by kernel_rfl
attribute [local go_sem] methWeight methItems
set_option maxRecDepth 100000 in
theorem spanitems_calls (v : Value) (w : World) : Calls Tryd.prog 152 #[.agg #[v]] w fun e w' => e = .returned v ∧ Below w.heap.size w w' := by
  go_enter Tryd.func152, Tryd.ntmps152
  go_wp2_with fail
  go_ret
  exact ⟨rfl, (Below.refl _ _).alloc (Nat.le_refl _) _⟩
set_option maxRecDepth 100000 in
theorem spanweight_calls (l : List V) (vl : Value) (w : World) (S : Nat → Prop) (hl : IsS w S l vl) (h65 : l.length ≤ 65536) :
    Calls Tryd.prog 153 #[.agg #[vl]] w fun e w' => e = .returned (.int .i64 (weightV l)) ∧ Below w.heap.size w w' := by
  obtain ⟨A, cA, rfl, hcA, hla, hA⟩ := hl
  have HA := Lib.hid hA
  have H65 := Lib.hid h65
  clear hA h65
  obtain ⟨w1, hw1, hB1, d0⟩ : ∃ w1, w.alloc (.cells #[.slice A l.length cA] 147) = w1 ∧ Below w.heap.size w w1 ∧ w1.cell? ⟨w.heap.size, 0, none⟩ = some (.slice A l.length cA) := ⟨_, rfl, alloc_of (Below.refl _ _) _, block1 (heap_alloc_new w _)⟩
  go_enter Tryd.func153, Tryd.ntmps153
  go_wp2_with fail
  go_loopw [3, 9] (fun vn vi wr => ∃ (i : Nat) (s : Int), vn = .int .i64 s ∧ vi = .int .i64 i ∧ i ≤ l.length ∧ Hid (s = weightV (l.take i)) ∧ Below w.heap.size w wr) (fun _ v _ => l.length - (intOf v).toNat)
  case atStart => exact ⟨0, 0, rfl, rfl, by omega, Lib.hid rfl, hB1⟩
  case round =>
    obtain ⟨i, s, rfl, rfl, hi, hs, hf⟩ := hrel
    by_cases hlt : i < l.length
    · obtain ⟨ad, A1, cap1, rfl, hla', hbd, f0, f1, f2, f3, hcap1, hLA⟩ := (HA.out.below hf).at i hlt
      have hX := IsV.mk hbd hcap1 hLA
      obtain ⟨w3, hw3, hB3, hs3, hk3⟩ := box0 wr 33 (.int .i64 (itemAt l i).kind) (.int .i64 (itemAt l i).num) (.string (itemAt l i).text) (.slice A1 (itemAt l i).items.length cap1)
      obtain ⟨e0, e1, e2, e3⟩ := block4 hk3
      have HX := Lib.hid (hX.below hB3)
      have hb3 := below_then hf hf.size hB3
      have hj2 : (i : Int) < (l.length : Int) := by omega
      have hr := heft_range (itemAt l i)
      have hr2 := weight_range (l.take i)
      rw [← hs.out] at hr2
      have hr3 : ((l.take i).length : Int) ≤ 65536 := by have := H65.out; rw [List.length_take]; omega
      have hn := Lib.hid (weight_next l i hlt)
      have i1 : IntKind.i64.wrap (s + heftV (itemAt l i)) = s + heftV (itemAt l i) := IntWalk.i64_in _ (by omega)
      clear hbd hLA hr hr2 hr3 hla' hX hk3
      go_wp2_with (first | (go_at_call 82; refine (heft_calls _ _ _ _ HX.out).mono ?_; rintro e w2 ⟨rfl, hb2⟩; have hb4 := below_then hb3 hb3.size hb2))
      go_roundw
      case rel => exact ⟨i + 1, _, rfl, by go_num, by omega, Lib.hid (by rw [hn.out, hs.out]), hb4⟩
      case measure => simp [intOf]; omega
    · have hj2 : ¬ (i : Int) < (l.length : Int) := by omega
      have hj3 : decide ((i : Int) < (l.length : Int)) = false := decide_eq_false hj2
      have hs2 := hs.out
      rw [List.take_of_length_le (by omega)] at hs2
      subst hs2
      clear hs
      go_wp2_with fail
      go_ret
      exact ⟨rfl, hf⟩
set_option maxRecDepth 100000 in
theorem whole_calls (l : List V) (p : Option Addr) (w : World) (S : Nat → Prop) (h : IsD w S l p) :
    Calls Tryd.prog 84 #[.pointer p] w fun e w' => ∃ v, e = .returned (.iface 147 (.agg #[v])) ∧ IsS w' (fun b => w.heap.size ≤ b) l v ∧ Below w.heap.size w w' := by
  have HI := Lib.hid (items_calls l _ w S h)
  clear h
  go_enter Tryd.func84, Tryd.ntmps84
  go_wp2_with (first | (go_at_call 37; refine HI.out.mono ?_; rintro e w2 ⟨v2, rfl, hv2, hb2⟩; have HV := Lib.hid hv2; obtain ⟨A2, c2, rfl, _⟩ := hv2))
  go_ret
  exact ⟨_, rfl, HV.out, hb2⟩
set_option maxRecDepth 100000 in
theorem dweight_calls (l : List V) (p : Option Addr) (w : World) (S : Nat → Prop) (h : IsD w S l p) :
    Calls Tryd.prog 43 #[.pointer p] w fun e w' => e = .returned (.int .i64 (weightV l)) ∧ Below w.heap.size w w' := by
  have HW := Lib.hid (whole_calls l _ w S h)
  have H65 := Lib.hid h.1
  clear h
  go_enter Tryd.func43, Tryd.ntmps43
  go_wp2_with (first
    | (go_at_call 84; refine HW.out.mono ?_; rintro e w2 ⟨v2, rfl, hv2, hb2⟩; have HSW := Lib.hid (spanweight_calls l _ w2 _ hv2 H65.out); clear hv2)
    | (go_at_call 153; refine HSW.out.mono ?_; rintro e w3 ⟨rfl, hb3'⟩; have hb3 := below_then hb2 hb2.size hb3'))
  go_ret
  exact ⟨rfl, hb3⟩
end Go.Proofs.YtjjbhnkplbjfeaaDoor

/- Lists one behind the other: slices.Grow, slices.Concat. -/
set_option linter.unusedVariables false
set_option linter.unusedSimpArgs false
namespace Go.Proofs.YtjjbhnkplbjfeaaDoor
open Go.RowKit
attribute [local go_sem] lt_succ_of

theorem OwnL.cut0 {w : World} {base : Nat} {S : Nat → Prop} {l : List V} {A : Option Addr} {n c : Nat} (h : OwnL w base S l (.slice A n c)) : OwnL w base S [] (.slice A 0 c) := by
  obtain ⟨xs, ⟨h1, h2⟩, h3⟩ := h
  refine ⟨[], ⟨rfl, ?_⟩, rfl⟩
  rcases h2 with ⟨e, h2⟩ | ⟨g, cap, cur, e, hg, hh, hc, hm, hs, ht⟩
  · simp only [Value.slice.injEq] at e
    obtain ⟨rfl, rfl, rfl⟩ := e
    exact .inl ⟨rfl, rfl⟩
  · simp only [Value.slice.injEq] at e
    obtain ⟨rfl, rfl, rfl⟩ := e
    exact .inr ⟨g, _, cur, rfl, hg, hh, Nat.zero_le _, hm, hs, by simp⟩
set_option maxRecDepth 100000 in
theorem grow_calls (n : Nat) (w : World) (hn : n ≤ 4294967296) :
    Calls Tryd.prog 115 #[.slice none 0 0, .int .i64 (n : Int)] w fun e w' => ∃ v, e = .returned v ∧ OwnL w' w.heap.size (fun _ => False) [] v ∧ Below w.heap.size w w' := by
  have hmk := make_run n hn
  by_cases h0 : n = 0
  · subst h0
    go_enter Tryd.func115, Tryd.ntmps115
    go_wp2_with fail
    go_ret
    exact ⟨_, rfl, OwnL.nil _ _ _, Below.refl _ _⟩
  · obtain ⟨i, hi, hz0, hz1, hz2⟩ := info_parts infoV
    have hrz : ∀ ty, (Builtin.append_ #[22, 3] ty #[.slice none 0 0, .int .i64 (n : Int)]).run Tryd.prog w = .ok (.slice (some ⟨w.heap.size, 0, none⟩) n (grownCap w n 0 33)) (w.drew.alloc (.cells (#[] ++ Builtin.zeroCells (#[.int .i64 0, .int .i64 0, .string ⟨#[]⟩, .slice none 0 0] : Array Value) n ++ Builtin.zeroCells (#[.int .i64 0, .int .i64 0, .string ⟨#[]⟩, .slice none 0 0] : Array Value) (grownCap w n 0 33 - n)) 33)) := fun ty => by
      have h := Lib.run_append_grow_zeros (P := Tryd.prog) w 22 3 ty 33 i _ .i64 .i64 Tryd.underlying22 Tryd.underlying3 hi hz0 none 0 0 [] (run_firstCells_none w.drew i.size 0 0 0) n (by omega) (by rw [hz1]; decide) (by omega) (by omega) (by rw [hz2]; omega)
        (by rw [Nat.zero_add]; exact growslice_fits (by omega) (by rw [hz2]; omega))
      rw [Nat.zero_add] at h
      exact h
    have hG1 := grownCap_ge w n 0 33
    have hG2 := grownCap_le_maxLen w n 0 33 (by unfold maxLen; omega)
    obtain ⟨G, hG⟩ : ∃ G, grownCap w n 0 33 = G := ⟨_, rfl⟩
    rw [hG] at hrz hG1 hG2
    obtain ⟨cur, hcur⟩ : ∃ cur, (#[] ++ Builtin.zeroCells (#[.int .i64 0, .int .i64 0, .string ⟨#[]⟩, .slice none 0 0] : Array Value) n ++ Builtin.zeroCells (#[.int .i64 0, .int .i64 0, .string ⟨#[]⟩, .slice none 0 0] : Array Value) (G - n)) = cur := ⟨_, rfl⟩
    have hsz : cur.size = G * 4 := by
      rw [← hcur]
      simp [size_zeroCells]
      omega
    rw [hcur] at hrz
    obtain ⟨w1, hw1, hB1, hk1⟩ : ∃ w1, w.drew.alloc (.cells cur 33) = w1 ∧ Below w.heap.size w w1 ∧ w1.heap[w.heap.size]? = some (.cells cur 33 (0, 0)) := ⟨_, rfl, (Below.refl _ _).drew.alloc (by simp) _, by have := heap_alloc_new w.drew (.cells cur 33); simpa using this⟩
    rw [hw1] at hrz
    clear hG hcur hmk
    have h1 : (0 : Int) < (n : Int) := by omega
    have h2 : decide ((n : Int) < 0) = false := by simp
    go_enter Tryd.func115, Tryd.ntmps115
    go_wp2_with (at_builtin; refine Lib.wpList_append_run _ rfl _ _ _ _ rfl _ _ rfl rfl _ _ (hrz _) ?_)
    all_goals
      go_ret
      exact ⟨_, rfl, ⟨[], ⟨rfl, .inr ⟨_, G, cur, rfl, Nat.le_refl _, hk1, Nat.zero_le _, hG2, hsz, by simp⟩⟩, rfl⟩, hB1⟩
end Go.Proofs.YtjjbhnkplbjfeaaDoor

/- Lists one behind the other: slices.Concat. -/
set_option linter.unusedVariables false
set_option linter.unusedSimpArgs false
namespace Go.Proofs.YtjjbhnkplbjfeaaDoor
open Go.RowKit
attribute [local go_sem] lt_succ_of

/-- A slice of slices of values. -/
def IsLL (w : World) (S : Nat → Prop) (ls : List (List V)) (v : Value) : Prop := ∃ ad cap, v = .slice (some ad) ls.length cap ∧ ls.length ≤ cap ∧ ls.length ≤ 65536 ∧ ∀ i l, ls[i]? = some l → S ad.block ∧ ∃ u, IsS w S l u ∧ w.cell? (ad.add i) = some u
theorem IsLL.keep {w w' : World} {S S' : Nat → Prop} (hk : Keeps w S w' S') {ls : List (List V)} {v : Value} (h : IsLL w S ls v) : IsLL w' S' ls v := by
  obtain ⟨ad, cap, h1, h2, h3, h4⟩ := h
  refine ⟨ad, cap, h1, h2, h3, fun i l hl => ?_⟩
  obtain ⟨hs, u, hu, hc⟩ := h4 i l hl
  have h5 := hk.cell (a := ad.add i) (by rw [addr_add_block]; exact hs) hc
  rw [addr_add_block] at h5
  exact ⟨h5.1, u, hu.keep hk, h5.2⟩
theorem IsLL.below {w w' : World} {S : Nat → Prop} (hk : Below w.heap.size w w') {ls : List (List V)} {v : Value} (h : IsLL w S ls v) : IsLL w' S ls v := h.keep (Keeps.below hk)
def lenA (ls : List (List V)) (i : Nat) : Nat := ((ls.take i).flatten).length
theorem lenA_zero (ls : List (List V)) : lenA ls 0 = 0 := rfl
theorem take_flat (ls : List (List V)) (i : Nat) (h : i < ls.length) : (ls.take (i + 1)).flatten = (ls.take i).flatten ++ ls[i] := by
  rw [List.take_add_one, List.getElem?_eq_getElem h]
  show (ls.take i ++ [ls[i]]).flatten = _
  rw [List.flatten_append]
  simp only [List.flatten_cons, List.flatten_nil, List.append_nil]
theorem lenA_succ (ls : List (List V)) (i : Nat) (h : i < ls.length) : lenA ls (i + 1) = lenA ls i + (ls[i]).length := by
  unfold lenA
  rw [take_flat ls i h, List.length_append]
theorem lenA_le (ls : List (List V)) (i : Nat) : lenA ls i ≤ ls.flatten.length := by
  unfold lenA
  conv => rhs; rw [← List.take_append_drop i ls, List.flatten_append, List.length_append]
  omega
theorem lenA_all (ls : List (List V)) : lenA ls ls.length = ls.flatten.length := by unfold lenA; rw [List.take_length]
set_option maxRecDepth 100000 in
set_option maxHeartbeats 4000000 in
theorem concat_calls (ls : List (List V)) (vl : Value) (w : World) (S : Nat → Prop) (h : IsLL w S ls vl) (ht : ls.flatten.length ≤ 4294967296) :
    Calls Tryd.prog 108 #[vl] w fun e w' => ∃ v, e = .returned v ∧ IsS w' (Old w S) ls.flatten v ∧ Below w.heap.size w w' := by
  have HL := Lib.hid h
  obtain ⟨T, hT⟩ : ∃ T, ls.flatten.length = T := ⟨_, rfl⟩
  rw [hT] at ht
  have HT := Lib.hid ht
  have HTE := Lib.hid hT
  obtain ⟨ad, cap, rfl, hc, hn, _⟩ := h
  have HG := Lib.hid (grow_calls T w ht)
  clear ht hT
  go_enter Tryd.func108, Tryd.ntmps108
  go_wp2_with fail
  go_loopw [3, 11] (fun vn vi wr => ∃ i : Nat, vi = .int .i64 i ∧ vn = .int .i64 (lenA ls i : Nat) ∧ i ≤ ls.length ∧ w = wr) (fun _ v _ => ls.length - (intOf v).toNat)
  case atStart => exact ⟨0, rfl, rfl, by omega, rfl⟩
  case round =>
    obtain ⟨i, rfl, rfl, hi, rfl⟩ := hrel
    by_cases hlt : i < ls.length
    · obtain ⟨_, _, e, _, _, hat⟩ := HL.out
      simp only [Value.slice.injEq, Option.some.injEq, true_and] at e
      obtain ⟨rfl, rfl⟩ := e
      obtain ⟨hs, u, ⟨A, c, rfl, _⟩, hcell⟩ := hat i _ (List.getElem?_eq_getElem hlt)
      clear hat
      have hla := World.block_lt_of_cell? w _ hcell
      have h1 := lenA_succ ls i hlt
      have h2 := lenA_le ls (i + 1)
      rw [HTE.out] at h2
      have h3 := HT.out
      obtain ⟨K, hK⟩ : ∃ K, (ls[i]).length = K := ⟨_, rfl⟩
      rw [hK] at hcell h1
      obtain ⟨N, hN⟩ : ∃ N, lenA ls i = N := ⟨_, rfl⟩
      rw [hN] at h1 ⊢
      have HN := Lib.hid h1
      have i1 : IntKind.i64.wrap ((N : Int) + (K : Int)) = (N : Int) + (K : Int) := IntWalk.i64_in _ (by omega)
      have i2 : ¬ ((N : Int) + (K : Int) < 0) := by omega
      have i3 : decide ((N : Int) + (K : Int) < 0) = false := decide_eq_false i2
      have i4 : (i : Int) < (ls.length : Int) := by omega
      clear h1 h2 h3 hK hN
      go_wp2_with fail
      go_roundw
      case rel => exact ⟨i + 1, by go_num, by rw [HN.out]; go_num, by omega, trivial⟩
      case measure => simp [intOf]; omega
    · have hj2 : ¬ (i : Int) < (ls.length : Int) := by omega
      have hj3 : decide ((i : Int) < (ls.length : Int)) = false := decide_eq_false hj2
      rw [show lenA ls i = T by rw [show i = ls.length by omega, lenA_all, HTE.out]]
      clear hlt hi
      go_wp2_with (first | (go_at_call 115; refine HG.out.mono ?_; rintro e w2 ⟨v2, rfl, hv2, hb2⟩; have HO2 := Lib.hid hv2; clear hv2))
      clear hj2 hj3
      have hO2 : OwnL w2 w.heap.size (fun b => S b ∧ b < w.heap.size) [] v2 := HO2.out.keep (Keeps.weak fun _ h => h.elim) (fun _ _ => rfl)
      go_loopw [6, 27] (fun vv vi wr => ∃ (j : Nat) (v : Value), vi = .int .i64 j ∧ v = vv ∧ j ≤ ls.length ∧ Hid (OwnL wr w.heap.size (fun b => S b ∧ b < w.heap.size) (ls.take j).flatten v) ∧ Below w.heap.size w wr) (fun _ v _ => ls.length - (intOf v).toNat)
      case atStart => exact ⟨0, v2, rfl, rfl, by omega, Lib.hid hO2, hb2⟩
      case round =>
        obtain ⟨j, v, rfl, rfl, hj, HO, hf⟩ := hrel
        by_cases hlt : j < ls.length
        · obtain ⟨_, _, e, _, _, hat⟩ := HL.out.keep (w' := wr) (S' := fun b => S b ∧ b < w.heap.size) (Keeps.below_to hf fun b h1 h2 => ⟨h2, h1⟩)
          simp only [Value.slice.injEq, Option.some.injEq, true_and] at e
          obtain ⟨rfl, rfl⟩ := e
          obtain ⟨hs, u, ⟨A, c, rfl, hcA, hlA, hA⟩, hcell⟩ := hat j _ (List.getElem?_eq_getElem hlt)
          clear hat
          have hla := World.block_lt_of_cell? wr _ hcell
          have hown := HO.out.own_lt
          have HA := Lib.hid (hA.keep (w' := wr) (S' := fun b => (S b ∧ b < w.heap.size) ∧ some b ≠ v.ownBlock) (Keeps.weak fun b h => ⟨h, fun e => by have := (hown b e.symm).1; omega⟩))
          have HK := Lib.hid (take_flat ls j hlt)
          have h1 := lenA_succ ls j hlt
          have h2 := lenA_le ls (j + 1)
          rw [HTE.out] at h2
          have HLE := Lib.hid (show (ls.take j).flatten.length + (ls[j]).length ≤ 4294967296 by have := HT.out; unfold lenA at h1 h2; omega)
          have i4 : (j : Int) < (ls.length : Int) := by omega
          have hsz := hf.size
          clear hown hA h1 h2
          obtain ⟨mm, hmm⟩ : ∃ mm, ls[j] = mm := ⟨_, rfl⟩
          rw [hmm] at hcell HA HK HLE hcA hlA
          clear hmm
          go_wp2_with (first | (at_builtin; refine append_many w.heap.size (fun b => S b ∧ b < w.heap.size) rfl _ _ rfl v (ls.take j).flatten mm A c rfl rfl HO.out HA.out hsz HLE.out ?_; intro v3 w3 hO3 hg3; have hb3 := Below.grown hf hg3 hsz (fun k hk => (HO.out.own_lt k hk).1); rw [← HK.out] at hO3; have HO3 := Lib.hid hO3; clear hO3))
          go_roundw
          case rel => exact ⟨j + 1, v3, by go_num, rfl, by omega, HO3, hb3⟩
          case measure => simp [intOf]; omega
        · have hj2 : ¬ (j : Int) < (ls.length : Int) := by omega
          have hj3 : decide ((j : Int) < (ls.length : Int)) = false := decide_eq_false hj2
          have hO := HO.out
          rw [show j = ls.length by omega, List.take_length] at hO
          clear HO
          have HO := Lib.hid hO
          clear hO
          go_wp2_with fail
          go_ret
          exact ⟨_, rfl, HO.out.is (S' := Old w S) (fun b h => .inl h) (fun b (h : w.heap.size ≤ b) => .inr h) (by rw [HTE.out]; exact HT.out), hf⟩
end Go.Proofs.YtjjbhnkplbjfeaaDoor

/- A deque built of lists; the ends. -/
set_option linter.unusedVariables false
set_option linter.unusedSimpArgs false
namespace Go.Proofs.YtjjbhnkplbjfeaaDoor
open Go.RowKit
attribute [local go_sem] lt_succ_of

set_option maxRecDepth 100000 in
theorem built_new (ls : List (List V)) (vl : Value) (w : World) (S : Nat → Prop) (h : IsLL w S ls vl) (ht : ls.flatten.length ≤ 4294967296) (hok : listE ls.flatten = 0) (hT : Lib.Utf8Tabs 1 2 w) :
    Calls Tryd.prog 85 #[vl] w fun e w' => ∃ b, e = .returned (.pointer (some ⟨b, 0, none⟩)) ∧ IsE w' (fun k => w.heap.size ≤ k) ls.flatten b ∧ Below w.heap.size w w' := by
  have HC := Lib.hid (concat_calls ls vl w S h ht)
  have HT := Lib.hid hT
  have HOK := Lib.hid hok
  obtain ⟨L, hL⟩ : ∃ L, ls.flatten = L := ⟨_, rfl⟩
  rw [hL] at HC HOK ⊢
  clear h ht hT hok hL
  go_enter Tryd.func85, Tryd.ntmps85
  go_wp2_with (first
    | (go_at_call 108; refine HC.out.mono ?_; rintro e w2 ⟨v2, rfl, hv2, hb2⟩; have HOF := dof_calls L _ w2 _ hv2 (tabs_below HT.out hb2); rw [HOK.out] at HOF; have HOF := Lib.hid HOF; clear hv2)
    | (go_at_call 13; refine HOF.out.mono ?_; rintro e w3 ⟨p, rfl, hp, hb3'⟩; obtain ⟨b, rfl, hv⟩ := (hp.resolve_left (fun h => h.1 rfl)).2; have HV := Lib.hid (hv.keep (S' := fun k => w.heap.size ≤ k) (Keeps.weak fun k hk => Nat.le_trans hb2.size hk)); have hb3 := below_then hb2 hb2.size hb3'; clear hp hv))
  go_ret
  exact ⟨_, rfl, HV.out, hb3⟩
theorem built_calls (ls : List (List V)) (vl : Value) (w : World) (S : Nat → Prop) (h : IsLL w S ls vl) (ht : ls.flatten.length ≤ 4294967296) (hok : listE ls.flatten = 0) (hT : Lib.Utf8Tabs 1 2 w) :
    Calls Tryd.prog 85 #[vl] w fun e w' => ∃ b, e = .returned (.pointer (some ⟨b, 0, none⟩)) ∧ IsE w' (fun _ => True) ls.flatten b ∧ Below w.heap.size w w' := by
  refine (built_new ls vl w S h ht hok hT).mono ?_
  rintro e w' ⟨b, h1, h2, h3⟩
  exact ⟨b, h1, h2.all, h3⟩
/-- Is it a place between? -/
theorem ends_calls (l : List V) (p : Option Addr) (from_ to : Int) (w : World) (S : Nat → Prop) (h : IsD w S l p) :
    Calls Tryd.prog 89 #[.pointer p, .int .i64 from_, .int .i64 to] w fun e w' => e = .returned (.bool (decide (0 ≤ from_ ∧ from_ ≤ to ∧ to ≤ (l.length : Int)))) ∧ w = w' := by
  have HLN := Lib.hid (len_calls l _ w S h)
  clear h
  by_cases h1 : 0 ≤ from_
  · by_cases h2 : from_ ≤ to
    · by_cases h3 : to ≤ (l.length : Int)
      · rw [decide_eq_true (show 0 ≤ from_ ∧ from_ ≤ to ∧ to ≤ (l.length : Int) from ⟨h1, h2, h3⟩)]
        have d1 : decide (0 ≤ from_) = true := decide_eq_true h1
        have d2 : decide (from_ ≤ to) = true := decide_eq_true h2
        have d3 : decide (to ≤ (l.length : Int)) = true := decide_eq_true h3
        clear h1 h2 h3
        go_enter Tryd.func89, Tryd.ntmps89
        go_wp2_with (go_at_call 33; refine HLN.out.mono ?_; rintro e w2 ⟨rfl, rfl⟩)
        go_ret
        exact ⟨rfl, rfl⟩
      · rw [decide_eq_false (show ¬ (0 ≤ from_ ∧ from_ ≤ to ∧ to ≤ (l.length : Int)) from fun h => h3 h.2.2)]
        have d1 : decide (0 ≤ from_) = true := decide_eq_true h1
        have d2 : decide (from_ ≤ to) = true := decide_eq_true h2
        have d3 : decide (to ≤ (l.length : Int)) = false := decide_eq_false h3
        clear h1 h2 h3
        go_enter Tryd.func89, Tryd.ntmps89
        go_wp2_with (go_at_call 33; refine HLN.out.mono ?_; rintro e w2 ⟨rfl, rfl⟩)
        go_ret
        exact ⟨rfl, rfl⟩
    · rw [decide_eq_false (show ¬ (0 ≤ from_ ∧ from_ ≤ to ∧ to ≤ (l.length : Int)) from fun h => h2 h.2.1)]
      have d1 : decide (0 ≤ from_) = true := decide_eq_true h1
      have d2 : decide (from_ ≤ to) = false := decide_eq_false h2
      clear h1 h2
      go_enter Tryd.func89, Tryd.ntmps89
      go_wp2_with fail
      go_ret
      exact ⟨rfl, rfl⟩
  · rw [decide_eq_false (show ¬ (0 ≤ from_ ∧ from_ ≤ to ∧ to ≤ (l.length : Int)) from fun h => h1 h.1)]
    have d1 : decide (0 ≤ from_) = false := decide_eq_false h1
    clear h1
    go_enter Tryd.func89, Tryd.ntmps89
    go_wp2_with fail
    go_ret
    exact ⟨rfl, rfl⟩
end Go.Proofs.YtjjbhnkplbjfeaaDoor
